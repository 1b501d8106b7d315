import Derived.Test.Qxb6500293aGreatRRM7
import Derived.Test.Qxb6500293aGreatRRW6
namespace Go.Proofs.Qxb6500293aGreatRR
open Go.RowKit
open Ieee (double Datum)
set_option linter.unusedVariables false
attribute [local go_sem] run_frombits run_tobits run_negf

/-- A word, every NaN made THE NaN. -/
def canon (x : Nat) : Nat := if 2047 * 2 ^ 52 < x % 2 ^ 63 then nanV else x
theorem canon_nan {x : Nat} (h : 2047 * 2 ^ 52 < x % 2 ^ 63) : canon x = nanV := if_pos h
theorem canon_num {x : Nat} (h : x % 2 ^ 63 ≤ 2047 * 2 ^ 52) : canon x = x := if_neg (by omega)
theorem nanV_nan : 2047 * 2 ^ 52 < nanV % 2 ^ 63 := by decide
/-- Nothing but the draws is gone on. -/
structure Dr (w w' : World) : Prop where
  os : w'.os = w.os
  tape : w'.tape = w.tape
  output : w'.output = w.output
  heap : w'.heap = w.heap
theorem Dr.refl (w : World) : Dr w w := ⟨rfl, rfl, rfl, rfl⟩
theorem Dr.drew (w : World) : Dr w w.drew := ⟨rfl, rfl, rfl, rfl⟩
theorem Dr.trans {x y z : World} (h : Dr x y) (k : Dr y z) : Dr x z := ⟨k.os.trans h.os, k.tape.trans h.tape, k.output.trans h.output, k.heap.trans h.heap⟩
theorem Dr.stp {x y : World} (h : Dr x y) (b : Nat) : Stp b x y := ⟨h.os, h.tape, h.output, by rw [h.heap]; exact Nat.le_refl _, fun k _ _ => by rw [h.heap]⟩

theorem nearest_rung (s : Bool) (m : Nat) (e : Int) : double.nearest s m e % 2 ^ 63 ≤ 2047 * 2 ^ 52 := by
  have h := Fl.nearest_false_le m e
  cases s
  · omega
  · rw [nearest_true]; omega
theorem write_rung {d : Datum} (h : ∀ s t, d ≠ .nan s t) : double.write d % 2 ^ 63 ≤ 2047 * 2 ^ 52 := by
  cases d with
  | nan s t => exact absurd rfl (h s t)
  | infinity s =>
    show double.word s double.infRung % 2 ^ 63 ≤ _
    rw [Fl.infRung_eq, Fl.word_mod s (by omega)]; exact Nat.le_refl _
  | number s m e => exact nearest_rung s m e

/-- One float operation: a float that stands for W; the draws alone may go on. -/
structure FopAt (run : World → Result Value) (W : Nat) (fr : World → Nat) (fw : World → World) : Prop where
  run : ∀ w, run w = .ok (.float .f64 (fr w)) (fw w)
  val : ∀ w, canon (fr w) = W
  dr : ∀ w, Dr w (fw w)

theorem cut_nan (a b t : Nat) : 2047 * 2 ^ 52 < Question.cut (.nanBits .f64 a b) t % 2 ^ 63 := by
  show 2047 * 2 ^ 52 < ((t % 2) * 2 ^ 63 + 0x7ff0000000000000 + 1 + (t / 2) % (2 ^ 52 - 1)) % 2 ^ 63
  have hz : (t / 2) % (2 ^ 52 - 1) < 2 ^ 52 - 1 := Nat.mod_lt _ (by decide)
  generalize (t / 2) % (2 ^ 52 - 1) = z at *
  rcases Nat.mod_two_eq_zero_or_one t with h | h <;> rw [h] <;> omega
theorem run_float_nan (P : Program) (op : BinOp) (t : TypeId) (x y : Nat) (h : (op = .add ∧ double.add x y = none) ∨ (op = .sub ∧ double.sub x y = none) ∨ (op = .mul ∧ double.mul x y = none) ∨ (op = .quo ∧ double.div x y = none)) (w : World) :
    (binOp op t (.float .f64 x) (.float .f64 y)).run P w = .ok (.float .f64 (Question.cut (.nanBits .f64 x y) (w.tape w.drawn (.nanBits .f64 x y)))) w.drew := by
  rcases h with ⟨rfl, h⟩ | ⟨rfl, h⟩ | ⟨rfl, h⟩ | ⟨rfl, h⟩
  all_goals
    simp [binOp, Op.floatArith, FloatKind.format, h, Question.forced]
theorem fop_of (P : Program) (op : BinOp) (t : TypeId) (x y : Nat) (o : Option Datum) (ho : ∀ d, o = some d → ∀ s t, d ≠ .nan s t)
    (h : (op = .add ∧ double.add x y = o.map double.write) ∨ (op = .sub ∧ double.sub x y = o.map double.write) ∨ (op = .mul ∧ double.mul x y = o.map double.write) ∨ (op = .quo ∧ double.div x y = o.map double.write)) :
    ∃ fr fw, FopAt (fun w => (binOp op t (.float .f64 x) (.float .f64 y)).run P w) ((o.map double.write).getD nanV) fr fw := by
  cases o with
  | none =>
    refine ⟨fun w => Question.cut (.nanBits .f64 x y) (w.tape w.drawn (.nanBits .f64 x y)), fun w => w.drew, fun w => run_float_nan P op t x y h w, fun w => canon_nan (cut_nan ..), fun w => Dr.drew w⟩
  | some d =>
    refine ⟨fun _ => double.write d, fun w => w, fun w => run_float_arith w op t .f64 x y _ ?_, fun w => canon_num (write_rung (ho d rfl)), fun w => Dr.refl w⟩
    rcases h with ⟨rfl, h⟩ | ⟨rfl, h⟩ | ⟨rfl, h⟩ | ⟨rfl, h⟩ <;> exact h
theorem fop_add (P : Program) (t : TypeId) (x y : Nat) : ∃ fr fw, FopAt (fun w => (binOp .add t (.float .f64 x) (.float .f64 y)).run P w) (addW x y) fr fw :=
  fop_of P .add t x y _ (fun _ => sum_not_nan) (.inl ⟨rfl, rfl⟩)
theorem sub_addW' (a b : Nat) (hb : canon b < 18446744073709551616) : (double.sub a b).getD nanV = addW a (flipS b) := by
  by_cases c : 2047 * 2 ^ 52 < b % 2 ^ 63
  · rw [addW_nan (.inr (by rw [flipS_mod]; exact c))]
    unfold Ieee.Format.sub
    obtain ⟨s, t, e⟩ := read_nanx c
    rw [e]
    cases double.read a <;> rfl
  · rw [canon_num (by omega)] at hb
    exact sub_addW a b hb
theorem fop_sub (P : Program) (t : TypeId) (x y : Nat) (hy : canon y < 18446744073709551616) : ∃ fr fw, FopAt (fun w => (binOp .sub t (.float .f64 x) (.float .f64 y)).run P w) (addW x (flipS y)) fr fw := by
  rw [← sub_addW' x y hy]
  exact fop_of P .sub t x y _ (fun _ => sum_not_nan) (.inr (.inl ⟨rfl, rfl⟩))
theorem fop_mul (P : Program) (t : TypeId) (x y : Nat) : ∃ fr fw, FopAt (fun w => (binOp .mul t (.float .f64 x) (.float .f64 y)).run P w) (mulW x y) fr fw :=
  fop_of P .mul t x y _ (fun _ => product_not_nan) (.inr (.inr (.inl ⟨rfl, rfl⟩)))
theorem fop_div (P : Program) (t : TypeId) (x y : Nat) : ∃ fr fw, FopAt (fun w => (binOp .quo t (.float .f64 x) (.float .f64 y)).run P w) (divW x y) fr fw :=
  fop_of P .quo t x y _ (fun _ => quotient_not_nan) (.inr (.inr (.inr ⟨rfl, rfl⟩)))

theorem order_refl {r : Nat} (hr : r < 18446744073709551616) (h : r % 2 ^ 63 ≤ 2047 * 2 ^ 52) : FloatKind.f64.format.order r r = some .eq := by
  show double.order r r = some .eq
  have := Fl.order_word (neg r) (neg r) h h
  rw [← word_neg hr] at this
  rw [this]; simp

set_option maxHeartbeats 400000 in
theorem bits_nan (r : Nat) (w : World) (h : FloatKind.f64.format.order r r = none) :
    Calls Tryz.prog 125 #[.float .f64 r] w fun e w' => e = .returned (.int .u64 nanV) ∧ w' = w := by
  go_enter Tryz.func125, Tryz.ntmps125
  go_wp2
  go_ret
  exact ⟨rfl, rfl⟩
theorem bits_any (r : Nat) (w : World) (hr : canon r < 18446744073709551616) :
    Calls Tryz.prog 125 #[.float .f64 r] w fun e w' => e = .returned (.int .u64 (canon r : Nat)) ∧ w' = w := by
  by_cases c : 2047 * 2 ^ 52 < r % 2 ^ 63
  · rw [canon_nan c]; exact bits_nan r w (Fl.order_nan_left c)
  · rw [canon_num (by omega)] at hr ⊢
    exact bits_num r w (order_refl hr (by omega))

theorem quiet_nan (s : Bool) {t : Nat} (ht : t < 2 ^ 52) : 2047 * 2 ^ 52 < double.write (.nan s (double.quiet t)) % 2 ^ 63 := by
  have h1 : double.quiet t = t ||| 2 ^ 51 := rfl
  have h2 : t ||| 2 ^ 51 < 2 ^ 52 := Nat.or_lt_two_pow ht (by decide)
  have h3 : 2 ^ 51 ≤ t ||| 2 ^ 51 := Nat.right_le_or
  show 2047 * 2 ^ 52 < double.word s (double.infRung + double.quiet t % double.binade) % 2 ^ 63
  rw [Fl.infRung_eq, Fl.binade_eq, h1]
  generalize t ||| 2 ^ 51 = z at *
  rw [Fl.word_mod s (by omega)]; omega

theorem run_archFloor_nan (x : Nat) (h : 2047 * 2 ^ 52 < x % 2 ^ 63) : ∃ (fr : World → Nat) (fw : World → World), (∀ w, (callFunc 129 #[.float .f64 x]).run Tryz.prog w = .ok (.value (.float .f64 (fr w))) (fw w)) ∧ (∀ w, 2047 * 2 ^ 52 < fr w % 2 ^ 63) ∧ ∀ w, Dr w (fw w) := by
  obtain ⟨q, ht⟩ : ∃ q : Question, Extern.MathFloor.toIntegral "math.archFloor" .down #[.float .f64 x] = (match double.read x with
    | .nan s t =>
      if FloatKind.f64.format.quiet t = t then pure (.float .f64 x) else do
      let kept ← choose q
      pure (.float .f64 (if kept == 1 then x else FloatKind.f64.encode (.nan s (FloatKind.f64.format.quiet t))))
    | d => pure (.float .f64 (FloatKind.f64.encode (d.integral .down)))) := ⟨_, rfl⟩
  have hr : double.read x = .nan (x / 2 ^ 63 % 2 == 1) (x % 2 ^ 63 - 2047 * 2 ^ 52) := by rw [Fl.read_eq, Fl.rd_nan _ h]
  have htl : x % 2 ^ 63 - 2047 * 2 ^ 52 < 2 ^ 52 := by omega
  rw [hr] at ht
  generalize x % 2 ^ 63 - 2047 * 2 ^ 52 = t at *
  generalize (x / 2 ^ 63 % 2 == 1) = s at *
  have hrun : ∀ w, (callFunc 129 #[.float .f64 x]).run Tryz.prog w = _ := run_callFunc_extern (fn := Tryz.f129) (e := Extern.MathFloor.toIntegral "math.archFloor" .down) Tryz.func129 (by kernel_rfl) (by kernel_rfl) (by kernel_rfl) (by kernel_rfl) _
  simp only [hrun, ht]
  by_cases c : FloatKind.f64.format.quiet t = t
  · refine ⟨fun _ => x, fun w => w, fun w => ?_, fun w => h, fun w => Dr.refl w⟩
    simp [c]
  · refine ⟨fun w => if q.forced then double.write (.nan s (double.quiet t)) else if q.cut (w.tape w.drawn q) == 1 then x else double.write (.nan s (double.quiet t)), fun w => if q.forced then w else w.drew, fun w => ?_, fun w => ?_, fun w => ?_⟩
    · simp only [if_neg c]
      by_cases f : q.forced = true
      · simp [f]; rfl
      · simp [f]; rfl
    · dsimp only
      by_cases f : q.forced = true
      · rw [if_pos f]; exact quiet_nan s htl
      · rw [if_neg f]
        split
        · exact h
        · exact quiet_nan s htl
    · dsimp only
      by_cases f : q.forced = true
      · rw [if_pos f]; exact Dr.refl w
      · rw [if_neg f]; exact Dr.drew w

set_option maxHeartbeats 800000 in
theorem floor_R (x W : Nat) (w : World) (hW : canon x = W) (hl : W < 18446744073709551616) :
    Calls Tryz.prog 124 #[.float .f64 x] w fun e w' => ∃ r, e = .returned (.float .f64 r) ∧ canon r = floorW W ∧ Dr w w' := by
  by_cases c : 2047 * 2 ^ 52 < x % 2 ^ 63
  · rw [canon_nan c] at hW
    subst hW
    rw [floorW_nan nanV_nan]
    obtain ⟨fr, fw, q, h1, h2⟩ := run_archFloor_nan x c
    have H1 : Hid (∀ w, canon (fr w) = nanV) := fun w => canon_nan (h1 w)
    have H2 : Hid (∀ w, Dr w (fw w)) := h2
    clear h1 h2 c
    go_enter Tryz.func124, Tryz.ntmps124
    go_wp2
    go_ret
    exact ⟨_, rfl, H1.out _, H2.out _⟩
  · rw [canon_num (by omega)] at hW
    subst hW
    refine (floor_any x w (by omega)).mono ?_
    rintro e w' ⟨rfl, rfl⟩
    refine ⟨_, rfl, ?_, Dr.refl _⟩
    have hle := floorW_real (x := x) (by omega)
    rw [← hle]
    refine canon_num ?_
    by_cases d : x % 2 ^ 63 = 2047 * 2 ^ 52
    · rw [floorW_inf hl d]; omega
    · rw [floorW_fin hl (by omega)]; exact nearest_rung ..

theorem mulW_canon (x b : Nat) : mulW x b = mulW (canon x) b := by
  by_cases c : 2047 * 2 ^ 52 < x % 2 ^ 63
  · rw [canon_nan c, mulW_nan (.inl c), mulW_nan (.inl nanV_nan)]
  · rw [canon_num (by omega)]
theorem addW_flip_canon (a x : Nat) : addW a (flipS x) = addW a (flipS (canon x)) := by
  by_cases c : 2047 * 2 ^ 52 < x % 2 ^ 63
  · rw [canon_nan c, addW_nan (.inr (by rw [flipS_mod]; exact c)), addW_nan (.inr (by rw [flipS_mod]; exact nanV_nan))]
  · rw [canon_num (by omega)]

theorem canon_lt {x : Nat} (h : x < 18446744073709551616) : canon x < 18446744073709551616 := by
  unfold canon; split
  · decide
  · exact h
theorem arithW_lt (op : Int) (a b : Nat) : arithW op a b < 18446744073709551616 := by
  unfold arithW
  split; · exact addW_lt ..
  split; · exact addW_lt ..
  split; · exact mulW_lt ..
  split; · exact divW_lt ..
  split; · exact floorW_lt _ (divW_lt ..)
  split; · exact addW_lt ..
  decide

set_option maxHeartbeats 3200000 in
theorem arith_R (p : Value) (op : Int) (a b : Nat) (w : World) (ha : a < 18446744073709551616) (hb : b < 18446744073709551616) :
    Calls Tryz.prog 118 #[p, .int .i64 op, .int .u64 a, .int .u64 b] w fun e w' => e = .returned (.int .u64 (arithW op a b : Nat)) ∧ Dr w w' := by
  have hlt := arithW_lt op a b
  rcases (by omega : op = 1 ∨ op = 2 ∨ op = 3 ∨ op = 4 ∨ op = 5 ∨ op = 6 ∨ (op ≠ 1 ∧ op ≠ 2 ∧ op ≠ 3 ∧ op ≠ 4 ∧ op ≠ 5 ∧ op ≠ 6)) with rfl | rfl | rfl | rfl | rfl | rfl | ⟨h1, h2, h3, h4, h5, h6⟩
  · obtain ⟨fr, fw, F⟩ := fop_add Tryz.prog 141 a b
    have q := F.run
    have HB := fun w w' => bits_any (fr w) w' (by rw [F.val]; exact hlt)
    have HC : Hid (∀ w, Dr w (fw w)) := F.dr
    simp only [F.val] at HB
    clear F
    go_enter Tryz.func118, Tryz.ntmps118
    go_wp2_with fail
    refine (HB _ _).mono ?_; rintro e w' ⟨rfl, rfl⟩
    go_wp2
    go_ret
    exact ⟨rfl, HC.out _⟩
  · obtain ⟨fr, fw, F⟩ := fop_sub Tryz.prog 141 a b (canon_lt hb)
    have q := F.run
    have HB := fun w w' => bits_any (fr w) w' (by rw [F.val]; exact hlt)
    have HC : Hid (∀ w, Dr w (fw w)) := F.dr
    simp only [F.val] at HB
    clear F
    go_enter Tryz.func118, Tryz.ntmps118
    go_wp2_with fail
    refine (HB _ _).mono ?_; rintro e w' ⟨rfl, rfl⟩
    go_wp2
    go_ret
    exact ⟨rfl, HC.out _⟩
  · obtain ⟨fr, fw, F⟩ := fop_mul Tryz.prog 141 a b
    have q := F.run
    have HB := fun w w' => bits_any (fr w) w' (by rw [F.val]; exact hlt)
    have HC : Hid (∀ w, Dr w (fw w)) := F.dr
    simp only [F.val] at HB
    clear F
    go_enter Tryz.func118, Tryz.ntmps118
    go_wp2_with fail
    refine (HB _ _).mono ?_; rintro e w' ⟨rfl, rfl⟩
    go_wp2
    go_ret
    exact ⟨rfl, HC.out _⟩
  · obtain ⟨fr, fw, F⟩ := fop_div Tryz.prog 141 a b
    have q := F.run
    have HB := fun w w' => bits_any (fr w) w' (by rw [F.val]; exact hlt)
    have HC : Hid (∀ w, Dr w (fw w)) := F.dr
    simp only [F.val] at HB
    clear F
    go_enter Tryz.func118, Tryz.ntmps118
    go_wp2_with fail
    refine (HB _ _).mono ?_; rintro e w' ⟨rfl, rfl⟩
    go_wp2
    go_ret
    exact ⟨rfl, HC.out _⟩
  · obtain ⟨fr, fw, F⟩ := fop_div Tryz.prog 141 a b
    have q := F.run
    have HF := fun w w' => floor_R (fr w) (divW a b) w' (F.val w) (divW_lt a b)
    have HC : Hid (∀ w, Dr w (fw w)) := F.dr
    have hlt5 : floorW (divW a b) < 18446744073709551616 := floorW_lt _ (divW_lt a b)
    have HV : Hid (arithW 5 a b = floorW (divW a b)) := rfl
    generalize floorW (divW a b) = V at *
    clear F
    go_enter Tryz.func118, Tryz.ntmps118
    go_wp2_with fail
    refine (HF _ _).mono ?_; rintro e w' ⟨r, rfl, hr, d1⟩
    have d1 : Hid (Dr _ _) := d1
    go_wp2_with fail
    refine (bits_any r _ (by rw [hr]; exact hlt5)).mono ?_; rintro e w' ⟨rfl, rfl⟩
    go_wp2
    go_ret
    rw [HV.out]
    exact ⟨by first | rfl | rw [hr], (HC.out _).trans d1.out⟩
  · obtain ⟨fr, fw, F⟩ := fop_div Tryz.prog 141 a b
    have q := F.run
    have HF := fun w w' => floor_R (fr w) (divW a b) w' (F.val w) (divW_lt a b)
    have HC : Hid (∀ w, Dr w (fw w)) := F.dr
    have hlt5 : floorW (divW a b) < 18446744073709551616 := floorW_lt _ (divW_lt a b)
    have HV : Hid (arithW 6 a b = addW a (flipS (mulW (floorW (divW a b)) b))) := rfl
    generalize floorW (divW a b) = V at *
    clear F
    go_enter Tryz.func118, Tryz.ntmps118
    go_wp2_with fail
    refine (HF _ _).mono ?_; rintro e w1 ⟨r, rfl, hr, d1⟩
    have d1 : Hid (Dr _ _) := d1
    obtain ⟨gr, gw, G⟩ := fop_mul Tryz.prog 141 r b
    have q2 := G.run
    have hgv := G.val
    have G1 : Hid (∀ w, Dr w (gw w)) := G.dr
    have hmv : mulW r b = mulW V b := by rw [mulW_canon, hr]
    have hml := mulW_lt V b
    obtain ⟨er, ew, E⟩ : ∃ (er : World → World → Nat) (ew : World → World → World), ∀ w, FopAt (fun w' => (binOp .sub 141 (.float .f64 a) (.float .f64 (gr w))).run Tryz.prog w') (addW a (flipS (gr w))) (er w) (ew w) := by
      have := fun w => fop_sub Tryz.prog 141 a (gr w) (by rw [hgv, hmv]; exact hml)
      exact ⟨fun w => (this w).choose, fun w => (this w).choose_spec.choose, fun w => (this w).choose_spec.choose_spec⟩
    have q3 := fun w => (E w).run
    have HEv : ∀ w w', canon (er w w') = arithW 6 a b := by
      intro w w'
      rw [(E w).val, addW_flip_canon, hgv, hmv, HV.out]
    have E1 : Hid (∀ w w', Dr w' (ew w w')) := fun w w' => (E w).dr w'
    have HB := fun w w' w2 => bits_any (er w w') w2 (by rw [HEv]; exact hlt)
    simp only [HEv] at HB
    clear G E hgv hmv hml HEv hr HF
    go_wp2_with fail
    refine (HB _ _ _).mono ?_; rintro e w' ⟨rfl, rfl⟩
    go_wp2
    go_ret
    exact ⟨rfl, ((HC.out _).trans d1.out).trans ((G1.out _).trans (E1.out _ _))⟩
  · have HV : Hid (arithW op a b = nanV) := by
      show _ = _
      unfold arithW
      rw [if_neg h1, if_neg h2, if_neg h3, if_neg h4, if_neg h5, if_neg h6]
    go_enter Tryz.func118, Tryz.ntmps118
    go_wp2
    go_ret
    rw [HV.out]; exact ⟨rfl, Dr.refl _⟩
end Go.Proofs.Qxb6500293aGreatRR
