/-
  proto walked.
-/
import Derived.Test.Qxb6500293aGreatRRL3
import Derived.Deep.CutRange
import Derived.Deep.LoopGhost
import Derived.BigRegion
import Derived.Test.Qxb6500293aGreatRRSp
namespace Go.Proofs.Qxb6500293aGreatRR
open Go.RowKit
open Ieee (double)
set_option linter.unusedVariables false
set_option linter.unusedSimpArgs false

abbrev prO (np ns up nup k nk co nc : Nat) : Obj := .cells #[.int .i64 (np : Int), .int .i64 (ns : Int), .int .i64 (up : Int), .int .i64 (nup : Int), .int .i64 (k : Int), .int .i64 (nk : Int), .int .i64 (co : Int), .int .i64 (nc : Int)] 91
theorem cells8 {w : World} {b : Nat} {x0 x1 x2 x3 x4 x5 x6 x7 : Value} {ty : TypeId} (h : w.heap[b]? = some (.cells #[x0, x1, x2, x3, x4, x5, x6, x7] ty)) : w.cell? ⟨b, 0, none⟩ = some x0 ∧ w.cell? ⟨b, 1, none⟩ = some x1 ∧ w.cell? ⟨b, 2, none⟩ = some x2 ∧ w.cell? ⟨b, 3, none⟩ = some x3 ∧ w.cell? ⟨b, 4, none⟩ = some x4 ∧ w.cell? ⟨b, 5, none⟩ = some x5 ∧ w.cell? ⟨b, 6, none⟩ = some x6 ∧ w.cell? ⟨b, 7, none⟩ = some x7 ∧ ∀ k, w.frozen? ⟨b, k, none⟩ = false := by
  simp [World.cell?, World.frozen?, h]
/-- One cell of a box is stored. -/
theorem box_set {w : World} {b k : Nat} {cs : Array Value} {ty : TypeId} (h : w.heap[b]? = some (.cells cs ty)) (hk : k < cs.size) (x : Value) : (w.setCell ⟨b, k, none⟩ x).heap[b]? = some (.cells (cs.set! k x) ty) := by
  have hb : b < w.heap.size := (Array.getElem?_eq_some_iff.1 h).1
  simp [World.setCell, Array.getElem?_modify, h]
section
variable {own : Nat → Nat} {W w : World} {m a nb tp : Nat} {M : Mc}
theorem Vm.lens (HV : Vm own W m a nb tp M) : (∃ ad cp, W.cell? ⟨m, 2, none⟩ = some (.slice ad M.pr.length cp)) ∧ (∃ ad cp, W.cell? ⟨m, 3, none⟩ = some (.slice ad M.ds.length cp)) ∧ (∃ ad cp, W.cell? ⟨m, 4, none⟩ = some (.slice ad M.ks.length cp)) ∧ (∃ ad cp, W.cell? ⟨m, 5, none⟩ = some (.slice ad M.co.length cp)) := by
  obtain ⟨ad0, cp0, h0⟩ := HV.len 0 (by omega)
  obtain ⟨ad1, cp1, h1⟩ := HV.len 1 (by omega)
  obtain ⟨ad2, cp2, h2⟩ := HV.len 2 (by omega)
  obtain ⟨ad3, cp3, h3⟩ := HV.len 3 (by omega)
  exact ⟨⟨ad0, cp0, h0 []⟩, ⟨ad1, cp1, h1 []⟩, ⟨ad2, cp2, h2 []⟩, ⟨ad3, cp3, h3 []⟩⟩
end
theorem descs_stop {g : Nat} {r : Rd} {ds : List (Nat × Nat)} (h : g = 0 ∨ r.bad = true) : descsF g r ds = (r, ds, false) := by
  cases g with
  | zero => rfl
  | succ g =>
    rcases h with h | h
    · cases h
    · unfold descsF; rw [if_pos h]
theorem descs_ret {g : Nat} {r : Rd} {ds : List (Nat × Nat)} (h : r.bad = false) (h2 : (takeP r 2).1.bad = true ∨ 1 < byte (takeP r 2).2 0) : descsF (g + 1) r ds = ((takeP r 2).1.spoil, ds, true) := by
  show (if r.bad = true then _ else _) = _
  rw [if_neg (by rw [h]; decide), if_pos h2]
theorem descs_go {g : Nat} {r : Rd} {ds : List (Nat × Nat)} (h : r.bad = false) (h2 : ¬ ((takeP r 2).1.bad = true ∨ 1 < byte (takeP r 2).2 0)) : descsF (g + 1) r ds = descsF g (takeP r 2).1 (ds ++ [(byte (takeP r 2).2 0, byte (takeP r 2).2 1)]) := by
  show (if r.bad = true then _ else _) = _
  rw [if_neg (by rw [h]; decide), if_neg h2]
theorem consts_stop {g : Nat} {r : Rd} {ks : List V} (h : g = 0 ∨ r.bad = true) : constsF g r ks = (r, ks) := by
  cases g with
  | zero => rfl
  | succ g =>
    rcases h with h | h
    · cases h
    · unfold constsF; rw [if_pos h]
theorem consts_go {g : Nat} {r : Rd} {ks : List V} (h : r.bad = false) : constsF (g + 1) r ks = constsF g (constP r ks).1 (constP r ks).2 := by
  show (if r.bad = true then _ else _) = _
  rw [if_neg (by rw [h]; decide)]
theorem code_stop {g : Nat} {r : Rd} {co : List (Nat × Nat)} (h : g = 0 ∨ r.bad = true) : codeF g r co = (r, co, false) := by
  cases g with
  | zero => rfl
  | succ g =>
    rcases h with h | h
    · cases h
    · unfold codeF; rw [if_pos h]
theorem code_ret {g : Nat} {r : Rd} {co : List (Nat × Nat)} (h : r.bad = false) (h2 : (takeP r 3).1.bad = true) : codeF (g + 1) r co = ((takeP r 3).1, co, true) := by
  show (if r.bad = true then _ else _) = _
  rw [if_neg (by rw [h]; decide), if_pos h2]
theorem code_go {g : Nat} {r : Rd} {co : List (Nat × Nat)} (h : r.bad = false) (h2 : (takeP r 3).1.bad = false) : codeF (g + 1) r co = codeF g (takeP r 3).1 (co ++ [(byte (takeP r 3).2 0, byte (takeP r 3).2 1 + 256 * byte (takeP r 3).2 2)]) := by
  show (if r.bad = true then _ else _) = _
  rw [if_neg (by rw [h]; decide), if_neg (by rw [h2]; decide)]
theorem protoA_ret {p : Pr} {r1 r' : Rd} {M : Mc} {dk : List (Nat × Nat)} (h : descsF p.nup r1 M.ds = (r', dk, true)) : protoA p r1 M = (r', { M with ds := dk }) := by
  unfold protoA
  rw [h]
  rfl
theorem protoA_go {p : Pr} {r1 r' : Rd} {M : Mc} {dk : List (Nat × Nat)} (h : descsF p.nup r1 M.ds = (r', dk, false)) : protoA p r1 M = protoB p r' { M with ds := dk } := by
  unfold protoA
  rw [h]
  rfl
theorem protoB_eq {p : Pr} {r r3 r4 : Rd} {M : Mc} {nk : Nat} {kk : List V} (h1 : (u16P r).1 = r3) (h2 : (u16P r).2 = nk) (h : constsF nk r3 M.ks = (r4, kk)) : protoB p r M = protoC { p with nk := nk } r4 { M with ks := kk } := by
  unfold protoB
  rw [h1, h2, h]
theorem protoC_ret {p : Pr} {r r5 r6 : Rd} {M : Mc} {nc : Nat} {cc : List (Nat × Nat)} (h1 : (u16P r).1 = r5) (h2 : (u16P r).2 = nc) (h : codeF nc r5 M.co = (r6, cc, true)) : protoC p r M = (r6, { M with co := cc }) := by
  unfold protoC
  rw [h1, h2, h]
  rfl
theorem protoC_go {p : Pr} {r r5 r6 : Rd} {M : Mc} {nc : Nat} {cc : List (Nat × Nat)} (h1 : (u16P r).1 = r5) (h2 : (u16P r).2 = nc) (h : codeF nc r5 M.co = (r6, cc, false)) : protoC p r M = (r6, { M with co := cc, pr := M.pr ++ [{ p with nc := nc }] }) := by
  unfold protoC
  rw [h1, h2, h]
  rfl
set_option maxRecDepth 16000 in
set_option maxHeartbeats 16000000 in
def pt_L4 : Sp1 (∀ (own : Nat → Nat) (W : World) (m a nb tp rb bb cap : Nat) (M : Mc) (r : Rd) (HV : Vm own W m a nb tp M) (h0 : own rb = 0) (h1 : own bb = 0) (HR : RdAt W rb bb cap r) (hds : M.ds.length ≤ r.i) (hks : M.ks.length ≤ r.i) (hco : M.co.length ≤ r.i) (hpr : M.pr.length ≤ 13), Calls Tryz.prog 69 #[.pointer (some ⟨m, 0, none⟩), .pointer (some ⟨rb, 0, none⟩)] W fun e w' => e = .returned (.tuple #[]) ∧ Rp own W m a nb tp rb bb cap [] (protoP r M).2 (protoP r M).1 w') :=
  Sp1.mk _ (fun bxh1 => by
    intro own W m a nb tp rb bb cap M r HV h0 h1 HR hds hks hco hpr
    have hi9 : r.i ≤ 32768 := Nat.le_trans HR.i HR.n
    obtain ⟨⟨a2, p2, g2⟩, ⟨a3, p3, g3⟩, ⟨a4, p4, g4⟩, ⟨a5, p5, g5⟩⟩ := HV.lens
    have hml := HV.tabR.2.2.2.2
    have R0 := Rp.start HV h0 h1 HR
    have HP : Hid (protoP r M = if (takeP r 3).1.bad then ((takeP r 3).1, M) else protoA (headP M (takeP r 3).2) ((takeP r 3).1.or (badH (byte (takeP r 3).2 0) (byte (takeP r 3).2 1))) M) := rfl
    have R1q := (R0.alloc (prO 0 0 M.ds.length 0 M.ks.length 0 M.co.length 0) (n := W.heap.size) rfl).drewN 1
    have HLN : Hid (M.ds.length ≤ r.i ∧ M.ks.length ≤ r.i ∧ M.co.length ≤ r.i ∧ M.pr.length ≤ 13) := ⟨hds, hks, hco, hpr⟩
    have HH : Hid (∀ h, headP M h = ⟨byte h 0, byte h 1, M.ds.length, byte h 2, M.ks.length, 0, M.co.length, 0⟩) := fun _ => rfl
    have hds9 : M.ds.length ≤ 32768 := by omega
    have hks9 : M.ks.length ≤ 32768 := by omega
    have hco9 : M.co.length ≤ 32768 := by omega
    generalize hd : M.ds.length = dl at *
    generalize hk : M.ks.length = kl at *
    generalize hc : M.co.length = cl at *
    clear HV h0 h1 HR R0 g2 hds hks hco hpr hi9
    have HD : Hid (M.ds.length = dl ∧ M.ks.length = kl ∧ M.co.length = cl) := ⟨hd, hk, hc⟩
    clear hd hk hc
    go_enter Tryz.func69, Tryz.ntmps69
    go_wp2_with fail
    go_region
    go_upto_region 1 with fail
    have R1 : Rp own W m a nb tp rb bb cap [(W.heap.size, prO 0 0 dl 0 kl 0 cl 0)] M r (W.alloc (prO 0 0 dl 0 kl 0 cl 0)).drew := R1q
    have HT := take_any R1.rd 3 (by omega)
    have HI : Hid (r.i ≤ r.bs.length) := R1.rd.i
    clear g3 g4 g5 hml R1q
    generalize (W.alloc (prO 0 0 dl 0 kl 0 cl 0)).drew = w1 at *
    generalize hpb : W.heap.size = pb at *
    clear hpb
    go_wp2_with fail
    refine HT.mono ?_; rintro e w2 ⟨hv, hR2, hS2⟩
    have R2 := R1.turn hS2 hR2
    obtain ⟨c0, c1, c2, cz⟩ := hR2.c
    have hlr := hR2.lt
    clear HT hS2 R1 c0 c1
    rcases hv with ⟨hb, rfl⟩ | ⟨hb, k0, c, rfl, hc, hk⟩
    · rw [hb] at c2
      have HRp : Hid (Rp own W m a nb tp rb bb cap [] (protoP r M).2 (protoP r M).1 w2) := by
        show Rp _ _ _ _ _ _ _ _ _ _ _ _ _
        rw [HP.out, if_pos hb]
        exact R2.drop
      clear R2 hR2 HP HH
      go_wp2_with fail
      refine bodyPost_ret (results_none rfl _ _ _) rfl ?_
      exact ⟨rfl, HRp.out⟩
    rw [hb] at c2
    have hk := hk (by omega)
    subst hk
    have q0 := hR2.win (r := r) (take_bs r 3) hb HI.out (j := 0) (by omega)
    rw [Nat.add_zero] at q0
    have q1 := hR2.win (r := r) (take_bs r 3) hb HI.out (j := 1) (by omega)
    have q2 := hR2.win (r := r) (take_bs r 3) hb HI.out (j := 2) (by omega)
    have hbl := hR2.by'.1
    have HP2 : Hid (protoP r M = protoA (headP M (takeP r 3).2) ((takeP r 3).1.or (badH (byte (takeP r 3).2 0) (byte (takeP r 3).2 1))) M) := by
      show _ = _
      rw [HP.out, if_neg (by rw [hb]; decide)]
    rw [HH.out] at HP2
    have y0 := byte_lt (takeP r 3).2 0
    have y1 := byte_lt (takeP r 3).2 1
    have y2 := byte_lt (takeP r 3).2 2
    have HLI : Hid (dl ≤ (takeP r 3).1.i ∧ kl ≤ (takeP r 3).1.i ∧ cl ≤ (takeP r 3).1.i) := by
      have := (take_i r 3 HI.out).1
      have := HLN.out
      exact ⟨by omega, by omega, by omega⟩
    have HPR : Hid (M.pr.length ≤ 13) := HLN.out.2.2.2
    obtain ⟨b0, b1, b2, b3, b4, b5, b6, b7, bz⟩ := cells8 (R2.box (b := pb) (List.mem_singleton.2 rfl)).1
    have hpbl := (R2.box (b := pb) (List.mem_singleton.2 rfl)).2.2.1
    clear HP HH HLN hk hR2
    generalize r.i = ri at *
    generalize byte (takeP r 3).2 0 = np at *
    generalize byte (takeP r 3).2 1 = ns at *
    generalize byte (takeP r 3).2 2 = nup at *
    generalize (takeP r 3).1 = r0 at *
    rename_i ix1 ix2 ix3 ix4 ix5
    revert own W m a nb tp rb bb cap M r a2 p2 a3 p3 a4 p4 a5 p5 dl hds9 kl hks9 cl hco9 HD ix1 ix2 ix3 w1 pb ix4 ix5 w2 c2 cz hlr c hc hbl HPR b0 b1 b2 b3 b4 b5 b6 b7 bz hpbl ri HI np y0 q0 ns y1 q1 nup y2 q2 r0 R2 hb HLI HP2
    exact bxh1.out
  )
end Go.Proofs.Qxb6500293aGreatRR
