/-
  oper walked: its frame; the operators of one operand.
-/
import Derived.Test.Qxb6500293aGreatRRY13
namespace Go.Proofs.Qxb6500293aGreatRR
open Go.RowKit
open Ieee (double)
set_option linter.unusedVariables false
set_option linter.unusedSimpArgs false

section
variable {own : Nat → Nat} {W w : World} {m a nb tp i : Nat} {fs : Option Value} {M : Mc}
/-- The last push of a function. -/
theorem Rz.push {B : List Nat} (h : Rz own W m a nb tp i fs B M w) (hf : fs = W.cell? ⟨a, i * 5 + 3, none⟩) (hi : i < M.th.length) (hs : (M.t i).sk.length ≤ 20000) (T : Int) (N : Nat) (S : List UInt8) {n : Nat} (hn : w.heap.size = n) :
    Calls Tryz.prog 60 #[.pointer (some ⟨a, i * 5, none⟩), .slice (some ⟨n, 0, none⟩) 1 1] (w.alloc (vBox T N S)) fun e W' => e = .returned (.tuple #[]) ∧ Nf own W m a nb tp i (pushP M i [⟨T, N, S⟩]) W' := by
  obtain ⟨own1, h1, h2, h3, h4, h5⟩ := h
  refine (h2.pushNew hi hs (Below.refl _ _) T N S hn).mono ?_
  rintro e w2 ⟨rfl, hN⟩
  exact ⟨rfl, Nx.trans h1 h3 hN.1, hN.2.trans (h5.trans hf)⟩
theorem Rz.put3 {B : List Nat} (h : Rz own W m a nb tp i fs B M w) {b : Nat} (hb : b ∈ B) (x y z : Value) : Rz own W m a nb tp i fs B M (((w.setCell ⟨b, 0, none⟩ x).setCell ⟨b, 1, none⟩ y).setCell ⟨b, 2, none⟩ z) := ((h.put hb 0 x).put hb 1 y).put hb 2 z
/-- An error flies out of the midst of a function. -/
theorem Rn.thrown {B : List (Nat × Obj)} {α : Type} {val : α → Value} {d : α} {v : V} {en : Ending} {w' : World} (h : Rn own W m a nb tp i fs B M w) (ht : ThrEnd w v en w') : OuEf own W m a nb tp i (thr M d v) val en w' := by
  obtain ⟨b, h1, h2, h3, h4⟩ := ht
  obtain ⟨own1, g1, g2, g3, g4, g5⟩ := h
  exact .inr (.inl ⟨rfl, ⟨b, h1, Nat.le_trans g3.size h2, h3⟩, ⟨own1, g1, g2.below h4, g3.below h4⟩⟩)
theorem Rn.cellM {B : List (Nat × Obj)} (h : Rn own W m a nb tp i fs B M w) : w.cell? ⟨m, 0, none⟩ = some (.pointer (some ⟨nb, 0, none⟩)) ∧ w.cell? ⟨m, 1, none⟩ = some (.pointer (some ⟨tp, 0, none⟩)) ∧ m < w.heap.size := by
  obtain ⟨own1, hv, _, _⟩ := h.vm
  exact hv.cellM (Below.refl _ _)
end
/-- The same, out of the walk's sight. -/
structure Rm (own : Nat → Nat) (W : World) (m a nb tp i : Nat) (B : List (Nat × Obj)) (M : Mc) (w : World) : Prop where
  rn : Rn own W m a nb tp i (W.cell? ⟨a, i * 5 + 3, none⟩) B M w
section
variable {own : Nat → Nat} {W w : World} {m a nb tp i : Nat} {B : List (Nat × Obj)} {M : Mc}
theorem Rm.start (h : Vm own W m a nb tp M) : Rm own W m a nb tp i [] M W := ⟨Rn.start h⟩
theorem Rm.below {w' : World} (h : Rm own W m a nb tp i B M w) (hb : Below w.heap.size w w') : Rm own W m a nb tp i B M w' := ⟨h.rn.below hb⟩
theorem Rm.alloc (h : Rm own W m a nb tp i B M w) (o : Obj) {n : Nat} (hn : w.heap.size = n) : Rm own W m a nb tp i ((n, o) :: B) M (w.alloc o) := by subst hn; exact ⟨h.rn.alloc o⟩
theorem Rm.pop (h : Rm own W m a nb tp i B M w) (hi : i < M.th.length) (h1 : 1 ≤ (M.t i).sk.length) (hs : (M.t i).sk.length ≤ 20000) :
    Calls Tryz.prog 89 #[.pointer (some ⟨a, i * 5, none⟩)] w fun e W' => e = .returned (valV (topP M i)) ∧ Rm own W m a nb tp i B (dropP M i) W' := by
  obtain ⟨own1, hv, hN, _⟩ := h.rn.vm
  refine (pop_any hv hi h1 hs).mono ?_
  rintro e w2 ⟨rfl, hn⟩
  exact ⟨rfl, ⟨hN _ _ hn⟩⟩
theorem Rm.vm (h : Rm own W m a nb tp i B M w) : ∃ own', Vm own' w m a nb tp M ∧ (∀ M2 w2, Nf own' w m a nb tp i M2 w2 → Rm own W m a nb tp i B M2 w2) := by
  obtain ⟨own1, hv, hN, _⟩ := h.rn.vm
  exact ⟨own1, hv, fun M2 w2 hn => ⟨hN _ _ hn⟩⟩
theorem Rm.thrown {α : Type} {val : α → Value} {d : α} {v : V} {en : Ending} {w' : World} (h : Rm own W m a nb tp i B M w) (ht : ThrEnd w v en w') : OuEf own W m a nb tp i (thr M d v) val en w' := h.rn.thrown ht
theorem Rm.val (h : Rm own W m a nb tp i B M w) {b : Nat} {T : Int} {N : Nat} {S : List UInt8} (hb : (b, vBox T N S) ∈ B) : w.cell? ⟨b, 0, none⟩ = some (.int .i64 T) ∧ w.cell? ⟨b, 1, none⟩ = some (.int .u64 (N : Int)) ∧ w.cell? ⟨b, 2, none⟩ = some (.string ⟨S.toArray⟩) ∧ ∀ k, w.frozen? ⟨b, k, none⟩ = false := cells3 (h.rn.box hb).1
/-- The result's box is stored into, and the result pushed. -/
theorem Rm.push3 (h : Rm own W m a nb tp i B M w) (hi : i < M.th.length) (hs : (M.t i).sk.length ≤ 20000) {b : Nat} (hb : b ∈ B.map Prod.fst) (T : Int) (N : Nat) (S : List UInt8) :
    Calls Tryz.prog 60 #[.pointer (some ⟨a, i * 5, none⟩), .slice (some ⟨w.heap.size, 0, none⟩) 1 1] ((((w.setCell ⟨b, 0, none⟩ (.int .i64 T)).setCell ⟨b, 1, none⟩ (.int .u64 (N : Int))).setCell ⟨b, 2, none⟩ (.string ⟨S.toArray⟩)).alloc (vBox T N S)) fun e W' => e = .returned (.tuple #[]) ∧ Nf own W m a nb tp i (pushP M i [⟨T, N, S⟩]) W' :=
  (h.rn.weak.put3 hb (.int .i64 T) (.int .u64 (N : Int)) (.string ⟨S.toArray⟩)).push rfl hi hs T N S (by simp only [size_set])
end
theorem drop_len {M : Mc} {i : Nat} (hi : i < M.th.length) : i < (dropP M i).th.length ∧ ((dropP M i).t i).sk.length = (M.t i).sk.length - 1 := by
  refine ⟨by unfold dropP; rw [th_setT]; exact hi, ?_⟩
  rw [drop_t hi]
  simp
theorem Dr.below {w w' : World} (h : Dr w w') : Below w.heap.size w w' := ⟨h.os, h.tape, h.output, by rw [h.heap]; exact Nat.le_refl _, fun k _ => by rw [h.heap]⟩
set_option maxRecDepth 8000 in
set_option maxHeartbeats 1000000 in
/-- INOT. -/
theorem oper_not {own : Nat → Nat} {W : World} {m a nb tp : Nat} {M : Mc} (HV : Vm own W m a nb tp M) {i : Nat} (hi : i < M.th.length) (h1 : 1 ≤ (M.t i).sk.length) (hs : (M.t i).sk.length ≤ 10000) (x : Nat) :
    Calls Tryz.prog 110 #[.pointer (some ⟨m, 0, none⟩), .pointer (some ⟨a, i * 5, none⟩), .int .u8 18, i64 x] W (OuEf own W m a nb tp i (operP M i 18 x) (fun _ => .tuple #[])) := by
  have HO : Hid (operP M i 18 x = ok (pushP (dropP M i) i [boolV (!truthy (topP M i))]) ()) := rfl
  obtain ⟨hi1, hl1⟩ := drop_len hi
  have HP := (Rm.start (i := i) HV).pop hi h1 (by omega)
  have HTR := fun W => truthy_any (topP M i) W
  obtain ⟨rN, hrN⟩ := boolV_mk (!truthy (topP M i))
  have HBO := fun W => bool_any (!truthy (topP M i)) W
  rw [hrN] at HO HBO
  generalize topP M i = b at *
  obtain ⟨bT, bN, bS⟩ := b
  rw [valV_mk] at HP HTR HBO
  generalize truthy ⟨bT, bN, bS⟩ = tr at *
  clear HV hrN
  go_enter Tryz.func110, Tryz.ntmps110
  go_wp2_with fail
  refine HP.mono ?_; rintro e w1 ⟨rfl, R0⟩
  have R1 := (R0.alloc (vBox bT bN bS) rfl).alloc (vBox 0 0 []) (n := w1.heap.size + 1) (by simp)
  clear R0 HP
  go_wp2_with fail
  refine (HTR _).mono ?_; rintro e w2 ⟨rfl, hb2⟩
  have R2 := R1.below hb2
  clear hb2 HTR R1
  go_wp2_with fail
  refine (HBO _).mono ?_; rintro e w3 ⟨rfl, hb3⟩
  have R3 := R2.below hb3
  obtain ⟨z0, z1, z2, zz⟩ := R3.val (b := w1.heap.size + 1) (T := 0) (N := 0) (S := []) (by simp)
  have HPU := R3.push3 hi1 (by omega) (b := w1.heap.size + 1) (by simp) 1 rN []
  clear hb3 HBO R2 R3
  go_wp2_with fail
  refine HPU.mono ?_; rintro e w5 ⟨rfl, hN⟩
  have HN : Hid (Nf own W m a nb tp i (pushP (dropP M i) i [⟨1, rN, []⟩]) w5) := hN
  clear hN HPU
  go_wp2_with fail
  go_end0
  rw [HO.out]
  exact .inl ⟨rfl, rfl, HN.out⟩
set_option maxRecDepth 8000 in
set_option maxHeartbeats 1000000 in
/-- INEG. -/
theorem oper_neg {own : Nat → Nat} {W : World} {m a nb tp : Nat} {M : Mc} (HV : Vm own W m a nb tp M) {i : Nat} (hi : i < M.th.length) (h1 : 1 ≤ (M.t i).sk.length) (hs : (M.t i).sk.length ≤ 10000) (x : Nat) (hN : (topP M i).N < 18446744073709551616) :
    Calls Tryz.prog 110 #[.pointer (some ⟨m, 0, none⟩), .pointer (some ⟨a, i * 5, none⟩), .int .u8 19, i64 x] W (OuEf own W m a nb tp i (operP M i 19 x) (fun _ => .tuple #[])) := by
  have HO : Hid (operP M i 19 x = if (topP M i).T ≠ 2 then thr (dropP M i) () (str mArith) else ok (pushP (dropP M i) i [numV (negW (topP M i).N)]) ()) := rfl
  obtain ⟨hi1, hl1⟩ := drop_len hi
  have HP := (Rm.start (i := i) HV).pop hi h1 (by omega)
  have HNE := fun W => neg_R (.pointer (some ⟨nb, 0, none⟩)) (topP M i).N W hN
  have HNO := fun h W => numOf_ok (topP M i) mArith W h
  have HNT := fun h W => numOf_thr (topP M i) mArith W h
  generalize topP M i = b at *
  obtain ⟨bT, bN, bS⟩ := b
  rw [valV_mk] at HP HNO HNT
  simp only at HNE HNO HNT HO
  unfold mArith at HNO HNT
  obtain ⟨rN, hrN⟩ : ∃ rN, rN = negW bN := ⟨_, rfl⟩
  rw [← hrN] at HNE HO
  clear HV hrN hN
  by_cases t2 : bT = 2
  · have HO2 : Hid (operP M i 19 x = ok (pushP (dropP M i) i [⟨2, rN, []⟩]) ()) := by rw [HO.out]; exact if_neg (by simp [t2])
    have HNQ := HNO t2
    clear HNT HO HNO
    subst t2
    go_enter Tryz.func110, Tryz.ntmps110
    go_wp2_with fail
    refine HP.mono ?_; rintro e w1 ⟨rfl, R0⟩
    have R1 := (R0.alloc (vBox 2 bN bS) rfl).alloc (vBox 0 0 []) (n := w1.heap.size + 1) (by simp)
    clear R0 HP
    go_wp2_with fail
    refine (HNQ _).mono ?_; rintro e w2 ⟨rfl, hb2⟩
    have R2 := R1.below hb2
    obtain ⟨q0, _, _⟩ := R2.rn.cellM
    clear hb2 HNQ R1
    go_wp2_with fail
    refine (HNE _).mono ?_; rintro e w3 ⟨rfl, rfl⟩
    obtain ⟨z0, z1, z2, zz⟩ := R2.val (b := w1.heap.size + 1) (T := 0) (N := 0) (S := []) (by simp)
    have HPU := R2.push3 hi1 (by omega) (b := w1.heap.size + 1) (by simp) 2 rN []
    clear HNE R2
    go_wp2_with fail
    refine HPU.mono ?_; rintro e w5 ⟨rfl, hN⟩
    have HN : Hid (Nf own W m a nb tp i (pushP (dropP M i) i [⟨2, rN, []⟩]) w5) := hN
    clear hN HPU
    go_wp2_with fail
    go_end0
    rw [HO2.out]
    exact .inl ⟨rfl, rfl, HN.out⟩
  · have HO2 : Hid (operP M i 19 x = thr (dropP M i) () (str [97, 114, 105, 116, 104])) := by rw [HO.out]; exact if_pos t2
    have HNQ := HNT t2
    clear HNO HO HNE t2 HNT
    go_enter Tryz.func110, Tryz.ntmps110
    go_wp2_with fail
    refine HP.mono ?_; rintro e w1 ⟨rfl, R0⟩
    have R1 := (R0.alloc (vBox bT bN bS) rfl).alloc (vBox 0 0 []) (n := w1.heap.size + 1) (by simp)
    clear R0 HP
    go_wp2_with fail
    refine (HNQ _).mono ?_; rintro e w2 ht
    obtain ⟨bb, rfl, ht2, ht3, ht4⟩ := ht
    have HE : Hid (OuEf own W m a nb tp i (thr (dropP M i) () (str [97, 114, 105, 116, 104])) (fun _ => .tuple #[]) (thrE bb) w2) := R1.thrown ⟨bb, rfl, ht2, ht3, ht4⟩
    clear ht2 ht3 ht4 R1 HNQ
    go_wp2_with fail
    simp [bodyPost]
    rw [HO2.out]
    exact HE.out
end Go.Proofs.Qxb6500293aGreatRR
