/-
  The builtins walked.
-/
import Derived.Test.Qxb6500293aGreatRRY31
namespace Go.Proofs.Qxb6500293aGreatRR
open Go.RowKit
open Ieee (double)
set_option linter.unusedVariables false
set_option linter.unusedSimpArgs false

/-- An argument of a builtin. -/
structure Arg (W : World) (ab o : Nat) (v : V) : Prop where
  c0 : W.cell? ⟨ab, o, none⟩ = some (.int .i64 v.T)
  c1 : W.cell? ⟨ab, o + 1, none⟩ = some (.int .u64 (v.N : Int))
  c2 : W.cell? ⟨ab, o + 2, none⟩ = some (.string ⟨v.S.toArray⟩)
abbrev valR (r : V × V) : Value := .tuple #[valV r.1, valV r.2]
/-- The two results' boxes. -/
abbrev box2 (W : World) : World := (W.alloc (vBox 0 0 [])).alloc (vBox 0 0 [])
theorem throw_thr (v : V) (W : World) : Calls Tryz.prog 114 #[valV v] W (ThrEnd W v) := by
  refine (throw_any v W).mono ?_
  rintro e w' ⟨rfl, rfl⟩
  exact ⟨_, rfl, by omega, new_at _ _ (by simp), below_two (below_one _ _) (below_one _ _)⟩
theorem raise_thr (s : List UInt8) (W : World) : Calls Tryz.prog 94 #[.string ⟨s.toArray⟩] W (ThrEnd W (str s)) := by
  refine (raise_any s W).mono ?_
  rintro e w' ⟨rfl, rfl⟩
  exact ⟨_, rfl, Nat.le_refl _, new_at _ _ rfl, below_one _ _⟩
section
variable {own : Nat → Nat} {W : World} {m a nb tp : Nat} {M : Mc}
theorem Rm.box2 (HV : Vm own W m a nb tp M) (i : Nat) : Rm own W m a nb tp i [(W.heap.size + 1, vBox 0 0 []), (W.heap.size, vBox 0 0 [])] M (box2 W) := ((Rm.start HV).alloc (vBox 0 0 []) rfl).alloc (vBox 0 0 []) (n := W.heap.size + 1) (by simp)
/-- Six cells put: the two results. -/
abbrev put6 (w : World) (n : Nat) (x y z x' y' z' : Value) : World := (((((w.setCell ⟨n, 0, none⟩ x).setCell ⟨n, 1, none⟩ y).setCell ⟨n, 2, none⟩ z).setCell ⟨n + 1, 0, none⟩ x').setCell ⟨n + 1, 1, none⟩ y').setCell ⟨n + 1, 2, none⟩ z'
theorem Rm.put6 {i : Nat} {w : World} {n : Nat} (h : Rm own W m a nb tp i [(n + 1, vBox 0 0 []), (n, vBox 0 0 [])] M w) (x y z x' y' z' : Value) : Nf own W m a nb tp i M (put6 w n x y z x' y' z') :=
  ((h.rn.weak.put3 (b := n) (by simp) x y z).put3 (b := n + 1) (by simp) x' y' z').nf rfl
end
set_option maxRecDepth 8000 in
set_option maxHeartbeats 2000000 in
theorem b_tostring {own : Nat → Nat} {W : World} {m a nb tp : Nat} {M : Mc} (HV : Vm own W m a nb tp M) (i : Nat) {ab ao : Nat} {a0 a1 : V} (hal : ab < W.heap.size) (h0 : Arg W ab ao a0) (hw : wfB a0 = true) (hN : a0.N < 18446744073709551616) :
    Calls Tryz.prog 97 #[.pointer (some ⟨m, 0, none⟩), .pointer (some ⟨ab, ao, none⟩)] W (OuEf own W m a nb tp i (builtP M 2 a0 a1) valR) := by
  have HO : Hid (builtP M 2 a0 a1 = ok M (⟨3, 0, textP a0⟩, ⟨0, 0, []⟩)) := rfl
  obtain ⟨own1, hv1, hN1⟩ := (Rm.box2 HV i).vm
  have HT := text_any hv1 a0 hw hN
  have HR : Hid (∀ M2 w2, Nf own1 (box2 W) m a nb tp i M2 w2 → Rm own W m a nb tp i [(W.heap.size + 1, vBox 0 0 []), (W.heap.size, vBox 0 0 [])] M2 w2) := hN1
  obtain ⟨c0, c1, c2⟩ := h0
  generalize textP a0 = tx at *
  obtain ⟨aT, aN, aS⟩ := a0
  rw [valV_mk] at HT
  simp only at c0 c1 c2
  clear HV hv1 hN1 hw hN
  go_enter Tryz.func97, Tryz.ntmps97
  go_wp2_with fail
  refine HT.mono ?_; rintro e w2 ⟨rfl, hf⟩
  have R2 := HR.out _ _ (hf i)
  obtain ⟨z0, z1, z2, zz⟩ := R2.val (b := W.heap.size) (T := 0) (N := 0) (S := []) (by simp)
  obtain ⟨y0, y1, y2, yy⟩ := R2.val (b := W.heap.size + 1) (T := 0) (N := 0) (S := []) (by simp)
  have HF : Hid (∀ x y z x' y' z', Nf own W m a nb tp i M (put6 w2 W.heap.size x y z x' y' z')) := fun x y z x' y' z' => R2.put6 x y z x' y' z'
  clear HT HR hf R2
  go_wp2_with fail
  refine bodyPost_ret (v := valR (⟨3, 0, tx⟩, ⟨0, 0, []⟩)) (by first | (simp [results, go_sem, valV_mk, z0, z1, z2, y0, y1, y2]; done) | (simp [results, go_sem, valV_mk]; done)) rfl ?_
  rw [HO.out]
  exact .inl ⟨rfl, rfl, HF.out _ _ _ _ _ _⟩
set_option maxRecDepth 8000 in
set_option maxHeartbeats 2000000 in
theorem b_type {own : Nat → Nat} {W : World} {m a nb tp : Nat} {M : Mc} (HV : Vm own W m a nb tp M) (i : Nat) {ab ao : Nat} {a0 a1 : V} (hal : ab < W.heap.size) (h0 : Arg W ab ao a0) (hw : wfB a0 = true) :
    Calls Tryz.prog 99 #[.pointer (some ⟨m, 0, none⟩), .pointer (some ⟨ab, ao, none⟩)] W (OuEf own W m a nb tp i (builtP M 4 a0 a1) valR) := by
  have HO : Hid (builtP M 4 a0 a1 = ok M (⟨3, 0, tyName a0.T⟩, ⟨0, 0, []⟩)) := rfl
  have R1 := Rm.box2 HV i
  have HT := fun W => tyName_any a0 W hw
  obtain ⟨c0, c1, c2⟩ := h0
  generalize tyName a0.T = tx at *
  obtain ⟨aT, aN, aS⟩ := a0
  rw [valV_mk] at HT
  simp only at c0 c1 c2
  clear HV hw
  go_enter Tryz.func99, Tryz.ntmps99
  go_wp2_with fail
  refine (HT _).mono ?_; rintro e w2 ⟨rfl, hb⟩
  have R2 := R1.below hb
  obtain ⟨z0, z1, z2, zz⟩ := R2.val (b := W.heap.size) (T := 0) (N := 0) (S := []) (by simp)
  obtain ⟨y0, y1, y2, yy⟩ := R2.val (b := W.heap.size + 1) (T := 0) (N := 0) (S := []) (by simp)
  have HF : Hid (∀ x y z x' y' z', Nf own W m a nb tp i M (put6 w2 W.heap.size x y z x' y' z')) := fun x y z x' y' z' => R2.put6 x y z x' y' z'
  clear HT R1 hb R2
  go_wp2_with fail
  refine bodyPost_ret (v := valR (⟨3, 0, tx⟩, ⟨0, 0, []⟩)) (by first | (simp [results, go_sem, valV_mk, z0, z1, z2, y0, y1, y2]; done) | (simp [results, go_sem, valV_mk]; done)) rfl ?_
  rw [HO.out]
  exact .inl ⟨rfl, rfl, HF.out _ _ _ _ _ _⟩
set_option maxRecDepth 8000 in
set_option maxHeartbeats 2000000 in
theorem b_error {own : Nat → Nat} {W : World} {m a nb tp : Nat} {M : Mc} (HV : Vm own W m a nb tp M) (i : Nat) {ab ao : Nat} {a0 a1 : V} (hal : ab < W.heap.size) (h0 : Arg W ab ao a0) :
    Calls Tryz.prog 100 #[.pointer (some ⟨m, 0, none⟩), .pointer (some ⟨ab, ao, none⟩)] W (OuEf own W m a nb tp i (builtP M 5 a0 a1) valR) := by
  have HO : Hid (builtP M 5 a0 a1 = thr M (nilV, nilV) a0) := rfl
  have R1 := Rm.box2 HV i
  have HT := throw_thr a0 (box2 W)
  obtain ⟨c0, c1, c2⟩ := h0
  have HE0 : Hid (∀ e w', ThrEnd (box2 W) a0 e w' → OuEf own W m a nb tp i (thr M (nilV, nilV) a0) valR e w') := fun e w' h => R1.thrown h
  obtain ⟨aT, aN, aS⟩ := a0
  simp only [valV_mk] at HT
  simp only at c0 c1 c2
  clear HV R1
  go_enter Tryz.func100, Tryz.ntmps100
  go_wp2_with fail
  refine HT.mono ?_; rintro e w2 ht
  obtain ⟨bb, rfl, ht2, ht3, ht4⟩ := ht
  have HE : Hid (OuEf own W m a nb tp i (thr M (nilV, nilV) ⟨aT, aN, aS⟩) valR (thrE bb) w2) := HE0.out _ _ ⟨bb, rfl, ht2, ht3, ht4⟩
  clear HE0 HT ht2 ht3 ht4
  go_wp2_with fail
  simp [bodyPost]
  rw [HO.out]
  exact HE.out
set_option maxRecDepth 8000 in
set_option maxHeartbeats 2000000 in
theorem b_tonumber {own : Nat → Nat} {W : World} {m a nb tp : Nat} {M : Mc} (HV : Vm own W m a nb tp M) (i : Nat) {ab ao : Nat} {a0 a1 : V} (hal : ab < W.heap.size) (h0 : Arg W ab ao a0) (hSl : a0.S.length ≤ 1000) :
    Calls Tryz.prog 98 #[.pointer (some ⟨m, 0, none⟩), .pointer (some ⟨ab, ao, none⟩)] W (OuEf own W m a nb tp i (builtP M 3 a0 a1) valR) := by
  have HO0 : Hid (builtP M 3 a0 a1 = if a0.T = 2 then ok M (a0, nilV) else if a0.T = 3 ∧ (parseP a0.S).2 = 0 then ok M (numV (parseP a0.S).1, nilV) else ok M (nilV, nilV)) := rfl
  have HHV : Hid (Vm own W m a nb tp M) := HV
  have R2 := Rm.box2 HV i
  obtain ⟨q0, q1, qm⟩ := HV.cellM (Below.refl _ _)
  have HP := fun W => parse_any (.pointer (some ⟨nb, 0, none⟩)) a0.S W (by omega)
  obtain ⟨c0, c1, c2⟩ := h0
  obtain ⟨z0, z1, z2, zz⟩ := R2.val (b := W.heap.size) (T := 0) (N := 0) (S := []) (by simp)
  obtain ⟨y0, y1, y2, yy⟩ := R2.val (b := W.heap.size + 1) (T := 0) (N := 0) (S := []) (by simp)
  have HF : Hid (∀ x y z x' y' z', Nf own W m a nb tp i M (put6 (box2 W) W.heap.size x y z x' y' z')) := fun x y z x' y' z' => R2.put6 x y z x' y' z'
  have HFq : Hid (∀ q x y z x' y' z', Nf own W m a nb tp i M (put6 ((box2 W).drewN q) W.heap.size x y z x' y' z')) := fun q x y z x' y' z' => (R2.below (below_drewN (Below.refl _ _) q)).put6 x y z x' y' z'
  obtain ⟨pr, hpr⟩ : ∃ pr, pr = parseP a0.S := ⟨_, rfl⟩
  unfold ParseEnd at HP
  rw [← hpr] at HP HO0
  obtain ⟨pN, pe⟩ := pr
  obtain ⟨aT, aN, aS⟩ := a0
  simp only at c0 c1 c2 HP HO0
  clear HV R2 hpr
  by_cases t2 : aT = 2
  · subst t2
    have HO : Hid (builtP M 3 ⟨2, aN, aS⟩ a1 = ok M (⟨2, aN, aS⟩, ⟨0, 0, []⟩)) := by rw [HO0.out]; rfl
    clear HO0
    go_enter Tryz.func98, Tryz.ntmps98
    go_wp2_with fail
    refine bodyPost_ret (v := valR (⟨2, aN, aS⟩, ⟨0, 0, []⟩)) (by first | (simp [results, go_sem, valV_mk, z0, z1, z2, y0, y1, y2]; done) | (simp [results, go_sem, valV_mk]; done)) rfl ?_
    rw [HO.out]
    exact .inl ⟨rfl, rfl, Nf.same HHV.out (below_two (below_one _ _) (below_one _ _))⟩
  by_cases t3 : aT = 3
  · subst t3
    by_cases h0e : pe = 0
    · subst h0e
      have HO : Hid (builtP M 3 ⟨3, aN, aS⟩ a1 = ok M (⟨2, pN, []⟩, ⟨0, 0, []⟩)) := by rw [HO0.out]; rfl
      clear HO0
      go_enter Tryz.func98, Tryz.ntmps98
      go_wp2_with fail
      go_quiet ((go_at_call 112; exact Calls.quiet_of_same (HP _)))
      go_wp2_with fail
      refine bodyPost_ret (v := valR (⟨2, pN, []⟩, ⟨0, 0, []⟩)) (by first | (simp [results, go_sem, valV_mk, z0, z1, z2, y0, y1, y2]; done) | (simp [results, go_sem, valV_mk]; done)) rfl ?_
      rw [HO.out]
      exact .inl ⟨rfl, rfl, HFq.out nq _ _ _ _ _ _⟩
    · have HO : Hid (builtP M 3 ⟨3, aN, aS⟩ a1 = ok M (⟨0, 0, []⟩, ⟨0, 0, []⟩)) := by rw [HO0.out]; rw [if_neg (by decide), if_neg (by simp [h0e])]; rfl
      clear HO0
      go_enter Tryz.func98, Tryz.ntmps98
      go_wp2_with fail
      go_quiet ((go_at_call 112; exact Calls.quiet_of_same (HP _)))
      go_wp2_with fail
      refine bodyPost_ret (v := valR (⟨0, 0, []⟩, ⟨0, 0, []⟩)) (by first | (simp [results, go_sem, valV_mk, z0, z1, z2, y0, y1, y2]; done) | (simp [results, go_sem, valV_mk]; done)) rfl ?_
      rw [HO.out]
      exact .inl ⟨rfl, rfl, HFq.out nq _ _ _ _ _ _⟩
  · have HO : Hid (builtP M 3 ⟨aT, aN, aS⟩ a1 = ok M (⟨0, 0, []⟩, ⟨0, 0, []⟩)) := by rw [HO0.out]; rw [if_neg t2, if_neg (by simp [t3])]; rfl
    clear HO0
    go_enter Tryz.func98, Tryz.ntmps98
    go_wp2_with fail
    refine bodyPost_ret (v := valR (⟨0, 0, []⟩, ⟨0, 0, []⟩)) (by first | (simp [results, go_sem, valV_mk, z0, z1, z2, y0, y1, y2]; done) | (simp [results, go_sem, valV_mk]; done)) rfl ?_
    rw [HO.out]
    exact .inl ⟨rfl, rfl, Nf.same HHV.out (below_two (below_one _ _) (below_one _ _))⟩
end Go.Proofs.Qxb6500293aGreatRR
