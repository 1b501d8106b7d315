/-
  The builtins walked: print, status, create.
-/
import Derived.Test.Qxb6500293aGreatRRY33
namespace Go.Proofs.Qxb6500293aGreatRR
open Go.RowKit
open Ieee (double)
set_option linter.unusedVariables false
set_option linter.unusedSimpArgs false

set_option maxRecDepth 8000 in
set_option maxHeartbeats 2000000 in
theorem b_status {own : Nat → Nat} {W : World} {m a nb tp : Nat} {M : Mc} (HV : Vm own W m a nb tp M) (i : Nat) {ab ao : Nat} {a0 a1 : V} (hal : ab < W.heap.size) (h0 : Arg W ab ao a0) (hv : a0.T = 7 → a0.N < M.th.length) (hst : ∀ k, (M.t k).st ≤ 5) :
    Calls Tryz.prog 103 #[.pointer (some ⟨m, 0, none⟩), .pointer (some ⟨ab, ao, none⟩)] W (OuEf own W m a nb tp i (builtP M 11 a0 a1) valR) := by
  have HO0 : Hid (builtP M 11 a0 a1 = if a0.T ≠ 7 then Go.Proofs.Qxb6500293aGreatRR.thr M (nilV, nilV) (str [99, 111]) else ok M (str (stName (M.t a0.N).st), nilV)) := rfl
  have R1 := Rm.box2 HV i
  obtain ⟨t9, t5⟩ := HV.c9V
  have hal' : a < W.heap.size := HV.alt
  obtain ⟨_, _, qm⟩ := HV.cellM (Below.refl _ _)
  obtain ⟨c0, c1, c2⟩ := h0
  by_cases t7 : a0.T = 7
  · have hlt := hv t7
    have HS := HV.stE hlt
    have HT := fun W => stName_any (M.t a0.N).st W (hst _)
    have HO : Hid (builtP M 11 a0 a1 = ok M (⟨3, 0, stName (M.t a0.N).st⟩, ⟨0, 0, []⟩)) := by rw [HO0.out]; exact if_neg (by simp [t7])
    have R2 := R1
    obtain ⟨z0, z1, z2, zz⟩ := R2.val (b := W.heap.size) (T := 0) (N := 0) (S := []) (by simp)
    obtain ⟨y0, y1, y2, yy⟩ := R2.val (b := W.heap.size + 1) (T := 0) (N := 0) (S := []) (by simp)
    have HF : Hid (∀ x y z x' y' z', Nf own W m a nb tp i M (put6 (box2 W) W.heap.size x y z x' y' z')) := fun x y z x' y' z' => R2.put6 x y z x' y' z'
    have HFq : Hid (∀ q x y z x' y' z', Nf own W m a nb tp i M (put6 ((box2 W).drewN q) W.heap.size x y z x' y' z')) := fun q x y z x' y' z' => (R2.below (below_drewN (Below.refl _ _) q)).put6 x y z x' y' z'
    have HTL : Hid (M.th.length ≤ 5) := t5
    generalize stName (M.t a0.N).st = tx at *
    generalize (M.t a0.N).st = sx at *
    generalize M.th.length = tl at *
    obtain ⟨aT, aN, aS⟩ := a0
    simp only at *
    subst t7
    clear HV R1 R2 HO0 hv hst
    have hlt' : (aN : Int) < (tl : Int) := by omega
    go_enter Tryz.func103, Tryz.ntmps103
    go_wp2_with fail
    go_quiet ((go_at_call 95; exact Calls.quiet_of_same (HT _)))
    go_wp2_with fail
    refine bodyPost_ret (v := valR (⟨3, 0, tx⟩, ⟨0, 0, []⟩)) (by first | (simp [results, go_sem, valV_mk, z0, z1, z2, y0, y1, y2]; done) | (simp [results, go_sem, valV_mk]; done)) rfl ?_
    rw [HO.out]
    exact .inl ⟨rfl, rfl, HFq.out nq _ _ _ _ _ _⟩
  · have HO : Hid (builtP M 11 a0 a1 = Go.Proofs.Qxb6500293aGreatRR.thr M (nilV, nilV) (str [99, 111])) := by rw [HO0.out]; exact if_pos t7
    have HT := raise_end [99, 111] (box2 W)
    obtain ⟨aT, aN, aS⟩ := a0
    simp only at *
    clear HV HO0 hv hst t9 t5
    go_enter Tryz.func103, Tryz.ntmps103
    go_wp2_with fail
    refine HT.mono ?_; rintro e w2 ht
    obtain ⟨bb, rfl, ht2, ht3, ht4⟩ := ht
    have HE : Hid (OuEf own W m a nb tp i (Go.Proofs.Qxb6500293aGreatRR.thr M (nilV, nilV) (str [99, 111])) valR (thrE bb) w2) := R1.thrown ⟨bb, rfl, ht2, ht3, ht4⟩
    clear ht2 ht3 ht4 R1 HT
    go_wp2_with fail
    simp [bodyPost]
    rw [HO.out]
    exact HE.out
set_option maxRecDepth 8000 in
set_option maxHeartbeats 2000000 in
theorem b_create {own : Nat → Nat} {W : World} {m a nb tp : Nat} {M : Mc} (HV : Vm own W m a nb tp M) (i : Nat) {ab ao : Nat} {a0 a1 : V} (hal : ab < W.heap.size) (h0 : Arg W ab ao a0) (hi : i < M.th.length) (hv : a0.T = 5 → a0.N ≤ 100000) :
    Calls Tryz.prog 102 #[.pointer (some ⟨m, 0, none⟩), .pointer (some ⟨ab, ao, none⟩)] W (OuEf own W m a nb tp i (builtP M 8 a0 a1) valR) := by
  have HO0 : Hid (builtP M 8 a0 a1 = if a0.T ≠ 5 then Go.Proofs.Qxb6500293aGreatRR.thr M (nilV, nilV) (str [99, 97, 108, 108]) else if 5 ≤ M.th.length then trp M (nilV, nilV) 8 else ok (spawnP M a0.N) (⟨7, M.th.length, []⟩, nilV)) := rfl
  have R1 := Rm.box2 HV i
  obtain ⟨t9, t5⟩ := HV.c9V
  have hal' : a < W.heap.size := HV.alt
  obtain ⟨_, _, qm⟩ := HV.cellM (Below.refl _ _)
  obtain ⟨c0, c1, c2⟩ := h0
  by_cases t7 : a0.T = 5
  · by_cases h5 : 5 ≤ M.th.length
    · have HO : Hid (builtP M 8 a0 a1 = trp M (nilV, nilV) 8) := by show _ = _; rw [HO0.out, if_neg (by simp [t7]), if_pos h5]
      have HE : Hid (OuEf own W m a nb tp i (trp M (nilV, nilV) 8) valR (trapE 8) (box2 W)) := .inr (.inr ⟨rfl, rfl, R1.rn.nx⟩)
      generalize M.th.length = tl at *
      have h5' : (5 : Int) ≤ (tl : Int) := by omega
      obtain ⟨aT, aN, aS⟩ := a0
      simp only at *
      subst t7
      clear HV R1 HO0 hv
      go_enter Tryz.func102, Tryz.ntmps102
      go_wp2_with fail
      refine (stop_any 8 _).mono ?_; rintro e w2 ⟨rfl, rfl⟩
      go_wp2_with fail
      simp [bodyPost]
      rw [HO.out]
      exact HE.out
    · have HO : Hid (builtP M 8 a0 a1 = ok (spawnP M a0.N) (⟨7, M.th.length, []⟩, ⟨0, 0, []⟩)) := by rw [HO0.out, if_neg (by simp [t7]), if_neg h5]; rfl
      obtain ⟨own1, hv1, hN1⟩ := R1.vm
      have HT := spawn_any hv1 (by omega) a0.N
      have HR : Hid (∀ w2, Nf own1 (box2 W) m a nb tp i (spawnP M a0.N) w2 → Rm own W m a nb tp i [(W.heap.size + 1, vBox 0 0 []), (W.heap.size, vBox 0 0 [])] (spawnP M a0.N) w2) := hN1 _
      have hN9 := hv t7
      have HI : Hid (i < M.th.length) := hi
      generalize hTL : M.th.length = tl at *
      have h5' : ¬ (5 : Int) ≤ (tl : Int) := by omega
      have hw1 : IntKind.u64.wrap (tl : Int) = (tl : Int) := IntWalk.u64_in _ ⟨by omega, by omega⟩
      obtain ⟨aT, aN, aS⟩ := a0
      simp only at *
      subst t7
      have hw2 : IntKind.i64.wrap (aN : Int) = (aN : Int) := IntWalk.i64_in _ ⟨by omega, by omega⟩
      clear HV R1 HO0 hv1 hN1 hv
      go_enter Tryz.func102, Tryz.ntmps102
      go_wp2_with fail
      refine HT.mono ?_; rintro e w2 ⟨rfl, hf, _⟩
      have R2 := HR.out _ (hf i HI.out)
      obtain ⟨z0, z1, z2, zz⟩ := R2.val (b := W.heap.size) (T := 0) (N := 0) (S := []) (by simp)
      obtain ⟨y0, y1, y2, yy⟩ := R2.val (b := W.heap.size + 1) (T := 0) (N := 0) (S := []) (by simp)
      have HF : Hid (∀ x y z x' y' z', Nf own W m a nb tp i (spawnP M aN) (put6 w2 W.heap.size x y z x' y' z')) := fun x y z x' y' z' => R2.put6 x y z x' y' z'
      clear HT HR hf R2
      go_wp2_with fail
      refine bodyPost_ret (v := valR (⟨7, tl, []⟩, ⟨0, 0, []⟩)) (by first | (simp [results, go_sem, valV_mk, z0, z1, z2, y0, y1, y2]; done) | (simp [results, go_sem, valV_mk]; done)) rfl ?_
      rw [HO.out]
      exact .inl ⟨rfl, rfl, HF.out _ _ _ _ _ _⟩
  · have HO : Hid (builtP M 8 a0 a1 = Go.Proofs.Qxb6500293aGreatRR.thr M (nilV, nilV) (str [99, 97, 108, 108])) := by rw [HO0.out]; exact if_pos t7
    have HT := raise_end [99, 97, 108, 108] (box2 W)
    obtain ⟨aT, aN, aS⟩ := a0
    simp only at *
    clear HV HO0 hv t9 t5
    go_enter Tryz.func102, Tryz.ntmps102
    go_wp2_with fail
    refine HT.mono ?_; rintro e w2 ht
    obtain ⟨bb, rfl, ht2, ht3, ht4⟩ := ht
    have HE : Hid (OuEf own W m a nb tp i (Go.Proofs.Qxb6500293aGreatRR.thr M (nilV, nilV) (str [99, 97, 108, 108])) valR (thrE bb) w2) := R1.thrown ⟨bb, rfl, ht2, ht3, ht4⟩
    clear ht2 ht3 ht4 R1 HT
    go_wp2_with fail
    simp [bodyPost]
    rw [HO.out]
    exact HE.out
set_option maxRecDepth 8000 in
set_option maxHeartbeats 2000000 in
theorem b_print {own : Nat → Nat} {W : World} {m a nb tp : Nat} {M : Mc} (HV : Vm own W m a nb tp M) (i : Nat) {ab ao : Nat} {a0 a1 : V} (hal : ab < W.heap.size) (h0 : Arg W ab ao a0) (hw : wfB a0 = true) (hN : a0.N < 18446744073709551616) (ho : M.out.length ≤ 200) :
    Calls Tryz.prog 96 #[.pointer (some ⟨m, 0, none⟩), .pointer (some ⟨ab, ao, none⟩)] W (OuEf own W m a nb tp i (builtP M 1 a0 a1) valR) := by
  have HO0 : Hid (builtP M 1 a0 a1 = if 200 < M.out.length + (textP a0).length + 1 then trp M (nilV, nilV) 10 else ok { M with out := M.out ++ textP a0 ++ [10] } (nilV, nilV)) := rfl
  have htl := textP_len hw hN
  obtain ⟨own1, hv1, hN1⟩ := (Rm.box2 HV i).vm
  have HT := text_any hv1 a0 hw hN
  have HR : Hid (∀ M2 w2, Nf own1 (box2 W) m a nb tp i M2 w2 → Rm own W m a nb tp i [(W.heap.size + 1, vBox 0 0 []), (W.heap.size, vBox 0 0 [])] M2 w2) := hN1
  obtain ⟨c0, c1, c2⟩ := h0
  generalize textP a0 = tx at *
  obtain ⟨aT, aN, aS⟩ := a0
  rw [valV_mk] at HT
  simp only at c0 c1 c2
  have qm : m < W.heap.size := (HV.cellM (Below.refl _ _)).2.2
  clear HV hv1 hN1 hw hN
  go_enter Tryz.func96, Tryz.ntmps96
  go_wp2_with fail
  refine HT.mono ?_; rintro e w2 ⟨rfl, hf⟩
  have R2 := HR.out _ _ (hf i)
  obtain ⟨own2, hv2, hN2⟩ := R2.vm
  obtain ⟨ad, cp, ad', cp', w3, o1, o2, o3, o4, o5⟩ := hv2.outStr tx (by omega) 59
  have qm2 : m < w2.heap.size := (hv2.cellM (Below.refl _ _)).2.2
  by_cases hb : 200 < M.out.length + tx.length + 1
  · have HO : Hid (builtP M 1 ⟨aT, aN, aS⟩ a1 = trp M (nilV, nilV) 10) := by show _ = _; rw [HO0.out, if_pos hb]
    have HE : Hid (OuEf own W m a nb tp i (trp M (nilV, nilV) 10) valR (trapE 10) w2) := .inr (.inr ⟨rfl, rfl, R2.rn.nx⟩)
    generalize M.out.length = ol at *
    have hb' : (200 : Int) < (ol : Int) + (tx.length : Int) + 1 := by omega
    clear HT HR hf R2 hv2 hN2 HO0 o2 o3 o4 o5
    go_wp2_with fail
    refine (stop_any 10 _).mono ?_; rintro e w4 ⟨rfl, rfl⟩
    go_wp2_with fail
    simp [bodyPost]
    rw [HO.out]
    exact HE.out
  · have HO : Hid (builtP M 1 ⟨aT, aN, aS⟩ a1 = ok { M with out := M.out ++ tx ++ [10] } (⟨0, 0, []⟩, ⟨0, 0, []⟩)) := by rw [HO0.out, if_neg hb]; rfl
    have R3 := hN2 _ _ (o5 i)
    have HOL : Hid (M.out.length + tx.length + 1 ≤ 200) := by show _ ≤ _; omega
    have hlen : (M.out ++ tx).length = M.out.length + tx.length := List.length_append
    obtain ⟨own3, hv3, hN3⟩ := R3.vm
    obtain ⟨bd, bp, bd', bp', w5, u1, u2, u3, u4, u5⟩ := hv3.outByte 10 (by show (M.out ++ tx).length ≤ 10000; omega) 59
    have R5 := hN3 _ _ (u5 i)
    have u1 : (w3.setCell ⟨m, 11, none⟩ (.slice ad' (M.out.length + tx.length) cp')).cell? ⟨m, 11, none⟩ = some (.slice bd (M.out ++ tx).length bp) := u1
    have u3 : w5.cell? ⟨m, 11, none⟩ = some (.slice bd (M.out ++ tx).length bp) := u3
    have e1 : bd = ad' ∧ bp = cp' := by
      simp [go_sem, o3, hlen] at u1
      exact ⟨u1.1.symm, u1.2.symm⟩
    obtain ⟨rfl, rfl⟩ := e1
    have HF : Hid (∀ x y z x' y' z', Nf own W m a nb tp i { M with out := M.out ++ tx ++ [10] } (put6 (w5.setCell ⟨m, 11, none⟩ (.slice bd' (M.out.length + tx.length + 1) bp')) W.heap.size x y z x' y' z')) := fun x y z x' y' z' => by
      have := R5.put6 x y z x' y' z'
      rw [hlen] at this
      exact this
    obtain ⟨z0, z1, z2, zz⟩ := R5.val (b := W.heap.size) (T := 0) (N := 0) (S := []) (by simp)
    obtain ⟨y0, y1, y2, yy⟩ := R5.val (b := W.heap.size + 1) (T := 0) (N := 0) (S := []) (by simp)
    have hs2 : w3.heap.size = (w3.setCell ⟨m, 11, none⟩ (.slice bd (M.out.length + tx.length) bp)).heap.size := by simp only [size_set]
    have u2' : (Builtin.append_ #[59, 59] 59 #[.slice bd (M.out.length + tx.length) bp, .slice (some ⟨w3.heap.size, 0, none⟩) 1 1]).run Tryz.prog ((w3.setCell ⟨m, 11, none⟩ (.slice bd (M.out.length + tx.length) bp)).alloc (.cells #[.int .u8 10] 5)) = .ok (.slice bd' (M.out.length + tx.length + 1) bp') w5 := by
      rw [hs2]
      have := u2
      rw [show ({ M with out := M.out ++ tx } : Mc).out.length = M.out.length + tx.length from hlen] at this
      exact this
    rw [hlen] at u3 z0 z1 z2 zz y0 y1 y2 yy
    have hbn : ¬ 200 < M.out.length + tx.length + 1 := hb
    generalize M.out.length = ol at *
    have hb' : ¬ (200 : Int) < (ol : Int) + (tx.length : Int) + 1 := by omega
    clear HT HR hf R2 hv2 hN2 HO0 o5 R3 R5 hv3 hN3 u2 u5 u1 hs2
    go_wp2_with (at_builtin; first | refine wpList_append_eq2 rfl (.tmp 28) (.tmp 29) 59 9 rfl _ _ _ _ rfl rfl o2 ?_ | refine wpList_append_eq2 rfl (.tmp 37) (.tmp 38) 59 59 rfl _ _ _ _ rfl rfl u2' ?_)
    refine bodyPost_ret (v := valR (⟨0, 0, []⟩, ⟨0, 0, []⟩)) (by first | (simp [results, go_sem, valV_mk, z0, z1, z2, y0, y1, y2]; done) | (simp [results, go_sem, valV_mk]; done)) rfl ?_
    rw [HO.out]
    exact .inl ⟨rfl, rfl, HF.out _ _ _ _ _ _⟩
end Go.Proofs.Qxb6500293aGreatRR
