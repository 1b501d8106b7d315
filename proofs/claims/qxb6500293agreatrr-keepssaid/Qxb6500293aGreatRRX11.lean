/-
  spawn walked.
-/
import Derived.Test.Qxb6500293aGreatRRX10
namespace Go.Proofs.Qxb6500293aGreatRR
open Go.RowKit
set_option linter.unusedVariables false
set_option linter.unusedSimpArgs false

def spawnP (M : Mc) (fn : Nat) : Mc := { M with th := M.th ++ [⟨1, fn, [], [], []⟩] }
theorem setT_last (M : Mc) (t t' : Th) : Mc.setT { M with th := M.th ++ [t] } M.th.length t' = { M with th := M.th ++ [t'] } := by
  unfold Mc.setT
  simp only
  rw [List.set_append_right _ _ (Nat.le_refl _), Nat.sub_self]
  rfl
theorem t_last (M : Mc) (t : Th) : Mc.t { M with th := M.th ++ [t] } M.th.length = t := by
  unfold Mc.t
  simp only
  rw [List.getElem?_append_right (Nat.le_refl _), Nat.sub_self]
  rfl
set_option maxHeartbeats 1600000 in
theorem VmAt.spawnN {own : Nat → Nat} {W : World} {m a nb tp : Nat} {M : Mc} {vals : Nat → Value} {L : List Th} (H : VmAt own W m a nb tp M vals L) (h5 : M.th.length < 5) (fn : Nat) :
    ∃ ad2 n2 cp2 ad3 n3 cp3 ad4 n4 cp4, W.cell? ⟨a, M.th.length * 5 + 2, none⟩ = some (.slice ad2 n2 cp2) ∧ W.cell? ⟨a, M.th.length * 5 + 3, none⟩ = some (.slice ad3 n3 cp3) ∧ W.cell? ⟨a, M.th.length * 5 + 4, none⟩ = some (.slice ad4 n4 cp4) ∧ Nx own W m a nb tp (spawnP M fn) ((((((W.setCell ⟨m, 9, none⟩ (.slice (some ⟨a, 0, none⟩) (M.th.length + 1) 5)).setCell ⟨a, M.th.length * 5 + 0, none⟩ (i64 1)).setCell ⟨a, M.th.length * 5 + 1, none⟩ (i64 fn)).setCell ⟨a, M.th.length * 5 + 2 + 0, none⟩ (.slice ad2 0 cp2)).setCell ⟨a, M.th.length * 5 + 2 + 1, none⟩ (.slice ad3 0 cp3)).setCell ⟨a, M.th.length * 5 + 2 + 2, none⟩ (.slice ad4 0 cp4)) := by
  have hL := H.hL
  obtain ⟨t0, ht0⟩ : ∃ t0, L[M.th.length]? = some t0 := ⟨_, List.getElem?_eq_getElem (by omega)⟩
  obtain ⟨H1, G1⟩ := H.setm 9 (.slice (some ⟨a, 0, none⟩) (M.th.length + 1) 5) (by omega) { M with th := M.th ++ [t0] } (fun j hj => by
    by_cases c : 8 ≤ j
    · exact row_hi _ _ L j c
    · exact row_low _ _ L L ⟨rfl, rfl, rfl, rfl, rfl, rfl, rfl, rfl⟩ j (by omega)) rfl (by
      show L.take (M.th ++ [t0]).length = _
      rw [List.length_append, List.length_singleton, List.take_add_one, H.pre, ht0]
      rfl) (by rw [if_pos rfl]; simp) rfl rfl
  have hl1 : ∀ t, M.th.length < ({ M with th := M.th ++ [t] } : Mc).th.length := fun t => by show _ < (M.th ++ [t]).length; simp
  obtain ⟨q2, r2, _⟩ := H1.skRow (hl1 t0)
  obtain ⟨q3, r3, _⟩ := H1.frRow (hl1 t0)
  obtain ⟨q4, r4, _⟩ := H1.opRow (hl1 t0)
  obtain ⟨ad2, cp2, v2⟩ := row_slice r2
  obtain ⟨ad3, cp3, v3⟩ := row_slice r3
  obtain ⟨ad4, cp4, v4⟩ := row_slice r4
  have hm9 : ∀ k, (W.setCell ⟨m, 9, none⟩ (.slice (some ⟨a, 0, none⟩) (M.th.length + 1) 5)).cell? ⟨a, k, none⟩ = W.cell? ⟨a, k, none⟩ := fun k => World.cell?_of_block (a := ⟨a, k, none⟩) (Below.heap_setCell _ _ _ _ H.ma.symm)
  rw [hm9, v2] at q2
  rw [hm9, v3] at q3
  rw [hm9, v4] at q4
  obtain ⟨H2, G2⟩ := H1.setst (r := 0) (hl1 t0) (by omega) 1 { t0 with st := 1 } (by rfl) (by rw [t_last]; rfl) (by rw [t_last]) (by rw [t_last]) (by rw [t_last])
  rw [setT_last] at H2
  obtain ⟨H3, G3⟩ := H2.setst (r := 1) (hl1 _) (by omega) fn { t0 with st := 1, fn := fn } (by rw [t_last]; rfl) (by rfl) (by rw [t_last]) (by rw [t_last]) (by rw [t_last])
  rw [setT_last] at H3
  obtain ⟨H4, G4⟩ := H3.cutT (r := 0) (hl1 _) (by omega) v2 { t0 with st := 1, fn := fn, sk := [] } (by rw [t_last]; exact ⟨rfl, rfl⟩) rfl (by rw [t_last]; rfl) (by rw [t_last]; rfl)
  rw [setT_last] at H4
  obtain ⟨H5, G5⟩ := H4.cutT (r := 1) (hl1 _) (by omega) (show (if 8 + 3 * M.th.length + 1 = 8 + 3 * M.th.length + 0 then _ else vals (8 + 3 * M.th.length + 1)) = _ by rw [if_neg (by omega), show 8 + 3 * M.th.length + 1 = 9 + 3 * M.th.length by omega]; exact v3) { t0 with st := 1, fn := fn, sk := [], fr := [] } (by rw [t_last]; exact ⟨rfl, rfl⟩) (by rw [t_last]; rfl) rfl (by rw [t_last]; rfl)
  rw [setT_last] at H5
  obtain ⟨H6, G6⟩ := H5.cutT (r := 2) (hl1 _) (by omega) (show (if 8 + 3 * M.th.length + 2 = 8 + 3 * M.th.length + 1 then _ else (if 8 + 3 * M.th.length + 2 = 8 + 3 * M.th.length + 0 then _ else vals (8 + 3 * M.th.length + 2))) = _ by rw [if_neg (by omega), if_neg (by omega), show 8 + 3 * M.th.length + 2 = 10 + 3 * M.th.length by omega]; exact v4) ⟨1, fn, [], [], []⟩ (by rw [t_last]; exact ⟨rfl, rfl⟩) (by rw [t_last]; rfl) (by rw [t_last]; rfl) rfl
  rw [setT_last] at H6
  have GG := ((((G1.trans G2 (fun _ _ => rfl)).trans G3 (fun _ _ => rfl)).trans G4 (fun _ _ => rfl)).trans G5 (fun _ _ => rfl)).trans G6 (fun _ _ => rfl)
  exact ⟨ad2, _, cp2, ad3, _, cp3, ad4, _, cp4, q2, q3, q4, own, fun _ _ => rfl, ⟨_, _, H6⟩, GG⟩
set_option maxRecDepth 8000 in
set_option maxHeartbeats 1600000 in
theorem spawn_any {own : Nat → Nat} {W : World} {m a nb tp : Nat} {M : Mc} (HV : Vm own W m a nb tp M) (h5 : M.th.length < 5) (fn : Nat) :
    Calls Tryz.prog 57 #[.pointer (some ⟨m, 0, none⟩), i64 fn] W fun en W' => en = .returned (i64 M.th.length) ∧ (∀ i, i < M.th.length → Nf own W m a nb tp i (spawnP M fn) W') ∧ Nx own W m a nb tp (spawnP M fn) W' := by
  obtain ⟨vals, L, H⟩ := HV
  have c9 := H.c9
  have az := H.az
  have z9 := H.mz 9
  have hma := H.ma
  obtain ⟨s1, s2⟩ := H.ts M.th.length h5
  obtain ⟨ad2, n2, cp2, ad3, n3, cp3, ad4, n4, cp4, q2, q3, q4, hN⟩ := H.spawnN h5 fn
  simp only [Nat.add_zero, Nat.add_assoc, Nat.reduceAdd] at hN
  have HN : Hid (Nx own W m a nb tp (spawnP M fn) _) := hN
  have HNF : Hid (∀ i, i < M.th.length → ((((((W.setCell ⟨m, 9, none⟩ (.slice (some ⟨a, 0, none⟩) (M.th.length + 1) 5)).setCell ⟨a, M.th.length * 5, none⟩ (.int .i64 1)).setCell ⟨a, M.th.length * 5 + 1, none⟩ (.int .i64 (fn : Int))).setCell ⟨a, M.th.length * 5 + 2, none⟩ (.slice ad2 0 cp2)).setCell ⟨a, M.th.length * 5 + 3, none⟩ (.slice ad3 0 cp3)).setCell ⟨a, M.th.length * 5 + 4, none⟩ (.slice ad4 0 cp4)).cell? ⟨a, i * 5 + 3, none⟩ = W.cell? ⟨a, i * 5 + 3, none⟩) := by
    intro i hi
    have hne : ∀ k u (X : World), M.th.length * 5 ≤ k → (X.setCell ⟨a, k, none⟩ u).cell? ⟨a, i * 5 + 3, none⟩ = X.cell? ⟨a, i * 5 + 3, none⟩ := fun k u X hk => World.cell?_setCell_other _ _ _ _ (by intro e; injection e; omega)
    rw [hne (M.th.length * 5 + 4) _ _ (by omega), hne (M.th.length * 5 + 3) _ _ (by omega), hne (M.th.length * 5 + 2) _ _ (by omega), hne (M.th.length * 5 + 1) _ _ (by omega), hne (M.th.length * 5) _ _ (by omega)]
    exact World.cell?_of_block (a := ⟨a, i * 5 + 3, none⟩) (Below.heap_setCell _ _ _ _ hma.symm)
  generalize (L[M.th.length]?.getD dT).st = x1 at *
  generalize (L[M.th.length]?.getD dT).fn = x2 at *
  obtain ⟨n, hn⟩ : ∃ n, n = M.th.length := ⟨_, rfl⟩
  rw [← hn] at c9 h5 s1 s2 q2 q3 q4 HN HNF ⊢
  clear hn hN H
  go_enter Tryz.func57, Tryz.ntmps57
  go_wp2_with fail
  go_ret
  exact ⟨rfl, fun i hi => ⟨HN.out, HNF.out i hi⟩, HN.out⟩
end Go.Proofs.Qxb6500293aGreatRR
