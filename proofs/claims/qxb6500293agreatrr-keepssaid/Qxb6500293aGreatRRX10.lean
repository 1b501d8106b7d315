/-
  kill, spawn walked.
-/
import Derived.Test.Qxb6500293aGreatRRX9
namespace Go.Proofs.Qxb6500293aGreatRR
open Go.RowKit
set_option linter.unusedVariables false
set_option linter.unusedSimpArgs false

theorem getD_set (L : List Th) (i k : Nat) (t' : Th) (hi : i < L.length) : (L.set i t')[k]?.getD dT = if i = k then t' else L[k]?.getD dT := by
  rw [List.getElem?_set]
  by_cases e : i = k
  · subst e
    rw [if_pos rfl, if_pos rfl, if_pos hi]
    rfl
  · rw [if_neg e, if_neg e]
section
variable {own : Nat → Nat} {W : World} {m a nb tp : Nat} {M : Mc} {vals : Nat → Value} {L : List Th}
/-- One of a thread's three lists is cut to nothing. -/
theorem VmAt.cutT (H : VmAt own W m a nb tp M vals L) {i r : Nat} (hi : i < M.th.length) (hr : r < 3) {ad : Option Addr} {n cp : Nat} (hv : vals (8 + 3 * i + r) = .slice ad n cp) (t' : Th) (hst : t'.st = (M.t i).st ∧ t'.fn = (M.t i).fn) (h0 : t'.sk = if r = 0 then [] else (M.t i).sk) (h1 : t'.fr = if r = 1 then [] else (M.t i).fr) (h2 : t'.op = if r = 2 then [] else (M.t i).op) :
    VmAt own (W.setCell ⟨a, i * 5 + 2 + r, none⟩ (.slice ad 0 cp)) m a nb tp (M.setT i t') (fun k => if k = 8 + 3 * i + r then .slice ad 0 cp else vals k) (L.set i t') ∧ ChgV own W (W.setCell ⟨a, i * 5 + 2 + r, none⟩ (.slice ad 0 cp)) := by
  obtain ⟨e1, h5, e2⟩ := H.thr hi
  have hL := H.hL
  have hl : locM m a (8 + 3 * i + r) = ⟨a, i * 5 + 2 + r, none⟩ := by
    unfold locM
    rw [if_neg (by omega), if_neg (by omega)]
    congr 1
    omega
  have e3 : ((L.set i t')[i]?).getD dT = t' := by rw [List.getElem?_set, if_pos rfl, if_pos (by omega)]; rfl
  rw [← hl]
  obtain ⟨g1, g2, g3⟩ := H.row (8 + 3 * i + r) (by omega)
  rw [hv] at g2 g3
  obtain ⟨ad', cp', he'⟩ := row_slice g2
  cases he'
  have hz := row_zero g2
  refine H.setRow (by omega) (grownBy_refl W _) (M.setT i t') (L.set i t') ?_ (fun _ _ => rfl) ?_ H.new ?_ rfl rfl rfl (by simp [Mc.setT]) ?_ (by simpa using hL) (take_setT M L i _ H.pre)
  · rcases (by omega : r = 0 ∨ r = 1 ∨ r = 2) with rfl | rfl | rfl
    · have hz : W.ownsRow 0 (rowM M L (8 + 3 * i)).ty (rowM M L (8 + 3 * i)).sz (.slice ad 0 cp) 0 [] := hz
      show W.ownsRow 0 (rowM _ _ (8 + 3 * i)).ty (rowM _ _ (8 + 3 * i)).sz _ (rowM _ _ (8 + 3 * i)).n (rowM _ _ (8 + 3 * i)).xs
      rw [row_sk] at hz ⊢
      rw [e3, h0]
      exact hz
    · have e9 : 8 + 3 * i + 1 = 9 + 3 * i := by omega
      rw [e9] at hz ⊢
      rw [row_fr] at hz ⊢
      rw [e3, h1]
      exact hz
    · have e9 : 8 + 3 * i + 2 = 10 + 3 * i := by omega
      rw [e9] at hz ⊢
      rw [row_op] at hz ⊢
      rw [e3, h2]
      exact hz
  · intro b hb
    refine g3 b ?_
    cases ad with
    | none => exact hb
    | some p => exact hb
  · intro j hj hn
    refine row_thread M L i _ j hj (by omega) (fun h => ?_) (fun h => ?_) (fun h => ?_)
    · rw [e1, h0, if_neg (by omega)]
    · rw [e1, h1, if_neg (by omega)]
    · rw [e1, h2, if_neg (by omega)]
  · intro k hk
    rw [List.getElem?_set]
    by_cases c : i = k
    · subst c
      rw [if_pos rfl, if_pos (by omega), e1]
      exact hst
    · rw [if_neg c]
      exact ⟨rfl, rfl⟩
/-- A thread's state, or its closure. -/
theorem VmAt.setst (H : VmAt own W m a nb tp M vals L) {i r : Nat} (hi : i < M.th.length) (hr : r < 2) (x : Nat) (t' : Th) (hs : t'.st = if r = 0 then x else (M.t i).st) (hf : t'.fn = if r = 1 then x else (M.t i).fn) (h0 : t'.sk = (M.t i).sk) (h1 : t'.fr = (M.t i).fr) (h2 : t'.op = (M.t i).op) :
    VmAt own (W.setCell ⟨a, i * 5 + r, none⟩ (i64 x)) m a nb tp (M.setT i t') vals (L.set i t') ∧ ChgV own W (W.setCell ⟨a, i * 5 + r, none⟩ (i64 x)) := by
  obtain ⟨e1, h5, e2⟩ := H.thr hi
  have hL := H.hL
  refine H.sett i r h5 hr (i64 x) (M.setT i t') (L.set i t') (fun j hj => row_thread M L i _ j hj (by omega) (fun _ => by rw [e1, h0]) (fun _ => by rw [e1, h1]) (fun _ => by rw [e1, h2])) rfl rfl rfl (by simp [Mc.setT]) (by simpa using hL) (take_setT M L i _ H.pre) ?_
  intro k hk
  rw [getD_set L i k t' (by omega)]
  by_cases c : i = k
  · subst c
    rw [show (if i = i then t' else L[i]?.getD dT) = t' from if_pos rfl, e1, hs, hf]
    rcases (by omega : r = 0 ∨ r = 1) with rfl | rfl
    · simp
    · simp
  · rw [if_neg c, if_neg (fun h => c h.1), if_neg (fun h => c h.1)]
    exact ⟨rfl, rfl⟩
end
set_option maxRecDepth 8000 in
set_option maxHeartbeats 1600000 in
theorem kill_any {own : Nat → Nat} {W : World} {m a nb tp : Nat} {M : Mc} (HV : Vm own W m a nb tp M) {i : Nat} (hi : i < M.th.length) (hop : (M.t i).op.length ≤ 10000) (hsk : (M.t i).sk.length ≤ 20000) (hce : M.ce.length ≤ 100000) (hok : OpOk M i) :
    Calls Tryz.prog 84 #[.pointer (some ⟨m, 0, none⟩), .pointer (some ⟨a, i * 5, none⟩)] W fun en W' => en = .returned (.tuple #[]) ∧ Nx own W m a nb tp (killP M i) W' := by
  have HCL := closeFrom_any HV hi 0 (by omega) hop hsk hce hok
  have hth : (closeP M i 0).th.length = M.th.length := by show (M.th.set i _).length = _; rw [List.length_set]
  have hiC : i < (closeP M i 0).th.length := by omega
  have HEND : Hid (∀ w1, Nf own W m a nb tp i (closeP M i 0) w1 → ∃ ad1 n1 cp1 ad2 n2 cp2 s0, w1.cell? ⟨a, i * 5 + 2, none⟩ = some (.slice ad1 n1 cp1) ∧ w1.cell? ⟨a, i * 5 + 3, none⟩ = some (.slice ad2 n2 cp2) ∧ w1.cell? ⟨a, i * 5, none⟩ = some (i64 s0) ∧ (∀ k, w1.frozen? ⟨a, k, none⟩ = false) ∧ Nx own W m a nb tp (killP M i) (((w1.setCell ⟨a, i * 5 + 2, none⟩ (.slice ad1 0 cp1)).setCell ⟨a, i * 5 + 3, none⟩ (.slice ad2 0 cp2)).setCell ⟨a, i * 5, none⟩ (i64 5))) := by
    intro w1 hN
    obtain ⟨⟨own1, ho1, ⟨vals, L, H⟩, hch⟩, _⟩ := hN
    obtain ⟨c2, r2, _⟩ := H.skRow hiC
    obtain ⟨c3, r3, _⟩ := H.frRow hiC
    obtain ⟨e1, h5, _⟩ := H.thr hiC
    have ts := (H.ts i h5).1
    obtain ⟨ad1, cp1, v1⟩ := row_slice r2
    obtain ⟨ad2, cp2, v2⟩ := row_slice r3
    refine ⟨ad1, _, cp1, ad2, _, cp2, _, by rw [c2, v1], by rw [c3, v2], ts, H.az, ?_⟩
    obtain ⟨K1, G1⟩ := H.cutT (r := 0) hiC (by omega) v1 { (closeP M i 0).t i with sk := [] } ⟨rfl, rfl⟩ rfl rfl rfl
    have t1 := t_setT hiC { (closeP M i 0).t i with sk := [] }
    have l1 : i < ((closeP M i 0).setT i { (closeP M i 0).t i with sk := [] }).th.length := by show i < (List.set _ _ _).length; rw [List.length_set]; exact hiC
    obtain ⟨K2, G2⟩ := K1.cutT (r := 1) l1 (by omega) (show (if 8 + 3 * i + 1 = 8 + 3 * i + 0 then _ else vals (8 + 3 * i + 1)) = _ by rw [if_neg (by omega), show 8 + 3 * i + 1 = 9 + 3 * i by omega]; exact v2) { (closeP M i 0).t i with sk := [], fr := [] } (by rw [t1]; exact ⟨rfl, rfl⟩) (by rw [t1]; rfl) (by rw [t1]; rfl) (by rw [t1]; rfl)
    rw [setT_setT] at K2
    have t2 := t_setT hiC { (closeP M i 0).t i with sk := [], fr := [] }
    have l2 : i < ((closeP M i 0).setT i { (closeP M i 0).t i with sk := [], fr := [] }).th.length := by show i < (List.set _ _ _).length; rw [List.length_set]; exact hiC
    obtain ⟨K3, G3⟩ := K2.setst (r := 0) l2 (by omega) 5 { (closeP M i 0).t i with sk := [], fr := [], st := 5 } (by rw [t2]; rfl) (by rw [t2]; rfl) (by rw [t2]) (by rw [t2]) (by rw [t2])
    rw [setT_setT] at K3
    exact Nx.trans ho1 hch ⟨own1, fun _ _ => rfl, ⟨_, _, K3⟩, (G1.trans G2 (fun _ _ => rfl)).trans G3 (fun _ _ => rfl)⟩
  clear HV hok hth hiC
  go_enter Tryz.func84, Tryz.ntmps84
  go_wp2_with fail
  refine HCL.mono ?_; rintro e w1 ⟨rfl, hN⟩
  obtain ⟨ad1, n1, cp1, ad2, n2, cp2, s0, d1, d2, d3, dz, hE⟩ := HEND.out w1 hN
  have HE : Hid (Nx own W m a nb tp (killP M i) _) := hE
  clear hN hE HEND HCL
  go_wp2_with fail
  go_end0
  exact ⟨rfl, HE.out⟩
end Go.Proofs.Qxb6500293aGreatRR
