/-
  push, pop, burn, jump, Fuel, Out, Ended, Status walked.
-/
import Derived.Test.Qxb6500293aGreatRRX3
namespace Go.Proofs.Qxb6500293aGreatRR
open Go.RowKit
set_option linter.unusedVariables false
set_option linter.unusedSimpArgs false

/-- ... and thread i's frames lie where they lay. -/
def Nf (own : Nat → Nat) (W : World) (m a nb tp i : Nat) (M' : Mc) (W' : World) : Prop := Nx own W m a nb tp M' W' ∧ W'.cell? ⟨a, i * 5 + 3, none⟩ = W.cell? ⟨a, i * 5 + 3, none⟩
theorem Nf.same {own : Nat → Nat} {W W' : World} {m a nb tp i : Nat} {M : Mc} (h : Vm own W m a nb tp M) (hb : Below W.heap.size W W') : Nf own W m a nb tp i M W' := by
  refine ⟨Nx.same h hb, ?_⟩
  obtain ⟨vals, L, H⟩ := h
  exact hb.cell (p := ⟨a, i * 5 + 3, none⟩) H.alt
theorem Nf.below {own : Nat → Nat} {W W1 W2 : World} {m a nb tp i : Nat} {M2 : Mc} (h : Nf own W m a nb tp i M2 W1) (hb : Below W1.heap.size W1 W2) : Nf own W m a nb tp i M2 W2 := by
  refine ⟨h.1.below hb, ?_⟩
  obtain ⟨own1, h1, ⟨vals, L, H⟩, h3⟩ := h.1
  exact (hb.cell (p := ⟨a, i * 5 + 3, none⟩) H.alt).trans h.2
theorem loc_sk (m a i : Nat) : locM m a (8 + 3 * i) = ⟨a, i * 5 + 2, none⟩ := by
  unfold locM
  rw [if_neg (by omega), if_neg (by omega)]
  congr 1
  omega
theorem loc_fr (m a i : Nat) : locM m a (9 + 3 * i) = ⟨a, i * 5 + 3, none⟩ := by
  unfold locM
  rw [if_neg (by omega), if_neg (by omega)]
  congr 1
  omega
theorem loc_op (m a i : Nat) : locM m a (10 + 3 * i) = ⟨a, i * 5 + 4, none⟩ := by
  unfold locM
  rw [if_neg (by omega), if_neg (by omega)]
  congr 1
  omega
theorem VmAt.thr {own : Nat → Nat} {W : World} {m a nb tp : Nat} {M : Mc} {vals : Nat → Value} {L : List Th} (H : VmAt own W m a nb tp M vals L) {i : Nat} (hi : i < M.th.length) : L[i]?.getD dT = M.t i ∧ i < 5 ∧ L[i]? = some (M.t i) := by
  have hp := H.pre
  have hL := H.hL
  have h5 : i < 5 := by
    have := congrArg List.length hp
    rw [List.length_take] at this
    omega
  have e : M.th[i]? = L[i]? := by rw [← hp, List.getElem?_take, if_pos hi]
  have hs : L[i]? = some (M.t i) := by
    unfold Mc.t
    rw [e, List.getElem?_eq_getElem (by omega)]
    rfl
  exact ⟨by rw [hs]; rfl, h5, hs⟩
def zVal : Value := .agg #[.int .i64 0, .int .u64 0, .string ⟨#[]⟩]
theorem info33 : (Tryz.prog.info? 33).map (fun i => (i.zero, i.size, i.bytes)) = some (some zVal, 3, 32) := by kernel_rfl
theorem valC_len (v : V) : (valC v).length = 3 := rfl
theorem flat_len {α : Type} (f : α → List Value) (n : Nat) (hf : ∀ a, (f a).length = n) (l : List α) : (l.flatMap f).length = l.length * n := by
  induction l with
  | nil => simp
  | cons a l ih => rw [List.flatMap_cons, List.length_append, ih, hf, List.length_cons, Nat.add_mul]; omega
theorem append_vals {W : World} {vo : Value} {n : Nat} {xs : List Value} (h : W.ownsRow 0 33 3 vo n xs) (hn : n ≤ 100000) (b k cap : Nat) (vs : List V) (hm : vs.length ≤ 100) (hc : ∀ j u, (vs.flatMap valC)[j]? = some u → W.cell? ((⟨b, k, none⟩ : Addr).add j) = some u) (ty : TypeId) :
    ∃ v' W', (Builtin.append_ #[53, 53] ty #[vo, .slice (some ⟨b, k, none⟩) vs.length cap]).run Tryz.prog W = .ok v' W' ∧ W'.ownsRow 0 33 3 v' (n + vs.length) (xs ++ vs.flatMap valC) ∧ W.grownBy W' vo.ownBlock ∧ (∀ b, v'.ownBlock = some b → vo.ownBlock = some b ∨ W.heap.size ≤ b) := by
  obtain ⟨i0, hi, hz0, hz1, hz2⟩ := info_parts info33
  obtain ⟨v', w', hr, h2, h3, h4, h5⟩ := run_append_own_at (P := Tryz.prog) W 0 53 ty 33 i0 zVal 3 32 Tryz.underlying53 hi hz0 hz1 hz2 rfl (by decide) vo n xs h ⟨b, k, none⟩ vs.length cap (vs.flatMap valC) (flat_len valC 3 valC_len vs) hc (by
    intro u hu
    rw [List.mem_flatMap] at hu
    obtain ⟨v, _, hv⟩ := hu
    simp [valC] at hv
    rcases hv with rfl | rfl | rfl <;> rfl) (by unfold maxLen; omega) (by omega) (Nat.zero_le _)
  refine ⟨v', w', hr, h2, h3, ?_⟩
  intro b hb
  rcases h5 with h5 | h5
  · left; rw [← h5]; exact hb
  · right; rw [h5] at hb; injection hb with hb; omega
section
variable {own : Nat → Nat} {W : World} {m a nb tp : Nat} {M : Mc} {vals : Nat → Value} {L : List Th}
/-- One thread's stack laid anew. -/
theorem VmAt.skNx (H : VmAt own W m a nb tp M vals L) {i : Nat} (hi : i < M.th.length) {W7 : World} (hg : W.grownBy W7 (vals (8 + 3 * i)).ownBlock) {v' : Value} (sk : List V) (hrow : W7.ownsRow 0 33 3 v' sk.length (sk.flatMap valC)) (hv : ∀ b, v'.ownBlock = some b → (vals (8 + 3 * i)).ownBlock = some b ∨ W.heap.size ≤ b) :
    Nf own W m a nb tp i (M.setT i { M.t i with sk := sk }) (W7.setCell ⟨a, i * 5 + 2, none⟩ v') := by
  obtain ⟨e1, h5, e2⟩ := H.thr hi
  have hc8 := (H.row (8 + 3 * i) (by omega)).2.2
  refine ⟨?_, (World.cell?_setCell_other _ _ _ _ (by intro e; injection e; omega)).trans (World.cell?_of_block (a := ⟨a, i * 5 + 3, none⟩) (hg.block a H.alt (fun e => by have := hc8 a e.symm; have := H.ac; omega)))⟩
  have hL := H.hL
  have e3 : ((L.set i { M.t i with sk := sk })[i]?).getD dT = { M.t i with sk := sk } := by rw [List.getElem?_set, if_pos rfl, if_pos (by omega)]; rfl
  rw [← loc_sk m a i]
  refine H.rowNx (by omega) hg (M.setT i { M.t i with sk := sk }) (L.set i { M.t i with sk := sk }) ?_ hv ?_ rfl rfl rfl (by simp [Mc.setT]) ?_ (by simpa using hL) (take_setT M L i _ H.pre)
  · rw [row_sk, e3]
    exact hrow
  · intro j hj hn
    refine row_thread M L i _ j hj (by omega) (fun h => absurd h hn) (fun _ => by rw [e1]) (fun _ => by rw [e1])
  · intro k hk
    rw [List.getElem?_set]
    by_cases c : i = k
    · subst c
      rw [if_pos rfl, if_pos (by omega), e1]
      exact ⟨rfl, rfl⟩
    · rw [if_neg c]
      exact ⟨rfl, rfl⟩
theorem VmAt.skRow (H : VmAt own W m a nb tp M vals L) {i : Nat} (hi : i < M.th.length) : W.cell? ⟨a, i * 5 + 2, none⟩ = some (vals (8 + 3 * i)) ∧ W.ownsRow 0 33 3 (vals (8 + 3 * i)) (M.t i).sk.length ((M.t i).sk.flatMap valC) ∧ ∀ b, (vals (8 + 3 * i)).ownBlock = some b → own b = 409 + 3 * i := by
  obtain ⟨e1, h5, e2⟩ := H.thr hi
  obtain ⟨h1, h2, h3⟩ := H.row (8 + 3 * i) (by omega)
  rw [loc_sk] at h1
  rw [row_sk, e1] at h2
  exact ⟨h1, h2, fun b hb => by rw [h3 b hb]; omega⟩
end
set_option maxRecDepth 8000 in
set_option maxHeartbeats 800000 in
theorem push_any {own : Nat → Nat} {W : World} {m a nb tp : Nat} {M : Mc} (HV : Vm own W m a nb tp M) {i : Nat} (hi : i < M.th.length) (hs : (M.t i).sk.length ≤ 20000) (b k cap : Nat) (vs : List V) (hm : vs.length ≤ 100) (hc : ∀ j u, (vs.flatMap valC)[j]? = some u → W.cell? ((⟨b, k, none⟩ : Addr).add j) = some u) :
    Calls Tryz.prog 60 #[.pointer (some ⟨a, i * 5, none⟩), .slice (some ⟨b, k, none⟩) vs.length cap] W fun e W' => e = .returned (.tuple #[]) ∧ Nf own W m a nb tp i (pushP M i vs) W' := by
  obtain ⟨vals, L, H⟩ := HV
  obtain ⟨c2, hrow, hcol⟩ := H.skRow hi
  obtain ⟨v', W7, happ, hr7, hg7, hv7⟩ := append_vals hrow (by omega) b k cap vs hm hc 53
  obtain ⟨ad', cp', rfl⟩ := row_slice hr7
  have HN : Hid (Nf own W m a nb tp i (pushP M i vs) (W7.setCell ⟨a, i * 5 + 2, none⟩ (.slice ad' ((M.t i).sk.length + vs.length) cp'))) := by
    refine H.skNx hi hg7 ((M.t i).sk ++ vs) ?_ hv7
    rw [List.length_append, List.flatMap_append]
    exact hr7
  have ha7 : W7.heap[a]? = W.heap[a]? := hg7.block a H.alt (fun e => by have := hcol a e.symm; have := H.ac; omega)
  have c7 : W7.cell? ⟨a, i * 5 + 2, none⟩ = some (vals (8 + 3 * i)) := (World.cell?_of_block (a := ⟨a, i * 5 + 2, none⟩) ha7).trans c2
  have f7 : W7.frozen? ⟨a, i * 5 + 2, none⟩ = false := (World.frozen?_of_block (a := ⟨a, i * 5 + 2, none⟩) ha7).trans (H.az _)
  generalize vals (8 + 3 * i) = v0 at *
  clear H hrow hcol hr7 hg7 hv7 ha7 hc hs
  go_enter Tryz.func60, Tryz.ntmps60
  go_wp2_with (at_builtin; refine wpList_append_eq rfl _ _ 53 rfl _ _ _ _ rfl rfl happ ?_)
  go_end0
  exact ⟨rfl, HN.out⟩
theorem row_last {W : World} {vo : Value} {sk : List V} (h : W.ownsRow 0 33 3 vo sk.length (sk.flatMap valC)) {j : Nat} (hj : j < sk.length) : ∃ b cp, vo = .slice (some ⟨b, 0, none⟩) sk.length cp ∧ sk.length ≤ cp ∧ b < W.heap.size ∧ W.cell? ⟨b, j * 3, none⟩ = some (.int .i64 (sk[j]?.getD nilV).T) ∧ W.cell? ⟨b, j * 3 + 1, none⟩ = some (.int .u64 ((sk[j]?.getD nilV).N : Int)) ∧ W.cell? ⟨b, j * 3 + 2, none⟩ = some (.string ⟨(sk[j]?.getD nilV).S.toArray⟩) := by
  have hf : ∀ (l : List V) (h : Nat) (v : V), l[h]? = some v → ∀ j, j < 3 → (l.flatMap valC)[h * 3 + j]? = (valC v)[j]? := by
    intro l
    induction l with
    | nil => intro h v hl; simp at hl
    | cons x l ih =>
      intro h v hl j hj
      cases h with
      | zero =>
        simp at hl
        subst hl
        rw [List.flatMap_cons, List.getElem?_append_left (by rw [valC_len]; omega)]
        simp
      | succ h =>
        simp at hl
        rw [List.flatMap_cons, List.getElem?_append_right (by rw [valC_len]; omega), valC_len, show (h + 1) * 3 + j - 3 = h * 3 + j from by omega]
        exact ih h v hl j hj
  have hs : sk[j]? = some (sk[j]?.getD nilV) := by rw [List.getElem?_eq_getElem hj]; rfl
  have c := fun k hk => hf sk j _ hs k hk
  obtain ⟨b, cp, hv, hl, hb, k0⟩ := row_cell h (c 0 (by omega))
  refine ⟨b, cp, hv, hl, hb, k0, ?_, ?_⟩
  · obtain ⟨b', cp', hv', _, _, k1⟩ := row_cell h (c 1 (by omega))
    rw [hv] at hv'
    cases hv'
    exact k1
  · obtain ⟨b', cp', hv', _, _, k1⟩ := row_cell h (c 2 (by omega))
    rw [hv] at hv'
    cases hv'
    exact k1
/-- A row cut short. -/
theorem row_take {W : World} {e : TypeId} {sz n b cp k : Nat} {xs : List Value} (h : W.ownsRow 0 e sz (.slice (some ⟨b, 0, none⟩) n cp) n xs) (hk : k ≤ n) : W.ownsRow 0 e sz (.slice (some ⟨b, 0, none⟩) k cp) k (xs.take (k * sz)) := by
  obtain ⟨cur, hb, hs, hn, hm, hl, hx⟩ := ownsRow_at h
  have hks : k * sz ≤ n * sz := Nat.mul_le_mul_right sz hk
  refine ownsRow_mk hb hs (by omega) hm (by rw [List.length_take, hl]; omega) ?_
  intro i hi
  rw [List.getElem?_take, if_pos hi]
  exact hx i (by omega)
theorem flat_take {α : Type} (f : α → List Value) (n : Nat) (hf : ∀ a, (f a).length = n) : ∀ (l : List α) (k : Nat), (l.take k).flatMap f = (l.flatMap f).take (k * n)
  | [], k => by simp
  | x :: l, 0 => by simp
  | x :: l, k + 1 => by
    rw [List.take_succ_cons, List.flatMap_cons, List.flatMap_cons, flat_take f n hf l k, List.take_append, hf, List.take_of_length_le (l := f x) (by rw [hf]; rw [Nat.add_mul]; omega), show (k + 1) * n - n = k * n by rw [Nat.add_mul]; omega]
theorem grownBy_refl (W : World) (b : Option Nat) : W.grownBy W b := ⟨rfl, rfl, rfl, Nat.le_refl _, fun _ _ _ => rfl⟩
/-- The stack cut to k values: in memory. -/
theorem VmAt.skCut {own : Nat → Nat} {W : World} {m a nb tp : Nat} {M : Mc} {vals : Nat → Value} {L : List Th} (H : VmAt own W m a nb tp M vals L) {i : Nat} (hi : i < M.th.length) {k b cp : Nat} (hk : k ≤ (M.t i).sk.length) (hv : vals (8 + 3 * i) = .slice (some ⟨b, 0, none⟩) (M.t i).sk.length cp) :
    Nf own W m a nb tp i (cutP M i k) (W.setCell ⟨a, i * 5 + 2, none⟩ (.slice (some ⟨b, 0, none⟩) k cp)) := by
  obtain ⟨_, hrow, _⟩ := H.skRow hi
  rw [hv] at hrow
  refine H.skNx hi (grownBy_refl W _) ((M.t i).sk.take k) ?_ (fun b' hb' => .inl (by rw [hv]; exact hb'))
  rw [List.length_take, Nat.min_eq_left hk, flat_take valC 3 valC_len]
  exact row_take hrow hk
set_option maxRecDepth 8000 in
set_option maxHeartbeats 800000 in
theorem pop_any {own : Nat → Nat} {W : World} {m a nb tp : Nat} {M : Mc} (HV : Vm own W m a nb tp M) {i : Nat} (hi : i < M.th.length) (h1 : 1 ≤ (M.t i).sk.length) (hs : (M.t i).sk.length ≤ 20000) :
    Calls Tryz.prog 89 #[.pointer (some ⟨a, i * 5, none⟩)] W fun e W' => e = .returned (valV (topP M i)) ∧ Nf own W m a nb tp i (dropP M i) W' := by
  have HM : Hid (Vm own W m a nb tp M) := HV
  obtain ⟨vals, L, H⟩ := HV
  obtain ⟨c2, hrow, hcol⟩ := H.skRow hi
  obtain ⟨b, cp, hv, hcp, hb, d0, d1, d2⟩ := row_last hrow (j := (M.t i).sk.length - 1) (by omega)
  have HTOP : Hid (topP M i = (M.t i).sk[(M.t i).sk.length - 1]?.getD nilV) := rfl
  have la := H.alt
  have lb : b ≠ a := by rintro rfl; have := hcol b (by rw [hv]; rfl); have := H.ac; omega
  have HN : Hid (Nf own W m a nb tp i (dropP M i) (W.setCell ⟨a, i * 5 + 2, none⟩ (.slice (some ⟨b, 0, none⟩) ((M.t i).sk.length - 1) cp))) := H.skCut hi (by omega) hv
  have fz := H.az (i * 5 + 2)
  rw [hv] at c2
  generalize ((M.t i).sk[(M.t i).sk.length - 1]?.getD nilV) = top at *
  obtain ⟨n, hn⟩ : ∃ n, (M.t i).sk.length = n + 1 := ⟨(M.t i).sk.length - 1, by omega⟩
  rw [hn] at c2 hcp d0 d1 d2 HN hs
  rw [Nat.add_sub_cancel] at d0 d1 d2 HN
  have n1 : ¬ a = W.heap.size := by omega
  have n2 : ¬ a = W.heap.size + 1 := by omega
  have n3 : ¬ b = W.heap.size := by omega
  have n4 : ¬ b = W.heap.size + 1 := by omega
  obtain ⟨vT, vN, vS⟩ := top
  clear H hrow hcol hv HM hn
  go_enter Tryz.func89, Tryz.ntmps89
  go_wp2
  refine bodyPost_ret (v := .agg #[.int .i64 vT, .int .u64 (vN : Int), .string ⟨vS.toArray⟩]) (by simp [results, go_sem]) rfl ?_
  exact ⟨by rw [HTOP.out]; rfl, HN.out.below (below_two (below_one _ _) (below_one _ _))⟩
end Go.Proofs.Qxb6500293aGreatRR
