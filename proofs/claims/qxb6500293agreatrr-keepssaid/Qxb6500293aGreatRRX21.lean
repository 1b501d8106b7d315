/-
  The rows' elements, as the machine's pointers name them. getUp walked.
-/
import Derived.Test.Qxb6500293aGreatRRX20
namespace Go.Proofs.Qxb6500293aGreatRR
open Go.RowKit
set_option linter.unusedVariables false
set_option linter.unusedSimpArgs false

theorem dsC_len (d : Nat × Nat) : (dsC d).length = 2 := rfl
theorem coC_len (d : Nat × Nat) : (coC d).length = 2 := rfl
theorem Vm.elem {α : Type} {f : α → List Value} {sz : Nat} {ty : TypeId} {l : List α} {own : Nat → Nat} {W : World} {m a nb tp : Nat} {M : Mc} (HV : Vm own W m a nb tp M) (j : Nat) (hj : j < 7) (hl : ∀ L, rowM M L j = rowOf ty sz f l) (hf : ∀ a, (f a).length = sz) (hz : 0 < sz) {k : Nat} {x : α} (hx : l[k]? = some x) :
    ∃ b cp, W.cell? ⟨m, 2 + j, none⟩ = some (.slice (some ⟨b, 0, none⟩) l.length cp) ∧ l.length ≤ cp ∧ b < W.heap.size ∧ own b = 401 + j ∧ (∀ k, W.frozen? ⟨b, k, none⟩ = false) ∧ ∀ q u, (f x)[q]? = some u → W.cell? ⟨b, k * sz + q, none⟩ = some u := by
  obtain ⟨vals, L, H⟩ := HV
  obtain ⟨p1, p2, p3⟩ := H.row j (by omega)
  have hloc : locM m a j = ⟨m, 2 + j, none⟩ := by unfold locM; rw [if_pos hj]
  rw [hloc] at p1
  rw [hl L] at p2
  have p2 : W.ownsRow 0 ty sz (vals j) l.length (l.flatMap f) := p2
  obtain ⟨b, cp, hv, h1, h2, h3, h4⟩ := row_elem hf hz p2 hx
  exact ⟨b, cp, by rw [p1, hv], h1, h2, p3 b (by rw [hv]; rfl), h3, h4⟩
theorem at_some {α : Type} {l : List α} {d : α} {k : Nat} (h : k < l.length) : l[k]? = some (l[k]?.getD d) := by rw [List.getElem?_eq_getElem h]; rfl
section
variable {own : Nat → Nat} {W : World} {m a nb tp : Nat} {M : Mc}
theorem Vm.csE (HV : Vm own W m a nb tp M) {c : Nat} (hc : c < M.cs.length) : ∃ b cp, W.cell? ⟨m, 6, none⟩ = some (.slice (some ⟨b, 0, none⟩) M.cs.length cp) ∧ M.cs.length ≤ cp ∧ b < W.heap.size ∧ own b = 405 ∧ W.cell? ⟨b, c * 3, none⟩ = some (i64 (M.c c).p) ∧ W.cell? ⟨b, c * 3 + 1, none⟩ = some (i64 (M.c c).up) ∧ W.cell? ⟨b, c * 3 + 2, none⟩ = some (i64 (M.c c).nup) := by
  obtain ⟨b, cp, h1, h2, h3, h4, _, h5⟩ := HV.elem 4 (by omega) (fun L => (row_lo M L).2.2.2.2.1) csC_len (by decide) (k := c) (x := M.c c) (at_some hc)
  exact ⟨b, cp, h1, h2, h3, h4, h5 0 _ rfl, h5 1 _ rfl, h5 2 _ rfl⟩
theorem Vm.uxE (HV : Vm own W m a nb tp M) {k : Nat} (hk : k < M.ux.length) : ∃ b cp, W.cell? ⟨m, 7, none⟩ = some (.slice (some ⟨b, 0, none⟩) M.ux.length cp) ∧ M.ux.length ≤ cp ∧ b < W.heap.size ∧ own b = 406 ∧ W.cell? ⟨b, k, none⟩ = some (i64 (M.ux[k]?.getD 0)) := by
  obtain ⟨b, cp, h1, h2, h3, h4, _, h5⟩ := HV.elem 5 (by omega) (fun L => (row_lo M L).2.2.2.2.2.1) ixC_len (by decide) (k := k) (x := M.ux[k]?.getD 0) (at_some hk)
  have h6 := h5 0 _ rfl
  rw [Nat.mul_one, Nat.add_zero] at h6
  exact ⟨b, cp, h1, h2, h3, h4, h6⟩
theorem Vm.ceE (HV : Vm own W m a nb tp M) {k : Nat} (hk : k < M.ce.length) : ∃ b cp, W.cell? ⟨m, 8, none⟩ = some (.slice (some ⟨b, 0, none⟩) M.ce.length cp) ∧ M.ce.length ≤ cp ∧ b < W.heap.size ∧ own b = 407 ∧ (∀ k, W.frozen? ⟨b, k, none⟩ = false) ∧ W.cell? ⟨b, k * 5, none⟩ = some (.int .i64 (M.x k).th) ∧ W.cell? ⟨b, k * 5 + 1, none⟩ = some (i64 (M.x k).at') ∧ W.cell? ⟨b, k * 5 + 2, none⟩ = some (.int .i64 (M.x k).v.T) ∧ W.cell? ⟨b, k * 5 + 3, none⟩ = some (.int .u64 ((M.x k).v.N : Int)) ∧ W.cell? ⟨b, k * 5 + 4, none⟩ = some (.string ⟨(M.x k).v.S.toArray⟩) := by
  obtain ⟨b, cp, h1, h2, h3, h4, hz, h5⟩ := HV.elem 6 (by omega) (fun L => (row_lo M L).2.2.2.2.2.2.1) ceC_len (by decide) (k := k) (x := M.x k) (at_some hk)
  exact ⟨b, cp, h1, h2, h3, h4, hz, h5 0 _ rfl, h5 1 _ rfl, h5 2 _ rfl, h5 3 _ rfl, h5 4 _ rfl⟩
theorem Vm.ksE (HV : Vm own W m a nb tp M) {k : Nat} (hk : k < M.ks.length) : ∃ b cp, W.cell? ⟨m, 4, none⟩ = some (.slice (some ⟨b, 0, none⟩) M.ks.length cp) ∧ M.ks.length ≤ cp ∧ b < W.heap.size ∧ own b = 403 ∧ W.cell? ⟨b, k * 3, none⟩ = some (.int .i64 (M.ks[k]?.getD nilV).T) ∧ W.cell? ⟨b, k * 3 + 1, none⟩ = some (.int .u64 ((M.ks[k]?.getD nilV).N : Int)) ∧ W.cell? ⟨b, k * 3 + 2, none⟩ = some (.string ⟨(M.ks[k]?.getD nilV).S.toArray⟩) := by
  obtain ⟨b, cp, h1, h2, h3, h4, _, h5⟩ := HV.elem 2 (by omega) (fun L => (row_lo M L).2.2.1) valC_len (by decide) (k := k) (x := M.ks[k]?.getD nilV) (at_some hk)
  exact ⟨b, cp, h1, h2, h3, h4, h5 0 _ rfl, h5 1 _ rfl, h5 2 _ rfl⟩
theorem Vm.coE (HV : Vm own W m a nb tp M) {k : Nat} (hk : k < M.co.length) : ∃ b cp, W.cell? ⟨m, 5, none⟩ = some (.slice (some ⟨b, 0, none⟩) M.co.length cp) ∧ M.co.length ≤ cp ∧ b < W.heap.size ∧ own b = 404 ∧ W.cell? ⟨b, k * 2, none⟩ = some (.int .u8 ((M.co[k]?.getD (0, 0)).1 : Int)) ∧ W.cell? ⟨b, k * 2 + 1, none⟩ = some (.int .u16 ((M.co[k]?.getD (0, 0)).2 : Int)) := by
  obtain ⟨b, cp, h1, h2, h3, h4, _, h5⟩ := HV.elem 3 (by omega) (fun L => (row_lo M L).2.2.2.1) coC_len (by decide) (k := k) (x := M.co[k]?.getD (0, 0)) (at_some hk)
  exact ⟨b, cp, h1, h2, h3, h4, h5 0 _ rfl, h5 1 _ rfl⟩
theorem Vm.dsE (HV : Vm own W m a nb tp M) {k : Nat} (hk : k < M.ds.length) : ∃ b cp, W.cell? ⟨m, 3, none⟩ = some (.slice (some ⟨b, 0, none⟩) M.ds.length cp) ∧ M.ds.length ≤ cp ∧ b < W.heap.size ∧ own b = 402 ∧ W.cell? ⟨b, k * 2, none⟩ = some (.int .u8 ((M.ds[k]?.getD (0, 0)).1 : Int)) ∧ W.cell? ⟨b, k * 2 + 1, none⟩ = some (.int .u8 ((M.ds[k]?.getD (0, 0)).2 : Int)) := by
  obtain ⟨b, cp, h1, h2, h3, h4, _, h5⟩ := HV.elem 1 (by omega) (fun L => (row_lo M L).2.1) dsC_len (by decide) (k := k) (x := M.ds[k]?.getD (0, 0)) (at_some hk)
  exact ⟨b, cp, h1, h2, h3, h4, h5 0 _ rfl, h5 1 _ rfl⟩
theorem Vm.prE (HV : Vm own W m a nb tp M) {k : Nat} (hk : k < M.pr.length) : ∃ b cp, W.cell? ⟨m, 2, none⟩ = some (.slice (some ⟨b, 0, none⟩) M.pr.length cp) ∧ M.pr.length ≤ cp ∧ b < W.heap.size ∧ own b = 401 ∧ ∀ q u, (prC (M.pr[k]?.getD dP))[q]? = some u → W.cell? ⟨b, k * 8 + q, none⟩ = some u := by
  obtain ⟨b, cp, h1, h2, h3, h4, _, h5⟩ := HV.elem 0 (by omega) (fun L => (row_lo M L).1) prC_len (by decide) (k := k) (x := M.pr[k]?.getD dP) (at_some hk)
  exact ⟨b, cp, h1, h2, h3, h4, h5⟩
theorem Vm.skE (HV : Vm own W m a nb tp M) {i : Nat} (hi : i < M.th.length) {k : Nat} (hk : k < (M.t i).sk.length) : ∃ b cp, W.cell? ⟨a, i * 5 + 2, none⟩ = some (.slice (some ⟨b, 0, none⟩) (M.t i).sk.length cp) ∧ (M.t i).sk.length ≤ cp ∧ b < W.heap.size ∧ own b = 409 + 3 * i ∧ i < 5 ∧ (∀ k, W.frozen? ⟨b, k, none⟩ = false) ∧ W.cell? ⟨b, k * 3, none⟩ = some (.int .i64 ((M.t i).sk[k]?.getD nilV).T) ∧ W.cell? ⟨b, k * 3 + 1, none⟩ = some (.int .u64 (((M.t i).sk[k]?.getD nilV).N : Int)) ∧ W.cell? ⟨b, k * 3 + 2, none⟩ = some (.string ⟨((M.t i).sk[k]?.getD nilV).S.toArray⟩) := by
  obtain ⟨vals, L, H⟩ := HV
  obtain ⟨s2, srow, scol⟩ := H.skRow hi
  obtain ⟨sb, scp, sv, scl, slt, sfz, scell⟩ := row_elem valC_len (by decide) srow (j := k) (x := (M.t i).sk[k]?.getD nilV) (at_some hk)
  exact ⟨sb, scp, by rw [s2, sv], scl, slt, scol sb (by rw [sv]; rfl), (H.thr hi).2.1, sfz, scell 0 _ rfl, scell 1 _ rfl, scell 2 _ rfl⟩
theorem Vm.c9V (HV : Vm own W m a nb tp M) : W.cell? ⟨m, 9, none⟩ = some (.slice (some ⟨a, 0, none⟩) M.th.length 5) ∧ M.th.length ≤ 5 := by
  obtain ⟨vals, L, H⟩ := HV
  refine ⟨H.c9, ?_⟩
  have h := congrArg List.length H.pre
  have := H.hL
  rw [List.length_take] at h
  omega
end
/-- The upvalue's cell; its value. -/
def upX (M : Mc) (c x : Nat) : Nat := M.ux[(M.c c).up + x]?.getD 0
def cellV (M : Mc) (e : Ce) : V := if 0 ≤ e.th then (M.t e.th.toNat).sk[e.at']?.getD nilV else e.v
def upP (M : Mc) (c x : Nat) : V := cellV M (M.x (upX M c x))
structure UpOk (M : Mc) (c x : Nat) : Prop where
  hc : c < M.cs.length
  hu : (M.c c).up + x < M.ux.length
  he : upX M c x < M.ce.length
  ho : 0 ≤ (M.x (upX M c x)).th → (M.x (upX M c x)).th.toNat < M.th.length ∧ (M.x (upX M c x)).at' < (M.t (M.x (upX M c x)).th.toNat).sk.length
  lc : M.cs.length ≤ 100000
  lu : M.ux.length ≤ 100000
  le : M.ce.length ≤ 100000
  ls : ∀ t ∈ M.th, t.sk.length ≤ 20000
theorem Mc.t_mem {M : Mc} {i : Nat} (hi : i < M.th.length) : M.t i ∈ M.th := by
  unfold Mc.t
  rw [List.getElem?_eq_getElem hi]
  exact List.getElem_mem hi
set_option maxRecDepth 8000 in
set_option maxHeartbeats 1600000 in
theorem getUp_any {own : Nat → Nat} {W : World} {m a nb tp : Nat} {M : Mc} (HV : Vm own W m a nb tp M) {c x : Nat} (h : UpOk M c x) {fb fo : Nat} (hf : W.cell? ⟨fb, fo, none⟩ = some (i64 c)) (hfl : fb < W.heap.size) :
    Calls Tryz.prog 16 #[.pointer (some ⟨m, 0, none⟩), .pointer (some ⟨fb, fo, none⟩), i64 x] W fun e W' => e = .returned (valV (upP M c x)) ∧ Below W.heap.size W W' := by
  obtain ⟨hc, hu, he, ho, lc, lu, le, ls⟩ := h
  obtain ⟨cb, ccp, c1, c2, c3, c4, _, c6, _⟩ := HV.csE hc
  obtain ⟨ub, ucp, u1, u2, u3, u4, u5⟩ := HV.uxE hu
  obtain ⟨eb, ecp, e1, e2, e3, e4, ez, e5, e6, e7, e8, e9⟩ := HV.ceE he
  obtain ⟨t1, t2⟩ := HV.c9V
  have hmlt : m < W.heap.size := by obtain ⟨_, _, H⟩ := HV; exact H.mlt
  have halt := HV.alt
  have hup : M.ux[(M.c c).up + x]?.getD 0 = upX M c x := rfl
  rw [hup] at u5
  by_cases hop : 0 ≤ (M.x (upX M c x)).th
  · obtain ⟨ho1, ho2⟩ := ho hop
    obtain ⟨k, hk⟩ : ∃ k : Nat, (M.x (upX M c x)).th = (k : Int) := ⟨_, (Int.toNat_of_nonneg hop).symm⟩
    rw [hk, Int.toNat_natCast] at ho1 ho2
    obtain ⟨sb, scp, s1, s2, s3, s4, s5, sz, s6, s7, s8⟩ := HV.skE ho1 ho2
    have hls := ls _ (Mc.t_mem ho1)
    have HO : Hid (upP M c x = (M.t k).sk[(M.x (upX M c x)).at']?.getD nilV) := by
      show _ = _
      unfold upP cellV
      rw [if_pos hop, hk, Int.toNat_natCast]
    rw [hk] at e5
    have dk : decide (0 ≤ (k : Int)) = true := decide_eq_true (by omega)
    have n1 : ¬ m = W.heap.size := by omega
    have n2 : ¬ a = W.heap.size := by omega
    have n3 : ¬ fb = W.heap.size := by omega
    have n4 : ¬ cb = W.heap.size := by omega
    have n5 : ¬ ub = W.heap.size := by omega
    have n6 : ¬ eb = W.heap.size := by omega
    have n7 : ¬ sb = W.heap.size := by omega
    obtain ⟨⟨vT, vN, vS⟩, hv⟩ : ∃ v, v = (M.t k).sk[(M.x (upX M c x)).at']?.getD nilV := ⟨_, rfl⟩
    rw [← hv] at HO s6 s7 s8
    simp only at s6 s7 s8
    generalize (M.x (upX M c x)).at' = at' at *
    generalize (M.c c).up = cup at *
    generalize upX M c x = ux at *
    generalize (M.t k).sk.length = sl at *
    generalize M.th.length = tl at *
    generalize M.ce.length = cl at *
    generalize M.cs.length = csl at *
    generalize M.ux.length = uxl at *
    clear HV ls e7 e8 e9 hv ho hop
    go_enter Tryz.func16, Tryz.ntmps16
    go_wp2_with fail
    go_quiet (fail)
    go_wp2_with fail
    go_region
    all_goals go_wp2_with fail
    all_goals
      refine bodyPost_ret (v := .agg #[.int .i64 vT, .int .u64 (vN : Int), .string ⟨vS.toArray⟩]) (by simp [results, go_sem]) rfl ?_
      rw [HO.out]
      exact ⟨rfl, below_set0 (below_set0 (below_set0 (below_drewN (below_one _ _) _) _ _) _ _) _ _⟩
  · have HO : Hid (upP M c x = (M.x (upX M c x)).v) := by
      show _ = _
      unfold upP cellV
      rw [if_neg hop]
    have dk : decide (0 ≤ (M.x (upX M c x)).th) = false := decide_eq_false hop
    have n1 : ¬ m = W.heap.size := by omega
    have n3 : ¬ fb = W.heap.size := by omega
    have n4 : ¬ cb = W.heap.size := by omega
    have n5 : ¬ ub = W.heap.size := by omega
    have n6 : ¬ eb = W.heap.size := by omega
    obtain ⟨⟨vT, vN, vS⟩, hv⟩ : ∃ v, v = (M.x (upX M c x)).v := ⟨_, rfl⟩
    rw [← hv] at HO e7 e8 e9
    simp only at e7 e8 e9
    generalize (M.x (upX M c x)).th = eth at *
    generalize (M.c c).up = cup at *
    generalize upX M c x = ux at *
    generalize M.th.length = tl at *
    generalize M.ce.length = cl at *
    generalize M.cs.length = csl at *
    generalize M.ux.length = uxl at *
    clear HV ls hv ho hop
    go_enter Tryz.func16, Tryz.ntmps16
    go_wp2_with fail
    go_quiet (fail)
    go_wp2_with fail
    refine bodyPost_ret (v := .agg #[.int .i64 vT, .int .u64 (vN : Int), .string ⟨vS.toArray⟩]) (by simp [results, go_sem]) rfl ?_
    rw [HO.out]
    exact ⟨rfl, below_set0 (below_set0 (below_set0 (below_drewN (below_one _ _) _) _ _) _ _) _ _⟩
end Go.Proofs.Qxb6500293aGreatRR
