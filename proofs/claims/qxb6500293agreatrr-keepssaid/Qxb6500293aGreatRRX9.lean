/-
  closeFrom walked.
-/
import Derived.Test.Qxb6500293aGreatRRX8
namespace Go.Proofs.Qxb6500293aGreatRR
open Go.RowKit
set_option linter.unusedVariables false
set_option linter.unusedSimpArgs false

theorem t_setT {M : Mc} {i : Nat} (hi : i < M.th.length) (t : Th) : (M.setT i t).t i = t := by
  unfold Mc.t Mc.setT
  rw [List.getElem?_set, if_pos rfl, if_pos hi]
  rfl
theorem setT_self {M : Mc} {i : Nat} : M.setT i (M.t i) = M := by
  unfold Mc.setT Mc.t
  by_cases hi : i < M.th.length
  · rw [List.getElem?_eq_getElem hi, Option.getD_some, List.set_getElem_self]
  · rw [List.set_eq_of_length_le (by omega)]
theorem setT_setT (M : Mc) (i : Nat) (t t' : Th) : (M.setT i t).setT i t' = M.setT i t' := by
  unfold Mc.setT
  simp only [List.set_set]
def close1 (M : Mc) (i c : Nat) (r : List Nat) : Mc := { M.setT i { M.t i with op := r } with ce := M.ce.set c ⟨-1, 0, (M.t i).sk[(M.x c).at']?.getD nilV⟩ }
theorem closeP_stop {M : Mc} {i at' : Nat} (h : ∀ r c, (M.t i).op = r ++ [c] → (M.x c).at' < at') : closeP M i at' = M := by
  unfold closeP
  rcases List.eq_nil_or_concat (M.t i).op with h0 | ⟨r, c, h1⟩
  · rw [h0]
    show { M.setT i { M.t i with op := [] } with ce := M.ce } = M
    have : ({ M.t i with op := [] } : Th) = M.t i := by rw [← h0]
    rw [this]
    show ({ M.setT i (M.t i) with ce := M.ce } : Mc) = M
    rw [setT_self]
  · rw [List.concat_eq_append] at h1
    have hlt := h r c h1
    rw [h1, List.reverse_append]
    show (let o := closeF (M.t i).sk at' (c :: r.reverse) M.ce; ({ M.setT i { M.t i with op := o.1.reverse } with ce := o.2 } : Mc)) = M
    unfold closeF
    rw [if_pos (show (M.ce[c]?.getD dX).at' < at' from hlt)]
    show { M.setT i { M.t i with op := (c :: r.reverse).reverse } with ce := M.ce } = M
    rw [List.reverse_cons, List.reverse_reverse, ← h1]
    show ({ M.setT i (M.t i) with ce := M.ce } : Mc) = M
    rw [setT_self]
theorem closeP_one {M : Mc} {i at' c : Nat} {r : List Nat} (hi : i < M.th.length) (h1 : (M.t i).op = r ++ [c]) (hc : at' ≤ (M.x c).at') : closeP M i at' = closeP (close1 M i c r) i at' := by
  have e : (close1 M i c r).t i = { M.t i with op := r } := t_setT (M := M) hi _
  unfold closeP
  rw [e, h1, List.reverse_append]
  show (let o := closeF (M.t i).sk at' (c :: r.reverse) M.ce; ({ M.setT i { M.t i with op := o.1.reverse } with ce := o.2 } : Mc)) = _
  have hn : ¬ (M.ce[c]?.getD dX).at' < at' := by show ¬ (M.x c).at' < at'; omega
  rw [show closeF (M.t i).sk at' (c :: r.reverse) M.ce = closeF (M.t i).sk at' r.reverse (M.ce.set c ⟨-1, 0, (M.t i).sk[(M.ce[c]?.getD dX).at']?.getD nilV⟩) by rw [closeF, if_neg hn]]
  show _ = (let o := closeF (M.t i).sk at' r.reverse (close1 M i c r).ce; ({ (close1 M i c r).setT i { M.t i with op := o.1.reverse } with ce := o.2 } : Mc))
  simp only [close1, Mc.setT, List.set_set]
  rfl
/-- The cells that a thread's open list names are there, and so are their slots. -/
def OpOk (M : Mc) (i : Nat) : Prop := ∀ c ∈ (M.t i).op, c < M.ce.length ∧ (M.x c).at' < (M.t i).sk.length
theorem OpOk.one {M : Mc} {i c : Nat} {r : List Nat} (hi : i < M.th.length) (h1 : (M.t i).op = r ++ [c]) (h : OpOk M i) : OpOk (close1 M i c r) i := by
  have e : (close1 M i c r).t i = { M.t i with op := r } := t_setT (M := M) hi _
  obtain ⟨hc1, hc2⟩ := h c (by rw [h1]; simp)
  intro d hd
  rw [e] at hd ⊢
  obtain ⟨h2, h3⟩ := h d (by rw [h1]; exact List.mem_append_left _ hd)
  refine ⟨by show d < (M.ce.set c _).length; rw [List.length_set]; exact h2, ?_⟩
  show ((M.ce.set c ⟨-1, 0, _⟩)[d]?.getD dX).at' < (M.t i).sk.length
  rw [List.getElem?_set]
  by_cases ec : c = d
  · subst ec
    rw [if_pos rfl, if_pos h2]
    show 0 < _
    omega
  · rw [if_neg ec]
    exact h3
/-- The world behind closeFrom's five stores. -/
def cl5 (W : World) (cb x : Nat) (v : V) : World := ((((W.setCell ⟨cb, x * 5 + 2, none⟩ (.int .i64 v.T)).setCell ⟨cb, x * 5 + 3, none⟩ (.int .u64 (v.N : Int))).setCell ⟨cb, x * 5 + 4, none⟩ (.string ⟨v.S.toArray⟩)).setCell ⟨cb, x * 5 + 0, none⟩ (.int .i64 (-1))).setCell ⟨cb, x * 5 + 1, none⟩ (.int .i64 0)
theorem os_set (w : World) (p : Addr) (v : Value) : (w.setCell p v).os = w.os := rfl
theorem tape_set (w : World) (p : Addr) (v : Value) : (w.setCell p v).tape = w.tape := rfl
theorem output_set (w : World) (p : Addr) (v : Value) : (w.setCell p v).output = w.output := rfl
theorem size_set (w : World) (p : Addr) (v : Value) : (w.setCell p v).heap.size = w.heap.size := by simp
theorem cl5_all (W : World) (cb x : Nat) (v : V) : (cl5 W cb x v).os = W.os ∧ (cl5 W cb x v).tape = W.tape ∧ (cl5 W cb x v).output = W.output ∧ (cl5 W cb x v).heap.size = W.heap.size ∧ ∀ k, k ≠ cb → (cl5 W cb x v).heap[k]? = W.heap[k]? := by
  unfold cl5
  refine ⟨by simp only [os_set], by simp only [tape_set], by simp only [output_set], by simp only [size_set], fun k hk => ?_⟩
  rw [Below.heap_setCell _ _ _ _ hk, Below.heap_setCell _ _ _ _ hk, Below.heap_setCell _ _ _ _ hk, Below.heap_setCell _ _ _ _ hk, Below.heap_setCell _ _ _ _ hk]
theorem VmAt.closeN {own : Nat → Nat} {W : World} {m a nb tp : Nat} {K : Mc} {vals : Nat → Value} {L : List Th} (H : VmAt own W m a nb tp K vals L) {i c n ob ocp cb ecp : Nat} {r : List Nat} (hiK : i < K.th.length) (hrc : (K.t i).op = r ++ [c]) (hrl : r.length = n) (ov : vals (10 + 3 * i) = .slice (some ⟨ob, 0, none⟩) (n + 1) ocp) (ev : vals 6 = .slice (some ⟨cb, 0, none⟩) K.ce.length ecp) (hc1 : c < K.ce.length) (hc2 : (K.x c).at' < (K.t i).sk.length) (hopk : OpOk K i) :
    Nf own W m a nb tp i (close1 K i c r) ((cl5 W cb c ((K.t i).sk[(K.x c).at']?.getD nilV)).setCell ⟨a, i * 5 + 4, none⟩ (.slice (some ⟨ob, 0, none⟩) n ocp)) := by
  obtain ⟨_, erow, ecol⟩ := H.ceRow
  have hl : (K.t i).op.length = n + 1 := by rw [hrc, List.length_append, hrl]; rfl
  have hcba : cb ≠ a := by
    rintro rfl
    have h1 : own cb = 407 := ecol cb (by rw [ev]; rfl)
    have h2 := H.ac
    omega
  rw [ev] at erow
  have hclose : (cl5 W cb c ((K.t i).sk[(K.x c).at']?.getD nilV)).ownsRow 0 95 5 (.slice (some ⟨cb, 0, none⟩) K.ce.length ecp) K.ce.length ((K.ce.set c ⟨-1, 0, (K.t i).sk[(K.x c).at']?.getD nilV⟩).flatMap ceC) := by unfold cl5; exact ce_close erow hc1 _
  obtain ⟨g1, g2, g3, g4, g5⟩ := cl5_all W cb c ((K.t i).sk[(K.x c).at']?.getD nilV)
  generalize cl5 W cb c ((K.t i).sk[(K.x c).at']?.getD nilV) = W5 at *
  have hN2 := H.ceSet ev hc1 ⟨-1, 0, (K.t i).sk[(K.x c).at']?.getD nilV⟩ g5 g1 g2 g3 g4 hclose i
  obtain ⟨⟨own2, ho2, ⟨vals2, L2, H2⟩, hch2⟩, hfr2⟩ := hN2
  obtain ⟨q4, _, _⟩ := H2.opRow (i := i) hiK
  obtain ⟨o4, _, _⟩ := H.opRow hiK
  have hcc : vals2 (10 + 3 * i) = .slice (some ⟨ob, 0, none⟩) (K.t i).op.length ocp := by
    have q5 := World.cell?_of_block (a := ⟨a, i * 5 + 4, none⟩) (g5 a hcba.symm)
    have q6 : vals2 (10 + 3 * i) = vals (10 + 3 * i) := Option.some.inj (q4.symm.trans (q5.trans o4))
    rw [q6, ov, hl]
  have hcut := H2.opCut (i := i) hiK (k := n) (by show n ≤ (K.t i).op.length; omega) hcc
  have er : ({ ({ K with ce := K.ce.set c ⟨-1, 0, (K.t i).sk[(K.x c).at']?.getD nilV⟩ } : Mc).t i with op := (({ K with ce := K.ce.set c ⟨-1, 0, (K.t i).sk[(K.x c).at']?.getD nilV⟩ } : Mc).t i).op.take n } : Th) = { K.t i with op := r } := by
    show ({ K.t i with op := (K.t i).op.take n } : Th) = _
    rw [hrc, List.take_append_of_le_length (by omega), ← hrl, List.take_length]
  rw [er] at hcut
  exact ⟨Nx.trans ho2 hch2 hcut.1, hcut.2.trans hfr2⟩
set_option maxRecDepth 8000 in
set_option maxHeartbeats 1600000 in
theorem closeFrom_any {own : Nat → Nat} {W : World} {m a nb tp : Nat} {M : Mc} (HV : Vm own W m a nb tp M) {i : Nat} (hi : i < M.th.length) (at' : Nat) (hat : at' ≤ 100000) (hop : (M.t i).op.length ≤ 10000) (hsk : (M.t i).sk.length ≤ 20000) (hce : M.ce.length ≤ 100000) (hok : OpOk M i) :
    Calls Tryz.prog 83 #[.pointer (some ⟨m, 0, none⟩), .pointer (some ⟨a, i * 5, none⟩), i64 at'] W fun en W' => en = .returned (.tuple #[]) ∧ Nf own W m a nb tp i (closeP M i at') W' := by
  have HS : Hid (Nf own W m a nb tp i M W) := Nf.same HV (Below.refl _ _)
  obtain ⟨vals, L, H⟩ := HV
  obtain ⟨c4, hrow4, _⟩ := H.opRow hi
  obtain ⟨ad, cp, hv4⟩ := row_slice hrow4
  rw [hv4] at c4
  have HOK : Hid (OpOk M i) := hok
  clear H hrow4 hv4 hok
  go_enter Tryz.func83, Tryz.ntmps83
  go_wp2_with fail
  go_loopw [6] (fun j wr => ∃ (k : Nat) (K : Mc), j = .int .i64 (k : Int) ∧ k ≤ 10000 ∧ Hid ((K.t i).op.length = k ∧ K.th.length = M.th.length ∧ (K.t i).sk.length ≤ 20000 ∧ K.ce.length ≤ 100000 ∧ OpOk K i ∧ closeP K i at' = closeP M i at' ∧ Nf own W m a nb tp i K wr)) (fun j _ => (intOf j).toNat)
  case atStart => exact ⟨(M.t i).op.length, M, by go_num, hop, rfl, rfl, hsk, hce, HOK.out, rfl, HS.out⟩
  case round =>
    obtain ⟨k, K, rfl, hk, HI⟩ := hrel
    obtain ⟨hl, hth, hs, hc, hopk, hcl, hN⟩ := HI.out
    by_cases hk0 : k = 0
    · have HE : Hid (Nf own W m a nb tp i (closeP M i at') wr) := by
        rw [← hcl, closeP_stop (fun r c h => by rw [h] at hl; simp at hl; omega)]
        exact hN
      subst hk0
      clear HI hl hth hs hc hopk hcl hN
      go_wp2
      go_end0
      exact ⟨rfl, HE.out⟩
    · obtain ⟨r, c, hrc⟩ : ∃ r c, (K.t i).op = r ++ [c] := by
        rcases List.eq_nil_or_concat (K.t i).op with h0 | ⟨r, c, h1⟩
        · rw [h0] at hl; simp at hl; omega
        · exact ⟨r, c, by rw [h1, List.concat_eq_append]⟩
      obtain ⟨n, rfl⟩ : ∃ n, k = n + 1 := ⟨k - 1, by omega⟩
      have hrl : r.length = n := by rw [hrc] at hl; simp at hl; omega
      have hiK : i < K.th.length := by omega
      obtain ⟨⟨own1, ho1, ⟨vals1, L1, H1⟩, hch1⟩, hfr1⟩ := hN
      obtain ⟨o4, orow, ocol⟩ := H1.opRow hiK
      obtain ⟨ob, ocp, ov, ocl, olt, ofz, ocell⟩ := row_elem ixC_len (by decide) orow (j := n) (x := c) (by rw [hrc, List.getElem?_append_right (by omega), hrl, Nat.sub_self]; rfl)
      have oc := ocell 0 _ rfl
      obtain ⟨hc1, hc2⟩ := hopk c (by rw [hrc]; simp)
      obtain ⟨e8, erow, ecol⟩ := H1.ceRow
      obtain ⟨cb, ecp, ev, ecl, elt, efz, ecell⟩ := row_elem ceC_len (by decide) erow (j := c) (x := K.x c) (by unfold Mc.x; rw [List.getElem?_eq_getElem hc1]; rfl)
      have ec1 := ecell 1 _ rfl
      have fa := H1.az (i * 5 + 4)
      rw [ov] at o4
      rw [ev] at e8
      rw [hl] at o4 ov
      simp only [Nat.mul_one, Nat.add_zero] at oc
      have hob : ob < wr.heap.size := olt
      by_cases hlt : (K.x c).at' < at'
      · have HE : Hid (Nf own W m a nb tp i (closeP M i at') (wr)) := by
          rw [← hcl, closeP_stop (fun r' c' h => by rw [hrc] at h; obtain ⟨_, h2⟩ := List.append_inj' h rfl; cases h2; exact hlt)]
          exact ⟨⟨own1, ho1, ⟨vals1, L1, H1⟩, hch1⟩, hfr1⟩
        have dl : decide (((K.x c).at' : Int) < (at' : Int)) = true := decide_eq_true (by omega)
        generalize (K.x c).at' = ca at *
        generalize K.ce.length = cn at *
        clear HI hl hth hs hopk hcl H1 orow ocol erow ecol ecell ocell hrc
        go_wp2_with fail
        go_quiet (fail)
        go_wp2
        refine bodyPost_ret (results_none rfl _ _ _) rfl ?_
        exact ⟨rfl, HE.out.below (below_drewN (Below.refl _ _) _)⟩
      · obtain ⟨s2, srow, scol⟩ := H1.skRow hiK
        obtain ⟨sb, scp, sv, scl, slt, sfz, scell⟩ := row_elem valC_len (by decide) srow (j := (K.x c).at') (x := (K.t i).sk[(K.x c).at']?.getD nilV) (by rw [List.getElem?_eq_getElem hc2]; rfl)
        have sc0 := scell 0 _ rfl
        have sc1 := scell 1 _ rfl
        have sc2 := scell 2 _ rfl
        rw [sv] at s2
        simp only [Nat.add_zero] at sc0
        have ec0 := ecell 0 _ rfl
        have ec2 := ecell 2 _ rfl
        have ec3 := ecell 3 _ rfl
        have ec4 := ecell 4 _ rfl
        simp only [Nat.add_zero] at ec0
        have hcba : cb ≠ a := by
          rintro rfl
          have h1 : own1 cb = 407 := ecol cb (by rw [ev]; rfl)
          have h2 := H1.ac
          omega
        have hcbs : cb ≠ sb := by
          rintro rfl
          have h1 : own1 cb = 407 := ecol cb (by rw [ev]; rfl)
          have h2 : own1 cb = 409 + 3 * i := scol cb (by rw [sv]; rfl)
          omega
        have hcbm : cb ≠ m := by
          rintro rfl
          have h1 : own1 cb = 407 := ecol cb (by rw [ev]; rfl)
          have h2 := H1.mc
          omega
        have dl : decide (((K.x c).at' : Int) < (at' : Int)) = false := decide_eq_false (by omega)
        have hclN := fun q => VmAt.closeN (H1.below (below_drewN (Below.refl _ _) q)) hiK hrc hrl ov ev hc1 hc2 hopk
        have HNEXT : Hid (∀ q, (((close1 K i c r).t i).op.length = n ∧ (close1 K i c r).th.length = M.th.length ∧ ((close1 K i c r).t i).sk.length ≤ 20000 ∧ (close1 K i c r).ce.length ≤ 100000 ∧ OpOk (close1 K i c r) i ∧ closeP (close1 K i c r) i at' = closeP M i at' ∧ Nf own W m a nb tp i (close1 K i c r) ((cl5 (wr.drewN q) cb c ((K.t i).sk[(K.x c).at']?.getD nilV)).setCell ⟨a, i * 5 + 4, none⟩ (.slice (some ⟨ob, 0, none⟩) n ocp)))) := by
          intro q
          obtain ⟨hne1, hne2⟩ := hclN q
          have hdc : (wr.drewN q).cell? ⟨a, i * 5 + 3, none⟩ = wr.cell? ⟨a, i * 5 + 3, none⟩ := (below_drewN (Below.refl wr.heap.size wr) q).cell (p := ⟨a, i * 5 + 3, none⟩) H1.alt
          have e : (close1 K i c r).t i = { K.t i with op := r } := t_setT (M := K) hiK _
          refine ⟨by rw [e]; exact hrl, by show (K.th.set i _).length = _; rw [List.length_set]; exact hth, by rw [e]; exact hs, by show (K.ce.set c _).length ≤ _; rw [List.length_set]; exact hc, OpOk.one hiK hrc hopk, by rw [← closeP_one hiK hrc (by omega)]; exact hcl, ?_⟩
          exact ⟨Nx.trans ho1 (hch1.below (below_drewN (Below.refl _ _) q)) hne1, hne2.trans (hdc.trans hfr1)⟩
        have HIK : i < K.th.length := hiK
        unfold cl5 at HNEXT
        simp only [Nat.add_zero] at HNEXT
        have nca : ¬ cb = a := hcba
        have ncs : ¬ cb = sb := hcbs
        have ncm : ¬ cb = m := hcbm
        have nac : ¬ a = cb := hcba.symm
        have nsc : ¬ sb = cb := hcbs.symm
        have nmc : ¬ m = cb := hcbm.symm
        have zc : ∀ k, wr.frozen? ⟨cb, k, none⟩ = false := efz
        obtain ⟨⟨vT, vN, vS⟩, htop⟩ : ∃ v : V, v = (K.t i).sk[(K.x c).at']?.getD nilV := ⟨_, rfl⟩
        rw [← htop] at HNEXT sc0 sc1 sc2
        simp only at HNEXT
        simp only at sc0 sc1 sc2
        have HN2 : Hid (∀ q, ∃ K2 : Mc, (K2.t i).op.length = n ∧ K2.th.length = M.th.length ∧ (K2.t i).sk.length ≤ 20000 ∧ K2.ce.length ≤ 100000 ∧ OpOk K2 i ∧ closeP K2 i at' = closeP M i at' ∧ Nf own W m a nb tp i K2 (((((((wr.drewN q).setCell ⟨cb, c * 5 + 2, none⟩ (.int .i64 vT)).setCell ⟨cb, c * 5 + 3, none⟩ (.int .u64 (vN : Int))).setCell ⟨cb, c * 5 + 4, none⟩ (.string ⟨vS.toArray⟩)).setCell ⟨cb, c * 5, none⟩ (.int .i64 (-1))).setCell ⟨cb, c * 5 + 1, none⟩ (.int .i64 0)).setCell ⟨a, i * 5 + 4, none⟩ (.slice (some ⟨ob, 0, none⟩) n ocp))) := fun q => ⟨_, HNEXT.out q⟩
        generalize (K.x c).at' = ca at *
        generalize (K.x c).th = cth at *
        generalize hcv : (K.x c).v = cv at *
        generalize K.ce.length = cn at *
        generalize (K.t i).sk.length = sn at *
        obtain ⟨zT, zN, zS⟩ := cv
        simp only at ec2 ec3 ec4
        rw [hl] at ocl
        clear hclN HI hl hth hopk hcl H1 orow ocol erow ecol ecell ocell hrc srow scol scell HNEXT htop hcv hch1 ho1 hfr1 hiK
        go_wp2_with fail
        clear sv ev ov
        go_quiet (fail)
        go_wp2_with fail
        go_region
        all_goals go_wp2_with fail
        all_goals
          go_roundw
          case rel =>
            obtain ⟨K2, hK2⟩ := HN2.out (nq + 1)
            exact ⟨n, K2, by go_num, by omega, hK2⟩
          case measure => simp [intOf]
end Go.Proofs.Qxb6500293aGreatRR
