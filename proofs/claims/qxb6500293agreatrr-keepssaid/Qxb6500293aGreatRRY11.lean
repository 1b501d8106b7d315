/-
  capture walked.
-/
import Derived.Test.Qxb6500293aGreatRRY11a
namespace Go.Proofs.Qxb6500293aGreatRR
open Go.RowKit
open Ieee (double)
set_option linter.unusedVariables false
set_option linter.unusedSimpArgs false

theorem capF_len (ce : List Ce) (at' : Nat) : ∀ l : List Nat, capF ce at' l ≤ l.length
  | [] => Nat.le_refl _
  | c :: r => by
    unfold capF
    split
    · have := capF_len ce at' r
      simp only [List.length_cons]
      omega
    · simp
theorem capF_take {ce : List Ce} {at' k : Nat} {l : List Nat} {c : Nat} (h : l[k]? = some c) : capF ce at' (l.take (k + 1)).reverse = if at' < (ce[c]?.getD dX).at' then capF ce at' (l.take k).reverse else k + 1 := by
  have hk := (List.getElem?_eq_some_iff.1 h).1
  rw [List.take_add_one, h]
  simp only [Option.toList_some, List.reverse_append, List.reverse_cons, List.reverse_nil, List.nil_append, List.singleton_append]
  rw [capF]
  congr 1
  rw [List.length_reverse, List.length_take]
  omega
theorem Vm.opE {own : Nat → Nat} {W : World} {m a nb tp : Nat} {M : Mc} (HV : Vm own W m a nb tp M) {i : Nat} (hi : i < M.th.length) {k : Nat} (hk : k < (M.t i).op.length) : ∃ b cp, W.cell? ⟨a, i * 5 + 4, none⟩ = some (.slice (some ⟨b, 0, none⟩) (M.t i).op.length cp) ∧ (M.t i).op.length ≤ cp ∧ b < W.heap.size ∧ own b = 411 + 3 * i ∧ i < 5 ∧ (∀ k, W.frozen? ⟨b, k, none⟩ = false) ∧ W.cell? ⟨b, k, none⟩ = some (i64 ((M.t i).op[k]?.getD 0)) := by
  obtain ⟨vals, L, H⟩ := HV
  obtain ⟨s2, srow, scol⟩ := H.opRow hi
  obtain ⟨sb, scp, sv, scl, slt, sfz, scell⟩ := row_elem ixC_len (by decide) srow (j := k) (x := (M.t i).op[k]?.getD 0) (at_some hk)
  have h6 := scell 0 _ rfl
  rw [Nat.mul_one, Nat.add_zero] at h6
  exact ⟨sb, scp, by rw [s2, sv], scl, slt, scol sb (by rw [sv]; rfl), (H.thr hi).2.1, sfz, h6⟩
theorem Vm.opS {own : Nat → Nat} {W : World} {m a nb tp : Nat} {M : Mc} (HV : Vm own W m a nb tp M) {i : Nat} (hi : i < M.th.length) : ∃ ad cp, W.cell? ⟨a, i * 5 + 4, none⟩ = some (.slice ad (M.t i).op.length cp) ∧ (M.t i).op.length ≤ cp := by
  obtain ⟨vals, L, H⟩ := HV
  obtain ⟨p1, p2, p3⟩ := H.opRow hi
  obtain ⟨ad, cp, hv⟩ := row_slice p2
  have hr := p2
  rw [hv] at hr p1
  exact ⟨ad, cp, p1, (row_takeA hr (Nat.zero_le _)).1⟩
theorem step_copy_eq {P : Program} {ops : Array Oper} {o : Oper} {a : Act} {w : World} {K : Act → World → Prop} {Q : Exit → Act → World → Prop} {E : Prop}
    (hg : o.guard = none) (s x : Operand) (t u : TypeId) (hop : o.op = Op.call { callee := Callee.builtin Builtin.copy, args := #[s, x], argTypes := #[t, u] })
    (v y v' : Value) (w' : World) (hs : a.eval s = v) (hx : a.eval x = y) (hrun : (Builtin.copy_ #[t, u] o.type #[v, y]).run P w = .ok v' w')
    (hK : K (a.put o.dst v') w') : if Region.wanted o (yielded ops a.tmps) = true then Oper.wp P o a w K Q else E := by
  have hw : Region.wanted o (yielded ops a.tmps) = true := by simp [Region.wanted, hg]
  rw [if_pos hw]
  unfold Oper.wp
  simp [execOp, hop, resolve, invoke, builtin, hs, hx, hrun, Result.andThen]
  exact hK
set_option maxRecDepth 8000 in
set_option maxHeartbeats 3200000 in
theorem capture_any {own : Nat → Nat} {W : World} {m a nb tp : Nat} {M : Mc} (HV : Vm own W m a nb tp M) {i : Nat} (hi : i < M.th.length) (at' : Nat) (hop : (M.t i).op.length ≤ 10000) (hce : M.ce.length ≤ 50000) (hok : ∀ c ∈ (M.t i).op, c < M.ce.length) :
    Calls Tryz.prog 116 #[.pointer (some ⟨m, 0, none⟩), i64 i, .pointer (some ⟨a, i * 5, none⟩), i64 at'] W fun e W' => e = .returned (i64 (capP M i at').2) ∧ Nf own W m a nb tp i (capP M i at').1 W' ∧ (∀ k, k < W.heap.size → 401 ≤ own k → own k ≤ 406 → W'.heap[k]? = W.heap[k]?) := by
  have HHV : Hid (Vm own W m a nb tp M) := HV
  obtain ⟨ado, cpo, o4, o5⟩ := HV.opS hi
  have HOK : Hid (∀ c ∈ (M.t i).op, c < M.ce.length) := hok
  obtain ⟨ol, hol⟩ : ∃ ol, ol = (M.t i).op.length := ⟨_, rfl⟩
  rw [← hol] at o4 o5 hop
  have HOL : Hid (ol = (M.t i).op.length) := hol
  have HCI : Hid (capF M.ce at' ((M.t i).op.take ol).reverse = capI M i at') := by rw [hol, List.take_length]; exact rfl
  clear hok HV hol
  go_enter Tryz.func116, Tryz.ntmps116
  go_wp2_with fail
  go_loopw [9] (fun kv wr => ∃ (k q : Nat), kv = .int .i64 (k : Int) ∧ k ≤ ol ∧ Hid (capF M.ce at' ((M.t i).op.take k).reverse = capI M i at') ∧ Hid (wr = W.drewN q)) (fun kv _ => (intOf kv).toNat)
  case atStart => exact ⟨ol, 0, by go_num, Nat.le_refl _, HCI, rfl⟩
  case round =>
    obtain ⟨k, q, rfl, hk, HC, HWR⟩ := hrel
    have hbq := below_drewN (Below.refl W.heap.size W) q
    have HV1 := HHV.out.below hbq
    rw [← HWR.out] at HV1 hbq
    by_cases hk0 : k = 0
    · have HCN : Hid (capN M i at' = { M.setT i { M.t i with op := (M.t i).op.take k ++ [M.ce.length] ++ (M.t i).op.drop k } with ce := M.ce ++ [⟨(i : Int), at', nilV⟩] }) := by
        show _ = _
        unfold capN
        rw [← HC.out, hk0]
        rfl
      have HO : Hid (capP M i at' = (capN M i at', M.ce.length)) := by
        show _ = _
        unfold capP
        rw [← HC.out, hk0]
        exact if_neg (fun h => absurd h.1 (Nat.lt_irrefl 0))
      have dk : decide (0 < k) = false := decide_eq_false (by omega)
      have HV2 : Hid (Vm own wr m a nb tp M) := HV1
      clear HV1 hk0
      have HV1 : Hid (Vm own wr m a nb tp M) := HV2.out
      clear HV2
      have HBQ : Hid (Below W.heap.size W wr) := hbq
      clear hbq
      go_wp2_with fail
      go_quiet (fail)
      revert nq
      intro nq1
      go_wp2_with fail
      go_quiet (fail)
      obtain ⟨w5, hw5⟩ : ∃ w5, w5 = wr.drewN (nq1 + nq) := ⟨_, rfl⟩
      have hdd : (wr.drewN nq1).drewN nq = w5 := by rw [hw5]; exact World.drewN_drewN _ _ _
      rw [hdd]
      have HV5 : Vm own w5 m a nb tp M := by rw [hw5]; exact HV1.out.below (below_drewN (Below.refl _ _) _)
      have HB5 : Hid (Vm own W m a nb tp M ∧ Below W.heap.size W w5) := ⟨HHV.out, by rw [hw5]; exact below_drewN HBQ.out _⟩
      clear hw5 hdd
      obtain ⟨ad6, cp6, ad7, cp7, w6, ad8, cp8, ob, cp9, w7, w9, r0, happ1, r1, r2, s0, happ2, s1, s2, s3, hcopy, t0, ⟨tu, t1⟩, t2, hN, hkp⟩ := HV5.capTail hi (at' := at') (n := k) HOL.out rfl (by omega) (by omega) hce
      have HN : Hid (Nf own W m a nb tp i (capP M i at').1 (w9.setCell ⟨ob, k, none⟩ (i64 M.ce.length)) ∧ (capP M i at').2 = M.ce.length ∧ (∀ k2, k2 < W.heap.size → 401 ≤ own k2 → own k2 ≤ 406 → (w9.setCell ⟨ob, k, none⟩ (i64 M.ce.length)).heap[k2]? = W.heap[k2]?)) := by
        rw [HO.out]
        refine ⟨?_, rfl, fun k hk h1 h2 => (hkp k (Nat.lt_of_lt_of_le hk HB5.out.2.size) h1 h2).trans (HB5.out.2.block k hk)⟩
        rw [HCN.out]
        exact Nf.pre HB5.out.1 HB5.out.2 hN
      have hcA := hcopy (some ⟨ob, k + 1, none⟩) (some ⟨ob, k, none⟩) (fun _ => ⟨rfl, rfl⟩)
      have hcB : cp9 = k + 1 → _ := fun e => hcopy (some ⟨ob, 0, none⟩) (some ⟨ob, k, none⟩) (fun h => by omega)
      have HCB : Hid _ := hcB
      have hkc : ¬ cp9 = k := by omega
      have hwk : IntKind.i64.wrap ((k : Int) + 1) = ((k + 1 : Nat) : Int) := by rw [IntWalk.i64_in _ ⟨by omega, by omega⟩]; rfl
      have h01 : (0 : Int) ≤ (k : Int) + 1 := by omega
      have h03 : (k : Int) ≤ (ol : Int) + 1 := by omega
      generalize M.ce.length = cl at *
      clear hN hkp HV5 HHV HV1 HBQ HB5 HCN HO HC HOK HOL HCI HWR hcopy hcB
      go_wp2_with (first | (at_builtin; refine wpList_append_eq rfl _ _ 57 rfl _ _ _ _ rfl rfl happ1 ?_) | (at_builtin; refine wpList_append_eq rfl _ _ 56 rfl _ _ _ _ rfl rfl happ2 ?_))
      by_cases hcp : cp9 = k + 1
      · have hcC := HCB.out hcp
        rw [hcp] at hcC
        simp only [Nat.add_sub_cancel_left, Nat.sub_self] at hcC
        clear hcA HCB
        go_region_law (refine step_copy_eq rfl (.tmp 100) (.tmp 106) 56 56 rfl _ _ _ _ (by simp [Act.eval, Act.put]; first | done | omega) (by simp [Act.eval, Act.put]; first | done | omega) hcC ?_)
        all_goals
          go_wp2_with fail
          go_ret
          exact ⟨by rw [HN.out.2.1]; rfl, HN.out.1, HN.out.2.2⟩
      · clear HCB
        go_region_law (refine step_copy_eq rfl (.tmp 100) (.tmp 106) 56 56 rfl _ _ _ _ (by simp [Act.eval, Act.put]; first | done | omega) (by simp [Act.eval, Act.put]; first | done | omega) hcA ?_)
        all_goals
          go_wp2_with fail
          go_ret
          exact ⟨by rw [HN.out.2.1]; rfl, HN.out.1, HN.out.2.2⟩
    · obtain ⟨n, rfl⟩ : ∃ n, k = n + 1 := ⟨k - 1, by omega⟩
      have hnl : n < (M.t i).op.length := by have := HOL.out; omega
      obtain ⟨ob, ocp, e4, e5, e6, e7, e8, ez, e9⟩ := HV1.opE hi hnl
      rw [← HOL.out] at e4 e5
      obtain ⟨c, hc⟩ : ∃ c, (M.t i).op[n]? = some c := ⟨_, List.getElem?_eq_getElem hnl⟩
      rw [hc, Option.getD_some] at e9
      have hcl := HOK.out c (List.mem_of_getElem? hc)
      obtain ⟨cb, ccp, c8, c9, c10, _, _, _, c11, _⟩ := HV1.ceE hcl
      have hct := capF_take (ce := M.ce) (at' := at') hc
      have hxe : (M.ce[c]?.getD dX).at' = (M.x c).at' := rfl
      rw [hxe, HC.out] at hct
      by_cases hlt : at' < (M.x c).at'
      · rw [if_pos hlt] at hct
        have HC2 : Hid (capF M.ce at' ((M.t i).op.take n).reverse = capI M i at') := hct.symm
        have dl : decide (at' < (M.x c).at') = true := decide_eq_true (by omega)
        have HQ2 : Hid (∀ p, wr.drewN p = W.drewN (q + p)) := by
          intro p
          rw [HWR.out]
          exact World.drewN_drewN _ _ _
        generalize (M.x c).at' = xa at *
        generalize M.ce.length = cl at *
        clear HV1 hbq hct HC HOL HCI HHV HOK hc hxe
        go_wp2_with fail
        go_quiet (fail)
        go_wp2_with fail
        go_roundw
        case rel => exact ⟨n, _, by go_num, by omega, HC2, HQ2.out _⟩
        case measure => simp [intOf]
      · rw [if_neg hlt] at hct
        by_cases heq : (M.x c).at' = at'
        · have HO : Hid (capP M i at' = (M, c)) := by
            show _ = _
            unfold capP
            rw [hct]
            simp only [Nat.add_sub_cancel, hc, Option.getD_some]
            rw [if_pos ⟨by omega, heq⟩]
          have dl : decide (at' < (M.x c).at') = false := decide_eq_false (by omega)
          have de : (((M.x c).at' : Int) == (at' : Int)) = true := by rw [beq_iff_eq]; omega
          have HN : Hid (Nf own W m a nb tp i M wr ∧ Below W.heap.size W wr) := ⟨Nf.same HHV.out hbq, hbq⟩
          generalize (M.x c).at' = xa at *
          generalize M.ce.length = cl at *
          clear HV1 hbq hct HC HOL HCI HHV HOK hc hxe heq hlt
          go_wp2_with fail
          go_quiet (fail)
          go_wp2_with fail
          go_quiet (fail)
          go_wp2_with fail
          go_ret
          exact ⟨by rw [HO.out]; rfl, by rw [HO.out]; exact HN.out.1.below (below_drewN (Below.refl _ _) _), fun k hk _ _ => HN.out.2.block k hk⟩
        · have HCN : Hid (capN M i at' = { M.setT i { M.t i with op := (M.t i).op.take (n + 1) ++ [M.ce.length] ++ (M.t i).op.drop (n + 1) } with ce := M.ce ++ [⟨(i : Int), at', nilV⟩] }) := by
            show _ = _
            unfold capN
            rw [hct]
          have HO : Hid (capP M i at' = (capN M i at', M.ce.length)) := by
            show _ = _
            unfold capP
            rw [hct]
            simp only [Nat.add_sub_cancel, hc, Option.getD_some]
            exact if_neg (fun h => heq h.2)
          have dl : decide (at' < (M.x c).at') = false := decide_eq_false (by omega)
          have de : (((M.x c).at' : Int) == (at' : Int)) = false := by rw [beq_eq_false_iff_ne]; omega
          have HV2 : Hid (Vm own wr m a nb tp M) := HV1
          have HBQ : Hid (Below W.heap.size W wr) := hbq
          clear HV1 hbq hct hc hxe heq hlt
          have HV1 : Hid (Vm own wr m a nb tp M) := HV2.out
          clear HV2
          generalize (M.x c).at' = xa at *
          go_wp2_with fail
          go_quiet (fail)
          revert nq
          intro nq1
          go_wp2_with fail
          go_quiet (fail)
          obtain ⟨w5, hw5⟩ : ∃ w5, w5 = wr.drewN (nq1 + nq) := ⟨_, rfl⟩
          have hdd : (wr.drewN nq1).drewN nq = w5 := by rw [hw5]; exact World.drewN_drewN _ _ _
          rw [hdd]
          have HV5 : Vm own w5 m a nb tp M := by rw [hw5]; exact HV1.out.below (below_drewN (Below.refl _ _) _)
          have HB5 : Hid (Vm own W m a nb tp M ∧ Below W.heap.size W w5) := ⟨HHV.out, by rw [hw5]; exact below_drewN HBQ.out _⟩
          clear hw5 hdd
          obtain ⟨ad6, cp6, ad7, cp7, w6, ad8, cp8, ob, cp9, w7, w9, r0, happ1, r1, r2, s0, happ2, s1, s2, s3, hcopy, t0, ⟨tu, t1⟩, t2, hN, hkp⟩ := HV5.capTail hi (at' := at') (n := n + 1) HOL.out rfl (by omega) (by omega) hce
          have HN : Hid (Nf own W m a nb tp i (capP M i at').1 (w9.setCell ⟨ob, n + 1, none⟩ (i64 M.ce.length)) ∧ (capP M i at').2 = M.ce.length ∧ (∀ k, k < W.heap.size → 401 ≤ own k → own k ≤ 406 → (w9.setCell ⟨ob, n + 1, none⟩ (i64 M.ce.length)).heap[k]? = W.heap[k]?)) := by
            rw [HO.out]
            refine ⟨?_, rfl, fun k hk h1 h2 => (hkp k (Nat.lt_of_lt_of_le hk HB5.out.2.size) h1 h2).trans (HB5.out.2.block k hk)⟩
            rw [HCN.out]
            exact Nf.pre HB5.out.1 HB5.out.2 hN
          have hcA := hcopy (some ⟨ob, n + 1 + 1, none⟩) (some ⟨ob, n + 1, none⟩) (fun _ => ⟨rfl, rfl⟩)
          have hcB : cp9 = n + 1 + 1 → _ := fun e => hcopy (some ⟨ob, 0, none⟩) (some ⟨ob, n + 1, none⟩) (fun h => by omega)
          have HCB : Hid _ := hcB
          have hkc : ¬ cp9 = n + 1 := by omega
          have hwk : IntKind.i64.wrap ((n : Int) + 1 + 1) = ((n + 1 + 1 : Nat) : Int) := by rw [IntWalk.i64_in _ ⟨by omega, by omega⟩]; rfl
          have h01 : (0 : Int) ≤ (n : Int) + 1 + 1 := by omega
          have h02 : (0 : Int) ≤ (n : Int) + 1 := by omega
          have h03 : (n : Int) + 1 ≤ (ol : Int) + 1 := by omega
          have h04 : (n : Int) + 1 + 1 ≤ (ol : Int) + 1 := by omega
          have h05 : (n : Int) + 1 ≤ (ol : Int) := by omega
          have h06 : n + 1 ≤ ol := by omega
          generalize M.ce.length = cl at *
          clear hN hkp HV5 HHV HV1 HBQ HB5 HCN HO HC HOK HOL HCI HWR hcopy hcB
          go_wp2_with (first | (at_builtin; refine wpList_append_eq rfl _ _ 57 rfl _ _ _ _ rfl rfl happ1 ?_) | (at_builtin; refine wpList_append_eq rfl _ _ 56 rfl _ _ _ _ rfl rfl happ2 ?_))
          by_cases hcp : cp9 = n + 1 + 1
          · have hcC := HCB.out hcp
            rw [hcp] at hcC
            simp only [Nat.add_sub_cancel_left, Nat.sub_self] at hcC
            clear hcA HCB
            go_region_law (refine step_copy_eq rfl (.tmp 100) (.tmp 106) 56 56 rfl _ _ _ _ (by simp [Act.eval, Act.put]; first | done | (rw [show ((n : Int) + 1 + 1).toNat = n + 1 + 1 by omega]; first | (rw [if_pos rfl]; exact ⟨rfl, by omega, by omega⟩) | (rw [if_pos hcp]; exact ⟨rfl, by omega, by omega⟩)) | omega) (by simp [Act.eval, Act.put]; first | done | omega) hcC ?_)
            all_goals
              go_wp2_with fail
              go_ret
              exact ⟨by rw [HN.out.2.1]; rfl, HN.out.1, HN.out.2.2⟩
          · clear HCB
            go_region_law (refine step_copy_eq rfl (.tmp 100) (.tmp 106) 56 56 rfl _ _ _ _ (by simp [Act.eval, Act.put]; rw [show ((n : Int) + 1 + 1).toNat = n + 1 + 1 by omega, if_neg hcp]; exact ⟨rfl, by omega, rfl⟩) (by simp [Act.eval, Act.put]; first | done | omega) hcA ?_)
            all_goals
              go_wp2_with fail
              go_ret
              exact ⟨by rw [HN.out.2.1]; rfl, HN.out.1, HN.out.2.2⟩
end Go.Proofs.Qxb6500293aGreatRR
