/-
  closure walked.
-/
import Derived.Test.Qxb6500293aGreatRRY11
namespace Go.Proofs.Qxb6500293aGreatRR
open Go.RowKit
open Ieee (double)
set_option linter.unusedVariables false
set_option linter.unusedSimpArgs false

/-- What the making of closures leaves as it was, and how far it goes. -/
structure CK (M : Mc) (i j : Nat) (K : Mc) : Prop where
  cs : K.cs = M.cs
  pr : K.pr = M.pr
  ds : K.ds = M.ds
  th : K.th.length = M.th.length
  fr : (K.t i).fr = (M.t i).fr
  ul : K.ux.length = M.ux.length + j
  up : ∀ q, q < M.ux.length → K.ux[q]? = M.ux[q]?
  op : ∀ c ∈ (K.t i).op, c < K.ce.length
  ol : (K.t i).op.length ≤ (M.t i).op.length + j
  cl : K.ce.length ≤ M.ce.length + j
theorem capP_CK {M K : Mc} {i j : Nat} (h : CK M i j K) (hi : i < M.th.length) (at' : Nat) : (capP K i at').1.cs = K.cs ∧ (capP K i at').1.pr = K.pr ∧ (capP K i at').1.ds = K.ds ∧ (capP K i at').1.ux = K.ux ∧ (capP K i at').1.th.length = K.th.length ∧ ((capP K i at').1.t i).fr = (K.t i).fr ∧ (∀ c ∈ ((capP K i at').1.t i).op, c < (capP K i at').1.ce.length) ∧ ((capP K i at').1.t i).op.length ≤ (K.t i).op.length + 1 ∧ (capP K i at').1.ce.length ≤ K.ce.length + 1 ∧ K.ce.length ≤ (capP K i at').1.ce.length ∧ ((capP K i at').2 < (capP K i at').1.ce.length) := by
  have hiK : i < K.th.length := by rw [h.th]; exact hi
  unfold capP
  by_cases c : 0 < capI K i at' ∧ (K.x ((K.t i).op[capI K i at' - 1]?.getD 0)).at' = at'
  · simp only [if_pos c]
    refine ⟨by trivial, by trivial, by trivial, by trivial, by trivial, by trivial, h.op, by omega, by omega, by omega, ?_⟩
    have hl : capI K i at' ≤ (K.t i).op.length := by
      have := capF_len K.ce at' (K.t i).op.reverse
      rw [List.length_reverse] at this
      exact this
    have hlt : capI K i at' - 1 < (K.t i).op.length := by omega
    rw [List.getElem?_eq_getElem hlt, Option.getD_some]
    exact h.op _ (List.getElem_mem hlt)
  · simp only [if_neg c]
    have ht : (capN K i at').t i = { K.t i with op := (K.t i).op.take (capI K i at') ++ [K.ce.length] ++ (K.t i).op.drop (capI K i at') } := t_setT (M := K) hiK _
    have hce : (capN K i at').ce.length = K.ce.length + 1 := by show (K.ce ++ [_]).length = _; simp
    refine ⟨rfl, rfl, rfl, rfl, th_setT _ _ _, by rw [ht], ?_, ?_, by omega, by omega, by omega⟩
    · intro d hd
      rw [ht] at hd
      simp only [List.mem_append, List.mem_singleton] at hd
      rcases hd with (hd | hd) | hd
      · have := h.op d (List.mem_of_mem_take hd); omega
      · omega
      · have := h.op d (List.mem_of_mem_drop hd); omega
    · rw [ht]
      simp
      omega
theorem CK.step {M K : Mc} {i j : Nat} (h : CK M i j K) (hi : i < M.th.length) (base clo : Nat) (d : Nat × Nat) : CK M i (j + 1) (clos1 K i base clo d) := by
  obtain ⟨a1, a2, a3, a4, a5, a6, a7, a8, a9, _, _⟩ := capP_CK h hi (base + d.2)
  unfold clos1
  by_cases c : d.1 = 1
  · rw [if_pos c]
    refine ⟨a1.trans h.cs, a2.trans h.pr, a3.trans h.ds, a5.trans h.th, a6.trans h.fr, ?_, ?_, a7, ?_, ?_⟩
    · show (K.ux ++ [_]).length = _
      have := h.ul
      simp
      omega
    · intro q hq
      show (K.ux ++ [_])[q]? = _
      rw [List.getElem?_append_left (by have := h.ul; omega)]
      exact h.up q hq
    · show ((capP K i (base + d.2)).1.t i).op.length ≤ _
      have := h.ol
      omega
    · show (capP K i (base + d.2)).1.ce.length ≤ _
      have := h.cl
      omega
  · rw [if_neg c]
    refine ⟨h.cs, h.pr, h.ds, h.th, h.fr, ?_, ?_, h.op, ?_, ?_⟩
    · show (K.ux ++ [_]).length = _
      have := h.ul
      simp
      omega
    · intro q hq
      show (K.ux ++ [_])[q]? = _
      rw [List.getElem?_append_left (by have := h.ul; omega)]
      exact h.up q hq
    · have := h.ol
      show (K.t i).op.length ≤ _
      omega
    · have := h.cl
      show K.ce.length ≤ _
      omega
theorem closF_snoc (i base clo : Nat) : ∀ (l : List (Nat × Nat)) (d : Nat × Nat) (M : Mc), closF i base clo (l ++ [d]) M = clos1 (closF i base clo l M) i base clo d
  | [], d, M => rfl
  | e :: l, d, M => by
    show closF i base clo (l ++ [d]) (clos1 M i base clo e) = _
    rw [closF_snoc]
    rfl
theorem Vm.lenE {own : Nat → Nat} {W : World} {m a nb tp : Nat} {M : Mc} (HV : Vm own W m a nb tp M) (j o n : Nat) (hj : j < 7) (ho : o = 2 + j) (hn : ∀ L, (rowM M L j).n = n) : ∃ ad cp, W.cell? ⟨m, o, none⟩ = some (.slice ad n cp) ∧ n ≤ cp := by
  subst ho
  obtain ⟨vals, L, H⟩ := HV
  obtain ⟨p1, p2, p3⟩ := H.row j (by omega)
  have hloc : locM m a j = ⟨m, 2 + j, none⟩ := by unfold locM; rw [if_pos hj]
  rw [hloc] at p1
  obtain ⟨ad, cp, hv⟩ := row_slice p2
  rw [hv, hn L] at p1
  rw [hv, hn L] at p2
  exact ⟨ad, cp, p1, (row_takeA p2 (Nat.zero_le _)).1⟩
structure ClosOk (M : Mc) (i x : Nat) : Prop where
  hx : x < M.pr.length
  pr : M.pr.length ≤ 100
  win : (M.pr[x]?.getD dP).up + (M.pr[x]?.getD dP).nup ≤ M.ds.length
  ds : M.ds.length ≤ 40000
  nup : (M.pr[x]?.getD dP).nup ≤ 255
  cs : M.cs.length ≤ 24
  clo : (M.t i).f.clo < M.cs.length
  base : (M.t i).f.base ≤ 100000
  kind : ∀ d ∈ M.ds, d.1 ≤ 1 ∧ d.2 < 256
  desc : ∀ d ∈ descs M x, d.1 ≠ 1 → (M.c (M.t i).f.clo).up + d.2 < M.ux.length
  ux : M.ux.length ≤ 10000
  ce : M.ce.length ≤ 10000
  op : (M.t i).op.length ≤ 9000
  ops : ∀ c ∈ (M.t i).op, c < M.ce.length
set_option maxRecDepth 8000 in
set_option maxHeartbeats 6400000 in
theorem closure_any {own : Nat → Nat} {W : World} {m a nb tp : Nat} {M : Mc} (HV : Vm own W m a nb tp M) {i : Nat} (hi : i < M.th.length) {fb n cp : Nat} (hc : W.cell? ⟨a, i * 5 + 3, none⟩ = some (.slice (some ⟨fb, 0, none⟩) (n + 1) cp)) (hn : (M.t i).fr.length = n + 1) (x : Nat) (h : ClosOk M i x) :
    Calls Tryz.prog 108 #[.pointer (some ⟨m, 0, none⟩), i64 i, .pointer (some ⟨a, i * 5, none⟩), .pointer (some ⟨fb, n * 5, none⟩), i64 x] W (OuEf own W m a nb tp i (closP M i x) (fun c => i64 c)) := by
  have HHV : Hid (Vm own W m a nb tp M) := HV
  obtain ⟨ad6, cp6, c6, _⟩ := HV.lenE 4 6 M.cs.length (by omega) rfl (fun _ => rfl)
  by_cases h24 : 24 ≤ M.cs.length
  · have HO : Hid (closP M i x = trp M 0 8) := if_pos h24
    have HS : Hid (Nx own W m a nb tp M W) := Nx.same HV (Below.refl _ _)
    have HST := fun W => stop_any 8 W
    have dk : decide (24 ≤ M.cs.length) = true := decide_eq_true h24
    have dk2 : decide ((24 : Int) ≤ (M.cs.length : Int)) = true := decide_eq_true (by omega)
    generalize M.cs.length = cl at *
    clear HV HHV h
    go_enter Tryz.func108, Tryz.ntmps108
    go_wp2_with fail
    refine (HST _).mono ?_; rintro e w3 ⟨rfl, rfl⟩
    go_wp2_with fail
    simp [bodyPost]
    rw [HO.out]
    exact .inr (.inr ⟨rfl, rfl, HS.out⟩)
  · have hfa := Th.f_at (t := M.t i) (by omega)
    rw [hn, Nat.add_sub_cancel] at hfa
    obtain ⟨M1, hM1⟩ : ∃ M1, M1 = closF i (M.t i).f.base (M.t i).f.clo (descs M x) M := ⟨_, rfl⟩
    have HO : Hid (closP M i x = ok { M1 with cs := M.cs ++ [⟨x, M.ux.length, (M.pr[x]?.getD dP).nup⟩] } M.cs.length) := by
      show _ = _
      unfold closP
      rw [if_neg h24, hM1]
    have HM1 : Hid (M1 = closF i (M.t i).f.base (M.t i).f.clo (descs M x) M) := hM1
    clear hM1
    obtain ⟨pb, pcp, p1, p2, p3, p4, p5⟩ := HV.prE h.hx
    have q2 := p5 2 _ rfl
    have q3 := p5 3 _ rfl
    obtain ⟨ad7, cp7, c7, _⟩ := HV.lenE 5 7 M.ux.length (by omega) rfl (fun _ => rfl)
    obtain ⟨ad3, cp3, c3, hcp3⟩ := HV.lenE 1 3 M.ds.length (by omega) rfl (fun _ => rfl)
    have HH : Hid (ClosOk M i x) := h
    have hx := h.hx
    have hpr := h.pr
    have hwin := h.win
    have hds := h.ds
    have hnup := h.nup
    have hux := h.ux
    have dk : decide (24 ≤ M.cs.length) = false := decide_eq_false h24
    have dk2 : decide ((24 : Int) ≤ (M.cs.length : Int)) = false := decide_eq_false (by omega)
    have HDL : Hid ((descs M x).length = (M.pr[x]?.getD dP).nup ∧ ∀ j, j < (M.pr[x]?.getD dP).nup → (descs M x)[j]? = M.ds[(M.pr[x]?.getD dP).up + j]?) := by
      refine ⟨?_, fun j hj => ?_⟩
      · unfold descs
        rw [List.length_take, List.length_drop]
        omega
      · unfold descs
        rw [List.getElem?_take, if_pos hj, List.getElem?_drop]
    by_cases h0 : (M.pr[x]?.getD dP).nup = 0
    · have HCK : Hid (CK M i 0 M1) := by
        have hd : descs M x = [] := List.length_eq_zero_iff.1 (by rw [HDL.out.1]; exact h0)
        rw [HM1.out, hd]
        exact ⟨rfl, rfl, rfl, rfl, rfl, rfl, fun _ _ => rfl, HH.out.ops, Nat.le_refl _, Nat.le_refl _⟩
      have HM2 : Hid (M1 = M) := by
        have hd : descs M x = [] := List.length_eq_zero_iff.1 (by rw [HDL.out.1]; exact h0)
        show _ = _
        rw [HM1.out, hd]
        rfl
      have hup0 : (M.pr[x]?.getD dP).up ≤ M.ds.length := by omega
      rw [h0] at q3
      have u2 : (M.pr[x]?.getD dP).up ≤ cp3 := by omega
      have u3 : (M.pr[x]?.getD dP).up ≤ 40000 := by omega
      generalize (M.pr[x]?.getD dP).up = up at *
      clear HV h hfa hn hc
      have p5' := p5
      clear p5
      have HP5 : Hid _ := p5'
      clear p5'
      go_enter Tryz.func108, Tryz.ntmps108
      go_wp2_with fail
      go_quiet (fail)
      go_wp2_with fail
      all_goals
        go_loopw [53] (fun jv wr => ∃ j : Nat, jv = .int .i64 (j : Int) ∧ j ≤ 0 ∧ Hid (∃ q, wr = W.drewN q)) (fun jv _ => (intOf jv).toNat)
        case atStart => exact ⟨0, rfl, Nat.le_refl _, _, rfl⟩
        case round =>
          obtain ⟨j, rfl, hj0, HWR⟩ := hrel
          have hj0 : j = 0 := by omega
          subst hj0
          have p5 := HP5.out
          have HNZ : Hid (Nf own W m a nb tp i M1 wr) := by
            obtain ⟨q, hq⟩ := HWR.out
            rw [HM2.out, hq]
            exact Nf.same HHV.out (below_drewN (Below.refl _ _) q)
          have HKP : Hid (∀ k, k < W.heap.size → 401 ≤ own k → own k ≤ 404 → wr.heap[k]? = W.heap[k]?) := by
            obtain ⟨q, hq⟩ := HWR.out
            rw [hq]
            exact fun _ _ _ _ => rfl
          clear HWR HP5
          go_wp2_with fail
          obtain ⟨⟨ownz, hoz, HVz, hchz⟩, hfz⟩ := HNZ.out
          have HVz1 := HVz.below (below_drewN (Below.refl wr.heap.size wr) 1)
          obtain ⟨adz, cpz, adz', cpz', wf, f00, happ0, f1, f2, hNf, _⟩ := HVz1.csApp (by rw [HCK.out.cs]; omega) ⟨x, M.ux.length, (M.pr[x]?.getD dP).nup⟩
          rw [HCK.out.cs] at f00 happ0 f1 hNf
          have happ : (Builtin.append_ #[55, 55] 55 #[.slice adz M.cs.length cpz, .slice (some ⟨wr.heap.size, 0, none⟩) 1 1]).run Tryz.prog ((wr.drew).alloc (.cells #[.int .i64 (x : Int), .int .i64 (M.ux.length : Int), .int .i64 ((M.pr[x]?.getD dP).nup : Int)] 69)) = .ok (.slice adz' (M.cs.length + 1) cpz') wf := happ0
          have f0 : wr.cell? ⟨m, 6, none⟩ = some (.slice adz M.cs.length cpz) := f00
          have z6 : wr.cell? ⟨pb, x * 8 + 3, none⟩ = some (i64 (M.pr[x]?.getD dP).nup) := (World.cell?_of_block (a := ⟨pb, x * 8 + 3, none⟩) (HKP.out pb p3 (by omega) (by omega))).trans (p5 3 _ rfl)
          have HNF : Hid (Nf own W m a nb tp i { M1 with cs := M.cs ++ [⟨x, M.ux.length, (M.pr[x]?.getD dP).nup⟩] } (wf.setCell ⟨m, 6, none⟩ (.slice adz' (M.cs.length + 1) cpz'))) := by
            have h1 := hNf i
            exact ⟨Nx.trans hoz (hchz.below (below_drewN (Below.refl wr.heap.size wr) 1)) h1.1, h1.2.trans hfz⟩
          have nm : m < wr.heap.size := HVz.tabR.2.2.2.2
          have npb : pb < wr.heap.size := by have := hchz.size; omega
          have hwf : (wf.setCell ⟨m, 6, none⟩ (.slice adz' (M.cs.length + 1) cpz')).cell? ⟨m, 6, none⟩ = some (.slice adz' (M.cs.length + 1) cpz') := World.cell?_setCell_same' _ _ _ (by rw [f1]; rfl)
          generalize M.cs.length = csl at *
          generalize M.ux.length = uxl at *
          simp only [h0] at happ z6
          generalize (M.pr[x]?.getD dP).nup = nup at *
          clear f00 happ0 HVz HVz1 hNf hoz hchz hfz HNZ HCK HH HM1 HDL HHV HKP p5
          go_region_law (refine step_append_eq rfl (.tmp 108) (.tmp 116) 55 rfl _ _ _ _ (by simp [Act.eval, Act.put]) (by simp [Act.eval, Act.put]) happ ?_)
          all_goals
            go_wp2_with fail
            go_ret
            rw [HO.out]
            exact .inl ⟨rfl, rfl, HNF.out⟩
    · have hpos : 0 < (M.pr[x]?.getD dP).nup := by omega
      obtain ⟨db, dcp, d1, d2, d3, d4, _⟩ := HV.dsE (k := (M.pr[x]?.getD dP).up) (by omega)
      rw [c3] at d1
      cases d1
      have HDS : Hid (∀ j, j < (M.pr[x]?.getD dP).nup → ∃ d, (descs M x)[j]? = some d ∧ d.1 ≤ 1 ∧ d.2 < 256 ∧ W.cell? ⟨db, (M.pr[x]?.getD dP).up * 2 + j * 2, none⟩ = some (.int .u8 (d.1 : Int)) ∧ W.cell? ⟨db, (M.pr[x]?.getD dP).up * 2 + j * 2 + 1, none⟩ = some (.int .u8 (d.2 : Int))) := by
        intro j hj
        obtain ⟨db', dcp', e1, e2, e3, e4, e5, e6⟩ := HHV.out.dsE (k := (M.pr[x]?.getD dP).up + j) (by omega)
        rw [c3] at e1
        cases e1
        have hlt : (M.pr[x]?.getD dP).up + j < M.ds.length := by omega
        have hd : M.ds[(M.pr[x]?.getD dP).up + j]? = some (M.ds[(M.pr[x]?.getD dP).up + j]?.getD (0, 0)) := at_some hlt
        have hk := HH.out.kind _ (List.mem_of_getElem? hd)
        refine ⟨_, (HDL.out.2 j hj).trans hd, hk.1, hk.2, ?_, ?_⟩
        · rw [← Nat.add_mul]; exact e5
        · rw [← Nat.add_mul]; exact e6
      have HFA : Hid ((M.t i).fr[n]? = some (M.t i).f ∧ W.cell? ⟨a, i * 5 + 3, none⟩ = some (.slice (some ⟨fb, 0, none⟩) (n + 1) cp)) := ⟨hfa, hc⟩
      have u1 : ¬ cp3 = (M.pr[x]?.getD dP).up := by omega
      have u2 : (M.pr[x]?.getD dP).up + (M.pr[x]?.getD dP).nup ≤ cp3 := by omega
      have hbase := h.base
      have HP5 : Hid _ := p5
      have HNE : Hid (db < W.heap.size ∧ own db = 402) := ⟨d3, d4⟩
      obtain ⟨up, hup⟩ : ∃ up, up = (M.pr[x]?.getD dP).up := ⟨_, rfl⟩
      obtain ⟨nup, hnup'⟩ : ∃ nup, nup = (M.pr[x]?.getD dP).nup := ⟨_, rfl⟩
      have HUN : Hid (up = (M.pr[x]?.getD dP).up ∧ nup = (M.pr[x]?.getD dP).nup) := ⟨hup, hnup'⟩
      rw [← hup] at q2 u1 u2 hwin
      rw [← hnup'] at q3 u2 hwin hnup hpos
      clear HV h hfa hn hc p5 d3 d4 h0 hup hnup'
      go_enter Tryz.func108, Tryz.ntmps108
      go_wp2_with fail
      go_quiet (fail)
      go_wp2_with fail
      rw [Nat.add_sub_cancel_left]
      go_loopw [53] (fun jv wr => ∃ (j : Nat) (K : Mc), jv = .int .i64 (j : Int) ∧ j ≤ nup ∧ Hid (K = closF i (M.t i).f.base (M.t i).f.clo ((descs M x).take j) M ∧ CK M i j K ∧ Nf own W m a nb tp i K wr ∧ (∀ k, k < W.heap.size → 401 ≤ own k → own k ≤ 404 → wr.heap[k]? = W.heap[k]?))) (fun jv _ => nup - (intOf jv).toNat)
      case atStart => exact ⟨0, M, rfl, by omega, rfl, ⟨rfl, rfl, rfl, rfl, rfl, rfl, fun _ _ => rfl, HH.out.ops, Nat.le_refl _, Nat.le_refl _⟩, Nf.same HHV.out (below_drewN (Below.refl _ _) _), fun _ _ _ _ => rfl⟩
      case round =>
        obtain ⟨j, K, rfl, hj, HR⟩ := hrel
        by_cases hjn : j < nup
        · obtain ⟨hK, hCK, hNK, hKP⟩ := HR.out
          obtain ⟨⟨own1, ho1, HV1, hch1⟩, hf1⟩ := hNK
          obtain ⟨⟨dk1, dk2⟩, hd, hd1, hd2, w1, w2'⟩ := HDS.out j (by rw [← HUN.out.2]; exact hjn)
          rw [← HUN.out.1] at w1 w2'
          simp only at hd1 hd2 w1 w2'
          have hdblk := hKP db HNE.out.1 (by rw [HNE.out.2]; omega) (by rw [HNE.out.2]; omega)
          have x1 := (World.cell?_of_block (a := ⟨db, up * 2 + j * 2, none⟩) hdblk).trans w1
          have x2 := (World.cell?_of_block (a := ⟨db, up * 2 + j * 2 + 1, none⟩) hdblk).trans w2'
          have hiK : i < K.th.length := by rw [hCK.th]; exact hi
          have hfK : (K.t i).fr[n]? = some (M.t i).f := by rw [hCK.fr]; exact HFA.out.1
          have hcK : wr.cell? ⟨a, i * 5 + 3, none⟩ = some (.slice (some ⟨fb, 0, none⟩) (n + 1) cp) := hf1.trans HFA.out.2
          obtain ⟨_, fl, _, _, g0, _, g2, _⟩ := HV1.frame hiK hcK hfK
          have nm : m < wr.heap.size := HV1.tabR.2.2.2.2
          have na : a < wr.heap.size := HV1.alt
          have hd' : (descs M x)[j]? = some (dk1, dk2) := hd
          have HSN : Hid (clos1 K i (M.t i).f.base (M.t i).f.clo (dk1, dk2) = closF i (M.t i).f.base (M.t i).f.clo ((descs M x).take (j + 1)) M ∧ CK M i (j + 1) (clos1 K i (M.t i).f.base (M.t i).f.clo (dk1, dk2))) := by
            refine ⟨?_, hCK.step hi _ _ _⟩
            rw [List.take_add_one, hd', Option.toList_some, closF_snoc, ← hK]
          have hbox := below_one wr (.cells #[.int .u8 (dk1 : Int), .int .u8 (dk2 : Int)] 165)
          have hboxd := hbox.trans (below_drewN (Below.refl wr.heap.size (wr.alloc (.cells #[.int .u8 (dk1 : Int), .int .u8 (dk2 : Int)] 165))) 1)
          have HBX : Hid (Nf own W m a nb tp i K wr ∧ (∀ k, k < W.heap.size → 401 ≤ own k → own k ≤ 404 → wr.heap[k]? = W.heap[k]?)) := ⟨⟨⟨own1, ho1, HV1, hch1⟩, hf1⟩, hKP⟩
          by_cases hk1 : dk1 = 1
          · have HVb := HV1.below hboxd
            have HCAP := capture_any HVb hiK ((M.t i).f.base + dk2) (by have := hCK.ol; have := HH.out.op; omega) (by have := hCK.cl; have := HH.out.ce; omega) hCK.op
            obtain ⟨b1, b2, b3, b4, b5, b6, b7, b8, b9, b10, b11⟩ := capP_CK hCK hi ((M.t i).f.base + dk2)
            have HK1 : Hid (clos1 K i (M.t i).f.base (M.t i).f.clo (dk1, dk2) = closF i (M.t i).f.base (M.t i).f.clo ((descs M x).take (j + 1)) M ∧ CK M i (j + 1) (clos1 K i (M.t i).f.base (M.t i).f.clo (dk1, dk2)) ∧ clos1 K i (M.t i).f.base (M.t i).f.clo (dk1, dk2) = { (capP K i ((M.t i).f.base + dk2)).1 with ux := (capP K i ((M.t i).f.base + dk2)).1.ux ++ [(capP K i ((M.t i).f.base + dk2)).2] }) := by
              refine ⟨HSN.out.1, HSN.out.2, ?_⟩
              unfold clos1
              rw [if_pos hk1, b4]
            have HUX : Hid ((capP K i ((M.t i).f.base + dk2)).1.ux.length = M.ux.length + j) := by rw [b4]; exact hCK.ul
            have HB2 : Hid (∀ w2, Nf own1 ((wr.alloc (.cells #[.int .u8 (dk1 : Int), .int .u8 (dk2 : Int)] 165)).drewN 1) m a nb tp i (capP K i ((M.t i).f.base + dk2)).1 w2 → (∀ k, k < ((wr.alloc (.cells #[.int .u8 (dk1 : Int), .int .u8 (dk2 : Int)] 165)).drewN 1).heap.size → 401 ≤ own1 k → own1 k ≤ 406 → w2.heap[k]? = ((wr.alloc (.cells #[.int .u8 (dk1 : Int), .int .u8 (dk2 : Int)] 165)).drewN 1).heap[k]?) → Nf own W m a nb tp i (capP K i ((M.t i).f.base + dk2)).1 w2 ∧ (∀ k, k < W.heap.size → 401 ≤ own k → own k ≤ 404 → w2.heap[k]? = W.heap[k]?)) := by
              intro w2 h1 h2
              have h3 := Nf.pre HV1 hboxd h1
              refine ⟨⟨Nx.trans ho1 hch1 h3.1, h3.2.trans hf1⟩, ?_⟩
              intro k hk k1 k2
              have hs1 := hch1.size
              rw [h2 k (by have := hboxd.size; omega) (by rw [ho1 k hk]; exact k1) (by rw [ho1 k hk]; omega), hboxd.block k (by omega)]
              exact hKP k hk k1 k2
            obtain ⟨base, hbse⟩ : ∃ base, base = (M.t i).f.base := ⟨_, rfl⟩
            rw [← hbse] at HCAP HK1 HUX HB2 hbase g2
            have HBSE : Hid (base = (M.t i).f.base) := hbse
            obtain ⟨cc, hcc⟩ : ∃ cc, cc = (capP K i (base + dk2)).2 := ⟨_, rfl⟩
            rw [← hcc] at HCAP HK1
            subst hk1
            have e11 : ((1 : Nat) : Int) = 1 := rfl
            rw [e11] at HCAP HB2 x1
            have hwr1 : IntKind.i64.wrap (dk2 : Int) = (dk2 : Int) := IntWalk.i64_in _ ⟨by omega, by omega⟩
            have hwr2 : IntKind.i64.wrap ((base : Int) + (dk2 : Int)) = ((base + dk2 : Nat) : Int) := by rw [IntWalk.i64_in _ ⟨by omega, by omega⟩, Int.natCast_add]
            clear e11
            clear hK hCK hKP HV1 ho1 hch1 hf1 HVb hbox hboxd hdblk w1 w2' hd hd' hiK hfK b1 b2 b3 b4 b5 b6 b7 b8 b9 b10 b11 hcc HR HSN HBX hbse
            go_wp2_with fail
            go_region_with (go_at_call 116; refine HCAP.mono ?_; rintro e w2 ⟨rfl, hN2, hkq2⟩; have H2 : Hid _ := HB2.out _ hN2 hkq2; clear hN2 hkq2)
            all_goals
              obtain ⟨⟨⟨own2, ho2, HV2, hch2⟩, hf2⟩, hkp2⟩ := H2.out
              clear H2 HB2 HCAP
              rw [HBSE.out] at HK1 HUX HV2
              obtain ⟨adu, cpu, adu', cpu', wu, v0, happu0, v1, v2, hNu, hku⟩ := HV2.uxApp (by rw [HUX.out]; omega) cc
              rw [HUX.out] at v0 happu0 v1 hNu hku
              have happu : (Builtin.append_ #[56, 56] 56 #[.slice adu (M.ux.length + j) cpu, .slice (some ⟨w2.heap.size, 0, none⟩) 1 1]).run Tryz.prog (w2.alloc (.cells #[.int .i64 (cc : Int)] 3)) = .ok (.slice adu' (M.ux.length + j + 1) cpu') wu := happu0
              have HNEXT : Hid (clos1 K i (M.t i).f.base (M.t i).f.clo (1, dk2) = closF i (M.t i).f.base (M.t i).f.clo ((descs M x).take (j + 1)) M ∧ CK M i (j + 1) (clos1 K i (M.t i).f.base (M.t i).f.clo (1, dk2)) ∧ Nf own W m a nb tp i (clos1 K i (M.t i).f.base (M.t i).f.clo (1, dk2)) (wu.setCell ⟨m, 7, none⟩ (.slice adu' (M.ux.length + j + 1) cpu')) ∧ (∀ k, k < W.heap.size → 401 ≤ own k → own k ≤ 404 → (wu.setCell ⟨m, 7, none⟩ (.slice adu' (M.ux.length + j + 1) cpu')).heap[k]? = W.heap[k]?)) := by
                refine ⟨HK1.out.1, HK1.out.2.1, ?_, ?_⟩
                · rw [HK1.out.2.2]
                  have h1 := hNu i
                  exact ⟨Nx.trans ho2 hch2 h1.1, h1.2.trans hf2⟩
                · intro k hk k1 k2
                  have hs2 := hch2.size
                  have hma : own m = 400 := by obtain ⟨vals, L, H⟩ := HHV.out; exact H.mc
                  exact (hku k (by omega) (by rw [ho2 k hk]; omega) (by rintro rfl; omega)).trans (hkp2 k hk k1 k2)
              clear hNu hku happu0 HV2 ho2 hch2 hf2 hkp2 HK1 HUX
              go_wp2_with (at_builtin; refine wpList_append_eq rfl _ _ 56 rfl _ _ _ _ rfl rfl happu ?_)
              go_roundw
              case rel => exact ⟨j + 1, _, by go_num, by omega, HNEXT.out⟩
              case measure => simp [intOf]; omega
          · have hk0 : dk1 = 0 := by omega
            subst hk0
            have hcl : (M.t i).f.clo < K.cs.length := by rw [hCK.cs]; exact HH.out.clo
            obtain ⟨cb, ccp, y1, y2, y3, y4, y5, y6, y7⟩ := HV1.csE hcl
            rw [hCK.cs] at y1 y2
            have hcK2 : K.c (M.t i).f.clo = M.c (M.t i).f.clo := by unfold Mc.c; rw [hCK.cs]
            rw [hcK2] at y6
            have hux' : (M.c (M.t i).f.clo).up + dk2 < M.ux.length := HH.out.desc (0, dk2) (List.mem_of_getElem? hd') (show (0 : Nat) ≠ 1 by decide)
            obtain ⟨ub, ucp, u5, u6, u7, u8, u9⟩ := HV1.uxE (k := (M.c (M.t i).f.clo).up + dk2) (by rw [hCK.ul]; omega)
            rw [hCK.ul] at u5 u6
            have hupx : K.ux[(M.c (M.t i).f.clo).up + dk2]?.getD 0 = upX K (M.t i).f.clo dk2 := by unfold upX; rw [hcK2]
            rw [hupx] at u9
            have HK1 : Hid (clos1 K i (M.t i).f.base (M.t i).f.clo (0, dk2) = closF i (M.t i).f.base (M.t i).f.clo ((descs M x).take (j + 1)) M ∧ CK M i (j + 1) (clos1 K i (M.t i).f.base (M.t i).f.clo (0, dk2)) ∧ clos1 K i (M.t i).f.base (M.t i).f.clo (0, dk2) = { K with ux := K.ux ++ [upX K (M.t i).f.clo dk2] }) := ⟨HSN.out.1, HSN.out.2, rfl⟩
            have HUX : Hid (K.ux.length = M.ux.length + j) := hCK.ul
            have HB2 : Hid (∀ p, Nf own W m a nb tp i K ((wr.alloc (.cells #[.int .u8 ((0 : Nat) : Int), .int .u8 (dk2 : Int)] 165)).drewN p) ∧ (∀ k, k < W.heap.size → 401 ≤ own k → own k ≤ 404 → ((wr.alloc (.cells #[.int .u8 ((0 : Nat) : Int), .int .u8 (dk2 : Int)] 165)).drewN p).heap[k]? = W.heap[k]?)) := by
              intro p
              have hbp := hbox.trans (below_drewN (Below.refl wr.heap.size (wr.alloc (.cells #[.int .u8 ((0 : Nat) : Int), .int .u8 (dk2 : Int)] 165))) p)
              refine ⟨HBX.out.1.below hbp, fun k hk k1 k2 => ?_⟩
              have hs1 := hch1.size
              exact (hbp.block k (by omega)).trans (hKP k hk k1 k2)
            obtain ⟨clo, hclo⟩ : ∃ clo, clo = (M.t i).f.clo := ⟨_, rfl⟩
            have HCLO : Hid (clo = (M.t i).f.clo) := hclo
            rw [← hclo] at g0 y5 y6 y7 u9 hcl hux'
            obtain ⟨cc, hcc⟩ : ∃ cc, cc = upX K clo dk2 := ⟨_, rfl⟩
            rw [← hclo, ← hcc] at HK1
            rw [← hcc] at u9
            have hcs24 := HH.out.cs
            rw [hCK.cs] at hcl
            generalize (M.c clo).up = cup at *
            clear hK hCK hKP HV1 ho1 hch1 hf1 hbox hboxd hdblk w1 w2' hd hd' hiK hfK hcc HR HSN HBX hclo hk1 hcK2 hupx y5 y7
            go_wp2_with fail
            go_quiet (fail)
            obtain ⟨w2, hw2⟩ : ∃ w2, w2 = (wr.alloc (.cells #[.int .u8 ((0 : Nat) : Int), .int .u8 (dk2 : Int)] 165)).drewN nq := ⟨_, rfl⟩
            have hB2 := HB2.out nq
            rw [← hw2] at hB2
            have hw2' : (wr.alloc (.cells #[.int .u8 0, .int .u8 (dk2 : Int)] 165)).drewN nq = w2 := hw2.symm
            rw [hw2']
            obtain ⟨⟨⟨own2, ho2, HV2, hch2⟩, hf2⟩, hkp2⟩ := hB2
            rw [HCLO.out] at HK1
            clear hw2 hw2' HB2
            obtain ⟨adu, cpu, adu', cpu', wu, v0, happu0, v1, v2, hNu, hku⟩ := HV2.uxApp (by rw [HUX.out]; omega) cc
            rw [HUX.out] at v0 happu0 v1 hNu hku
            have happu : (Builtin.append_ #[56, 56] 56 #[.slice adu (M.ux.length + j) cpu, .slice (some ⟨w2.heap.size, 0, none⟩) 1 1]).run Tryz.prog (w2.alloc (.cells #[.int .i64 (cc : Int)] 3)) = .ok (.slice adu' (M.ux.length + j + 1) cpu') wu := happu0
            have HNEXT : Hid (clos1 K i (M.t i).f.base (M.t i).f.clo (0, dk2) = closF i (M.t i).f.base (M.t i).f.clo ((descs M x).take (j + 1)) M ∧ CK M i (j + 1) (clos1 K i (M.t i).f.base (M.t i).f.clo (0, dk2)) ∧ Nf own W m a nb tp i (clos1 K i (M.t i).f.base (M.t i).f.clo (0, dk2)) (wu.setCell ⟨m, 7, none⟩ (.slice adu' (M.ux.length + j + 1) cpu')) ∧ (∀ k, k < W.heap.size → 401 ≤ own k → own k ≤ 404 → (wu.setCell ⟨m, 7, none⟩ (.slice adu' (M.ux.length + j + 1) cpu')).heap[k]? = W.heap[k]?)) := by
              refine ⟨HK1.out.1, HK1.out.2.1, ?_, ?_⟩
              · rw [HK1.out.2.2]
                have h1 := hNu i
                exact ⟨Nx.trans ho2 hch2 h1.1, h1.2.trans hf2⟩
              · intro k hk k1 k2
                have hs2 := hch2.size
                have hma : own m = 400 := by obtain ⟨vals, L, H⟩ := HHV.out; exact H.mc
                exact (hku k (by omega) (by rw [ho2 k hk]; omega) (by rintro rfl; omega)).trans (hkp2 k hk k1 k2)
            clear hNu hku happu0 HV2 ho2 hch2 hf2 hkp2 HK1 HUX
            go_wp2_with (at_builtin; refine wpList_append_eq rfl _ _ 56 rfl _ _ _ _ rfl rfl happu ?_)
            go_roundw
            case rel => exact ⟨j + 1, _, by go_num, by omega, HNEXT.out⟩
            case measure => simp [intOf]; omega
        · have hje : j = nup := by omega
          have HM1K : Hid (M1 = K) := by
            show _ = _
            rw [HM1.out, HR.out.1, hje, HUN.out.2, ← HDL.out.1, List.take_length]
          have HCK : Hid (CK M i nup M1) := by rw [HM1K.out, ← hje]; exact HR.out.2.1
          have HNZ : Hid (Nf own W m a nb tp i M1 wr) := by rw [HM1K.out]; exact HR.out.2.2.1
          have HKP : Hid _ := HR.out.2.2.2
          have p5 := HP5.out
          clear HR HM1K HP5 hje HFA HDS
          go_wp2_with fail
          obtain ⟨⟨ownz, hoz, HVz, hchz⟩, hfz⟩ := HNZ.out
          have HVz1 := HVz.below (below_drewN (Below.refl wr.heap.size wr) 1)
          obtain ⟨adz, cpz, adz', cpz', wf, f00, happ0, f1, f2, hNf, _⟩ := HVz1.csApp (by rw [HCK.out.cs]; omega) ⟨x, M.ux.length, (M.pr[x]?.getD dP).nup⟩
          rw [HCK.out.cs] at f00 happ0 f1 hNf
          have happ : (Builtin.append_ #[55, 55] 55 #[.slice adz M.cs.length cpz, .slice (some ⟨wr.heap.size, 0, none⟩) 1 1]).run Tryz.prog ((wr.drew).alloc (.cells #[.int .i64 (x : Int), .int .i64 (M.ux.length : Int), .int .i64 ((M.pr[x]?.getD dP).nup : Int)] 69)) = .ok (.slice adz' (M.cs.length + 1) cpz') wf := happ0
          have f0 : wr.cell? ⟨m, 6, none⟩ = some (.slice adz M.cs.length cpz) := f00
          have z6 : wr.cell? ⟨pb, x * 8 + 3, none⟩ = some (i64 (M.pr[x]?.getD dP).nup) := (World.cell?_of_block (a := ⟨pb, x * 8 + 3, none⟩) (HKP.out pb p3 (by omega) (by omega))).trans (p5 3 _ rfl)
          have HNF : Hid (Nf own W m a nb tp i { M1 with cs := M.cs ++ [⟨x, M.ux.length, (M.pr[x]?.getD dP).nup⟩] } (wf.setCell ⟨m, 6, none⟩ (.slice adz' (M.cs.length + 1) cpz'))) := by
            have h1 := hNf i
            exact ⟨Nx.trans hoz (hchz.below (below_drewN (Below.refl wr.heap.size wr) 1)) h1.1, h1.2.trans hfz⟩
          have nm : m < wr.heap.size := HVz.tabR.2.2.2.2
          have npb : pb < wr.heap.size := by have := hchz.size; omega
          have hwf : (wf.setCell ⟨m, 6, none⟩ (.slice adz' (M.cs.length + 1) cpz')).cell? ⟨m, 6, none⟩ = some (.slice adz' (M.cs.length + 1) cpz') := World.cell?_setCell_same' _ _ _ (by rw [f1]; rfl)
          generalize M.cs.length = csl at *
          generalize M.ux.length = uxl at *
          generalize (M.pr[x]?.getD dP).nup = nup at *
          clear f00 happ0 HVz HVz1 hNf hoz hchz hfz HNZ HCK HH HM1 HDL HHV HKP p5
          go_region_law (refine step_append_eq rfl (.tmp 108) (.tmp 116) 55 rfl _ _ _ _ (by simp [Act.eval, Act.put]) (by simp [Act.eval, Act.put]) happ ?_)
          all_goals
            go_wp2_with fail
            go_ret
            rw [HO.out]
            exact .inl ⟨rfl, rfl, HNF.out⟩
end Go.Proofs.Qxb6500293aGreatRR
