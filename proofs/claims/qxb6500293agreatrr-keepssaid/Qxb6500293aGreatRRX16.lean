/-
  enter walked.
-/
import Derived.Test.Qxb6500293aGreatRRX15
namespace Go.Proofs.Qxb6500293aGreatRR
open Go.RowKit
set_option linter.unusedVariables false
set_option linter.unusedSimpArgs false

theorem AV.below {n0 : Nat} {W W' : World} {av : Value} {l : List V} (h : AV n0 W av l) (hb : Below W.heap.size W W') : AV n0 W' av l := by
  obtain ⟨b, k, cap, h1, h2, h3, h4⟩ := h
  refine ⟨b, k, cap, h1, Nat.lt_of_lt_of_le h2 hb.size, fun j u hu => (hb.cell (p := ⟨b, k + j, none⟩) h2).trans (h3 j u hu), ?_⟩
  rcases h4 with h4 | h4
  · exact .inl h4
  · refine .inr ⟨h4.1, ?_⟩
    rcases h4.2 with hn | ⟨g, cp, cur, e, hbg, hgg, rest⟩
    · exact .inl hn
    · exact .inr ⟨g, cp, cur, e, hbg, (hb.block g (Array.getElem?_eq_some_iff.1 hgg).1).trans hgg, rest⟩
set_option maxRecDepth 8000 in
set_option maxHeartbeats 3200000 in
theorem enter_any {own : Nat → Nat} {W : World} {m a nb tp : Nat} {M : Mc} (HV : Vm own W m a nb tp M) {i : Nat} (hi : i < M.th.length) {c : Nat} (hc : c < M.cs.length) (hp : (M.c c).p < M.pr.length) (hnp : (M.p c).np ≤ 3) (hns : (M.p c).ns ≤ 12) (hcs : M.cs.length ≤ 100000) (hpr : M.pr.length ≤ 100000) (hsk : (M.t i).sk.length ≤ 10000) (hfr : (M.t i).fr.length ≤ 100)
    (args : List V) (ab0 k0 : Nat) (hl3 : args.length ≤ 3) (hav : AV W.heap.size W (.slice (some ⟨ab0, k0, none⟩) args.length args.length) args) (hab : ab0 ≠ a) (hwin : ∀ n cp, W.cell? ⟨a, i * 5 + 2, none⟩ = some (.slice (some ⟨ab0, 0, none⟩) n cp) → k0 + args.length * 3 ≤ n * 3) (ret : Nat) (hret : ret ≤ 100000) (prot : Bool) :
    Calls Tryz.prog 59 #[.pointer (some ⟨m, 0, none⟩), .pointer (some ⟨a, i * 5, none⟩), i64 c, .slice (some ⟨ab0, k0, none⟩) args.length args.length, i64 ret, .bool prot] W fun e W' => e = .returned (.tuple #[]) ∧ Nx own W m a nb tp (enterP M i c args ret prot) W' := by
  obtain ⟨pb, pn, pcp, cb, cn, ccp, d2, d6, hpn, hcn, hpl, hcl, hpb, hcb, hpbc, hcbc, ⟨e0, _, _⟩, q0, q1, _⟩ := HV.protoAt hc hp
  have HHV : Hid (Vm own W m a nb tp M) := HV
  have hlt0 : a < W.heap.size := by obtain ⟨vals, L, H⟩ := HV; exact H.alt
  have HAV0 : Hid (AV W.heap.size W (.slice (some ⟨ab0, k0, none⟩) args.length args.length) args) := hav
  have HWIN : Hid (∀ n cp, W.cell? ⟨a, i * 5 + 2, none⟩ = some (.slice (some ⟨ab0, 0, none⟩) n cp) → k0 + args.length * 3 ≤ n * 3) := hwin
  obtain ⟨P, hP⟩ : ∃ P, P = (M.c c).p := ⟨_, rfl⟩
  obtain ⟨np, hnpe⟩ : ∃ x, x = (M.p c).np := ⟨_, rfl⟩
  obtain ⟨ns, hnse⟩ : ∃ x, x = (M.p c).ns := ⟨_, rfl⟩
  rw [← hP] at e0 q0 q1 hp
  rw [← hnpe] at q0 hnp
  rw [← hnse] at q1 hns
  rw [← hpn] at hp hpr
  rw [← hcn] at hc hcs
  have HPE : Hid (P = (M.c c).p ∧ np = (M.p c).np ∧ ns = (M.p c).ns) := ⟨hP, hnpe, hnse⟩
  clear hav hwin HV hP hnpe hnse hpn hcn
  go_enter Tryz.func59, Tryz.ntmps59
  go_wp2_with fail
  go_quiet (fail)
  go_wp2_with fail
  go_loopw [3] (fun av wr => ∃ (l : List V) (ab k cap : Nat), av = .slice (some ⟨ab, k, none⟩) l.length cap ∧ l.length ≤ 3 ∧ Hid (AV W.heap.size wr av l ∧ Below W.heap.size W wr ∧ (∀ j, j < l.length → l[j]?.getD nilV = args[j]?.getD nilV) ∧ args.length ≤ l.length ∧ ab ≠ a ∧ (ab = ab0 ∧ k = k0 ∧ l = args ∨ W.heap.size ≤ ab))) (fun av _ => 10 - lenV av)
  case atStart => exact ⟨args, ab0, k0, args.length, rfl, hl3, HAV0.out.below (below_drewN (Below.refl _ _) _), below_drewN (Below.refl _ _) _, fun _ _ => rfl, Nat.le_refl _, hab, .inl ⟨rfl, rfl, rfl⟩⟩
  case round =>
    obtain ⟨l, ab, k, cap, rfl, hl, HR⟩ := hrel
    have q0' : wr.cell? ⟨pb, P * 8, none⟩ = some (i64 np) := (HR.out.2.1.cell (p := ⟨pb, P * 8, none⟩) hpb).trans q0
    have q1' : wr.cell? ⟨pb, P * 8 + 1, none⟩ = some (i64 ns) := (HR.out.2.1.cell (p := ⟨pb, P * 8 + 1, none⟩) hpb).trans q1
    by_cases hlt : l.length < np
    · obtain ⟨av', w', happ, hav', ⟨b', cap', rfl, hge⟩, hbel⟩ := HR.out.1.grow HR.out.2.1.size (by omega) 53
      have dl : decide ((l.length : Int) < (np : Int)) = true := decide_eq_true (by omega)
      have HREL : Hid (AV W.heap.size w' (.slice (some ⟨b', 0, none⟩) (l.length + 1) cap') (l ++ [nilV]) ∧ Below W.heap.size W w' ∧ (∀ j, j < (l ++ [nilV]).length → (l ++ [nilV])[j]?.getD nilV = args[j]?.getD nilV) ∧ args.length ≤ (l ++ [nilV]).length ∧ b' ≠ a ∧ (b' = ab0 ∧ 0 = k0 ∧ (l ++ [nilV]) = args ∨ W.heap.size ≤ b')) := by
        obtain ⟨_, h2, h3, h4, h5, h6⟩ := HR.out
        refine ⟨hav', h2.trans hbel, ?_, by simp; omega, by omega, .inr hge⟩
        intro j hj
        rw [List.length_append, List.length_singleton] at hj
        by_cases cj : j < l.length
        · rw [List.getElem?_append_left cj]
          exact h3 j cj
        · have : j = l.length := by omega
          subst this
          rw [List.getElem?_append_right (Nat.le_refl _), Nat.sub_self]
          show nilV = args[l.length]?.getD nilV
          rw [List.getElem?_eq_none (show args.length ≤ l.length by omega)]
          rfl
      have hll : (l ++ [nilV]).length = l.length + 1 := by simp
      have HLL : Hid ((l ++ [nilV]).length = l.length + 1) := hll
      clear hav' hbel hll HAV0 HHV HWIN HR
      go_wp2_with (at_builtin; refine wpList_append_eq rfl _ _ 53 rfl _ _ _ _ rfl rfl happ ?_)
      go_roundw
      case rel => exact ⟨l ++ [nilV], b', 0, cap', by rw [HLL.out], by rw [HLL.out]; omega, HREL⟩
      case measure => simp [lenV]; omega
    · have dl : decide ((l.length : Int) < (np : Int)) = false := decide_eq_false (by omega)
      obtain ⟨hAV, hbel, hvals, hargs, hba, hblk⟩ := HR.out
      obtain ⟨b1, k1, cap1, he1, hb1, hcells, _⟩ := hAV
      cases he1
      have c2 : wr.cell? ⟨a, i * 5 + 2, none⟩ = W.cell? ⟨a, i * 5 + 2, none⟩ := hbel.cell (p := ⟨a, i * 5 + 2, none⟩) hlt0
      have c3 : wr.cell? ⟨a, i * 5 + 3, none⟩ = W.cell? ⟨a, i * 5 + 3, none⟩ := hbel.cell (p := ⟨a, i * 5 + 3, none⟩) hlt0
      obtain ⟨g, hgdef⟩ : ∃ g : Nat → V, g = fun j => if j < np then args[j]?.getD nilV else nilV := ⟨_, rfl⟩
      have hE0 : EnAt own W m a nb tp i M g pb P np ns ab k l 0 wr := by
        refine ⟨?_, hcells, hb1, ?_, q0', q1'⟩
        · have e : pushP M i ((List.range 0).map g) = M := by
            show M.setT i { M.t i with sk := (M.t i).sk ++ [] } = M
            rw [List.append_nil]
            exact setT_self
          rw [e]
          exact Nf.same HHV.out hbel
        · intro n cp e
          rw [c2] at e
          rcases hblk with ⟨rfl, rfl, rfl⟩ | h
          · exact HWIN.out n cp e
          · exfalso
            obtain ⟨vals, L, H⟩ := HHV.out
            obtain ⟨s2, srow, _⟩ := H.skRow hi
            rw [s2] at e
            have e2 := Option.some.inj e
            have := ownsRow_lt srow ab (by rw [e2]; rfl)
            omega
      have HE0 : Hid (EnAt own W m a nb tp i M g pb P np ns ab k l 0 wr) := hE0
      have HGV : Hid (∀ j, j < np → l[j]?.getD nilV = g j) := fun j hj => by rw [hvals j (by omega), hgdef]; dsimp only; rw [if_pos hj]
      have HGN : Hid (∀ j, ¬ j < np → nilV = g j) := fun j hj => by rw [hgdef]; dsimp only; rw [if_neg hj]
      obtain ⟨sv, s2, svl⟩ : ∃ ad n cp, W.cell? ⟨a, i * 5 + 2, none⟩ = some (.slice ad n cp) ∧ n = (M.t i).sk.length := by
        obtain ⟨vals, L, H⟩ := HHV.out
        obtain ⟨s2, srow, _⟩ := H.skRow hi
        obtain ⟨ad, cp, hv⟩ := row_slice srow
        exact ⟨ad, _, cp, by rw [s2, hv], rfl⟩
      obtain ⟨scp, s3, s4⟩ := svl
      have s5 := c2.trans s3
      subst s4
      have HG0 : Hid (g = fun j => if j < np then args[j]?.getD nilV else nilV) := hgdef
      clear hcells hvals hE0 HAV0 HR hgdef c2 c3 s3
      have HGDEF : Hid ((List.range ns).map g = (List.range (M.p c).ns).map (fun j => if j < (M.p c).np then args[j]?.getD nilV else nilV)) := by
        obtain ⟨_, h1, h2⟩ := HPE.out
        show _ = _
        rw [← h1, ← h2, HG0.out]
      go_wp2_with fail
      go_loopw [14] (fun jv wr2 => ∃ j : Nat, jv = .int .i64 (j : Int) ∧ j ≤ ns ∧ Hid (EnAt own W m a nb tp i M g pb P np ns ab k l j wr2)) (fun jv _ => 20 - (intOf jv).toNat)
      case atStart => exact ⟨0, by go_num, by omega, HE0⟩
      case round =>
        obtain ⟨j, rfl, hj, HE⟩ := hrel
        have p0 := HE.out.p0
        have p1 := HE.out.p1
        have HSTEP := fun v hv => HE.out.step hi hsk (by omega) hpb hpbc hba v hv
        by_cases hjn : j < ns
        · have dj : decide ((j : Int) < (ns : Int)) = true := decide_eq_true (by omega)
          by_cases hjp : j < np
          · have djp : decide ((j : Int) < (np : Int)) = true := decide_eq_true (by omega)
            have hjl : j < l.length := by omega
            have HST := HSTEP _ (HGV.out j hjp)
            have hs : l[j]? = some (l[j]?.getD nilV) := by rw [List.getElem?_eq_getElem hjl]; rfl
            have a0 := HE.out.av (j * 3 + 0) _ (flat_at valC 3 valC_len l j _ hs 0 (by omega))
            have a1 := HE.out.av (j * 3 + 1) _ (flat_at valC 3 valC_len l j _ hs 1 (by omega))
            have a2 := HE.out.av (j * 3 + 2) _ (flat_at valC 3 valC_len l j _ hs 2 (by omega))
            simp only [Nat.add_zero, ← Nat.add_assoc] at a0 a1 a2
            have hcapl : l.length ≤ 3 := hl
            generalize l[j]?.getD nilV = v at *
            obtain ⟨vT, vN, vS⟩ := v
            simp only at a0 a1 a2 HST
            generalize l.length = ll at *
            clear hs HSTEP
            go_wp2_with fail
            refine HST.mono ?_; rintro e w2 ⟨rfl, hE2⟩
            have HE2 : Hid (EnAt own W m a nb tp i M g pb P np ns ab k l (j + 1) w2) := hE2
            clear hE2 HST
            go_wp2_with fail
            go_roundw
            case rel => exact ⟨j + 1, by go_num, by omega, HE2⟩
            case measure => simp [intOf]; omega
          · have djp : decide ((j : Int) < (np : Int)) = false := decide_eq_false (by omega)
            have HST := HSTEP nilV (HGN.out j hjp)
            rw [show nilV.T = 0 from rfl, show nilV.N = 0 from rfl, show nilV.S = [] from rfl] at HST
            clear HSTEP
            go_wp2_with fail
            refine HST.mono ?_; rintro e w2 ⟨rfl, hE2⟩
            have HE2 : Hid (EnAt own W m a nb tp i M g pb P np ns ab k l (j + 1) w2) := hE2
            clear hE2 HST
            go_wp2_with fail
            go_roundw
            case rel => exact ⟨j + 1, by go_num, by omega, HE2⟩
            case measure => simp [intOf]; omega
        · have dj : decide ((j : Int) < (ns : Int)) = false := decide_eq_false (by omega)
          have hjn2 : j = ns := by omega
          obtain ⟨⟨⟨own1, ho1, ⟨vals1, L1, H1⟩, hch1⟩, hf1⟩, _, _, _, _, _⟩ := HE.out
          have hi1 : i < (pushP M i ((List.range j).map g)).th.length := by show i < (List.set _ _ _).length; rw [List.length_set]; exact hi
          have ht1 : (pushP M i ((List.range j).map g)).t i = { M.t i with sk := (M.t i).sk ++ (List.range j).map g } := t_setT hi _
          obtain ⟨r3, frow, fcol⟩ := H1.frRow hi1
          rw [ht1] at frow
          have frow : wr.ownsRow 0 71 5 (vals1 (9 + 3 * i)) (M.t i).fr.length ((M.t i).fr.flatMap frC) := frow
          obtain ⟨v', W7, happ, hr7, hg7, hv7⟩ := append_frame frow (by omega) ⟨c, 0, (M.t i).sk.length, ret, prot⟩ 64
          obtain ⟨ad', cp', rfl⟩ := row_slice hr7
          have HN : Hid (Nx own W m a nb tp (enterP M i c args ret prot) (W7.setCell ⟨a, i * 5 + 3, none⟩ (.slice ad' ((M.t i).fr.length + 1) cp'))) := by
            have h := H1.frNx hi1 hg7 ((M.t i).fr ++ [⟨c, 0, (M.t i).sk.length, ret, prot⟩]) (by
              rw [List.length_append, List.flatMap_append, List.length_singleton]
              simpa using hr7) hv7
            have e : (pushP M i ((List.range j).map g)).setT i { (pushP M i ((List.range j).map g)).t i with fr := (M.t i).fr ++ [⟨c, 0, (M.t i).sk.length, ret, prot⟩] } = enterP M i c args ret prot := by
              rw [ht1, hjn2, HGDEF.out]
              unfold pushP enterP
              rw [setT_setT]
            rw [e] at h
            exact Nx.trans ho1 hch1 h
          have h5 := (H1.thr hi1).2.1
          have ha7 : W7.heap[a]? = wr.heap[a]? := hg7.block a H1.alt (fun e => by have := fcol a e.symm; have := H1.ac; omega)
          have c7 : W7.cell? ⟨a, i * 5 + 3, none⟩ = some (vals1 (9 + 3 * i)) := (World.cell?_of_block (a := ⟨a, i * 5 + 3, none⟩) ha7).trans r3
          have f7 : W7.frozen? ⟨a, i * 5 + 3, none⟩ = false := (World.frozen?_of_block (a := ⟨a, i * 5 + 3, none⟩) ha7).trans (H1.az _)
          simp only [frO] at happ
          generalize vals1 (9 + 3 * i) = v0 at *
          generalize (M.t i).fr.length = fl at *
          clear H1 hr7 hg7 hv7 frow fcol ha7 HSTEP HE hf1 hch1 ho1 ht1 hi1
          go_wp2_with (at_builtin; refine wpList_append_eq rfl _ _ 64 rfl _ _ _ _ rfl rfl happ ?_)
          go_end0
          exact ⟨rfl, HN.out⟩
end Go.Proofs.Qxb6500293aGreatRR
