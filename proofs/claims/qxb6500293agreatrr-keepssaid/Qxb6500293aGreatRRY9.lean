/-
  compare, store walked.
-/
import Derived.Test.Qxb6500293aGreatRRY8
namespace Go.Proofs.Qxb6500293aGreatRR
open Go.RowKit
open Ieee (double)
set_option linter.unusedVariables false
set_option linter.unusedSimpArgs false

theorem Vm.cellM {own : Nat → Nat} {W W' : World} {m a nb tp : Nat} {M : Mc} (HV : Vm own W m a nb tp M) (hb : Below W.heap.size W W') : W'.cell? ⟨m, 0, none⟩ = some (.pointer (some ⟨nb, 0, none⟩)) ∧ W'.cell? ⟨m, 1, none⟩ = some (.pointer (some ⟨tp, 0, none⟩)) ∧ m < W.heap.size := by
  obtain ⟨_, _, c1, c0, hml⟩ := HV.tabR
  exact ⟨(hb.cell (p := ⟨m, 0, none⟩) hml).trans c0, (hb.cell (p := ⟨m, 1, none⟩) hml).trans c1, hml⟩
set_option maxRecDepth 8000 in
set_option maxHeartbeats 1600000 in
theorem compare_num {own : Nat → Nat} {W : World} {m a nb tp : Nat} {M : Mc} (HV : Vm own W m a nb tp M) (op : Nat) (u v : V) (hu : u.T = 2) (hv : v.T = 2) :
    Calls Tryz.prog 119 #[.pointer (some ⟨m, 0, none⟩), i64 op, valV u, valV v] W fun e W' => e = .returned (.bool (cmpW (op : Int) (double.order u.N v.N))) ∧ Below W.heap.size W W' := by
  have HCMP := fun W => cmp_R (.pointer (some ⟨nb, 0, none⟩)) op u.N v.N W
  obtain ⟨T, N, S⟩ := u
  obtain ⟨T', N', S'⟩ := v
  simp only at hu hv HCMP
  subst hu hv
  rw [valV_mk, valV_mk]
  obtain ⟨q0, _, hml⟩ := HV.cellM (below_two (below_one W (vBox 2 N S)) (below_one _ (vBox 2 N' S')))
  have n1 : ¬ m = W.heap.size := by omega
  have n2 : ¬ m = W.heap.size + 1 := by omega
  clear HV
  go_enter Tryz.func119, Tryz.ntmps119
  go_wp2_with fail
  go_quiet ((go_at_call 64; exact Calls.quiet_of_same (HCMP _)))
  go_wp2_with fail
  go_ret
  exact ⟨rfl, (below_two (below_one _ _) (below_one _ _)).trans (below_drewN (Below.refl _ _) _)⟩
set_option maxRecDepth 8000 in
set_option maxHeartbeats 1600000 in
theorem compare_eq {own : Nat → Nat} {W : World} {m a nb tp : Nat} {M : Mc} (op : Nat) (ho : op = 1 ∨ op = 2) (u v : V) (h : ¬ (u.T = 2 ∧ v.T = 2)) :
    Calls Tryz.prog 119 #[.pointer (some ⟨m, 0, none⟩), i64 op, valV u, valV v] W fun e W' => e = .returned (.bool (if op = 1 then eqV u v else !eqV u v)) ∧ Below W.heap.size W W' := by
  obtain ⟨T, N, S⟩ := u
  obtain ⟨T', N', S'⟩ := v
  simp only at h
  rw [valV_mk, valV_mk]
  have hg : (T == 2) = false ∨ (T == 2) = true ∧ (T' == 2) = false := by
    by_cases c : T = 2
    · right
      exact ⟨by simpa using c, by rw [beq_eq_false_iff_ne]; exact fun d => h ⟨c, d⟩⟩
    · left
      rw [beq_eq_false_iff_ne]
      exact c
  clear h
  rcases ho with rfl | rfl
  · rcases hg with hg | ⟨hg, hg2⟩
    · go_enter Tryz.func119, Tryz.ntmps119
      go_wp2_with fail
      all_goals
        go_ret
        exact ⟨ret_bool (by first | (have e : N = N' := (by omega); subst e; simp [eqV, decV, *]; done) | (have e : ¬ N = N' := (by omega); simp [eqV, decV, *]; done) | (simp [eqV, decV, *]; done)), below_two (below_one _ _) (below_one _ _)⟩
    · go_enter Tryz.func119, Tryz.ntmps119
      go_wp2_with fail
      all_goals
        go_ret
        exact ⟨ret_bool (by first | (have e : N = N' := (by omega); subst e; simp [eqV, decV, *]; done) | (have e : ¬ N = N' := (by omega); simp [eqV, decV, *]; done) | (simp [eqV, decV, *]; done)), below_two (below_one _ _) (below_one _ _)⟩
  · rcases hg with hg | ⟨hg, hg2⟩
    · go_enter Tryz.func119, Tryz.ntmps119
      go_wp2_with fail
      all_goals
        go_ret
        exact ⟨ret_bool (by first | (have e : N = N' := (by omega); subst e; simp [eqV, decV, *]; done) | (have e : ¬ N = N' := (by omega); simp [eqV, decV, *]; done) | (simp [eqV, decV, *]; done)), below_two (below_one _ _) (below_one _ _)⟩
    · go_enter Tryz.func119, Tryz.ntmps119
      go_wp2_with fail
      all_goals
        go_ret
        exact ⟨ret_bool (by first | (have e : N = N' := (by omega); subst e; simp [eqV, decV, *]; done) | (have e : ¬ N = N' := (by omega); simp [eqV, decV, *]; done) | (simp [eqV, decV, *]; done)), below_two (below_one _ _) (below_one _ _)⟩
set_option maxRecDepth 8000 in
set_option maxHeartbeats 1600000 in
theorem compare_str {W : World} {m : Nat} (op : Nat) (ho : op = 3 ∨ op = 4 ∨ op = 5 ∨ op = 6) (u v : V) (hu : u.T = 3) (hv : v.T = 3) :
    Calls Tryz.prog 119 #[.pointer (some ⟨m, 0, none⟩), i64 op, valV u, valV v] W fun e W' => e = .returned (.bool (if op = 3 then Op.bytesLess u.S v.S else if op = 4 then Op.bytesLess u.S v.S || u.S == v.S else if op = 5 then !(Op.bytesLess u.S v.S || u.S == v.S) else !Op.bytesLess u.S v.S)) ∧ Below W.heap.size W W' := by
  obtain ⟨T, N, S⟩ := u
  obtain ⟨T', N', S'⟩ := v
  simp only at hu hv
  subst hu hv
  rw [valV_mk, valV_mk]
  rcases ho with rfl | rfl | rfl | rfl
  all_goals
    go_enter Tryz.func119, Tryz.ntmps119
    go_wp2_with fail
    go_ret
    exact ⟨rfl, below_two (below_one _ _) (below_one _ _)⟩
theorem compare_ok {own : Nat → Nat} {W : World} {m a nb tp : Nat} {M : Mc} (HV : Vm own W m a nb tp M) (op : Nat) (h1 : 1 ≤ op) (h6 : op ≤ 6) (u v : V) (hc : cmpThr op u v = false) :
    Calls Tryz.prog 119 #[.pointer (some ⟨m, 0, none⟩), i64 op, valV u, valV v] W fun e W' => e = .returned (.bool (cmpP op u v)) ∧ Below W.heap.size W W' := by
  unfold cmpP
  by_cases c : u.T = 2 ∧ v.T = 2
  · rw [if_pos c]
    exact compare_num HV op u v c.1 c.2
  rw [if_neg c]
  by_cases d : op = 1 ∨ op = 2
  · have h := compare_eq (own := own) (W := W) (m := m) (a := a) (nb := nb) (tp := tp) (M := M) op d u v c
    rcases d with rfl | rfl <;> exact h
  have hs : u.T = 3 ∧ v.T = 3 := by
    unfold cmpThr at hc
    simp at hc
    by_cases e : u.T = 3 ∧ v.T = 3
    · exact e
    · exfalso
      have := hc (by omega) (by omega) (by omega)
      exact e this
  rw [if_neg (by omega), if_neg (by omega)]
  exact compare_str op (by omega) u v hs.1 hs.2
set_option maxRecDepth 8000 in
set_option maxHeartbeats 1600000 in
theorem compare_thr {W : World} {m : Nat} (op : Nat) (u v : V) (hc : cmpThr op u v = true) :
    Calls Tryz.prog 119 #[.pointer (some ⟨m, 0, none⟩), i64 op, valV u, valV v] W (ThrEnd W (str mCompare)) := by
  obtain ⟨T, N, S⟩ := u
  obtain ⟨T', N', S'⟩ := v
  unfold cmpThr at hc
  simp at hc
  obtain ⟨h1, h2, h3, h4⟩ := hc
  rw [valV_mk, valV_mk]
  have hg : (T == 2) = false ∨ (T == 2) = true ∧ (T' == 2) = false := by
    by_cases c : T = 2
    · right
      exact ⟨by simpa using c, by rw [beq_eq_false_iff_ne]; omega⟩
    · left
      rw [beq_eq_false_iff_ne]
      exact c
  have hs : (T != 3) = true ∨ (T != 3) = false ∧ (T' != 3) = true := by
    by_cases c : T = 3
    · right
      exact ⟨by simpa using c, by rw [bne_iff_ne]; omega⟩
    · left
      simpa using c
  have o1 : ((op : Int) == 1) = false := by rw [beq_eq_false_iff_ne]; omega
  have o2 : ((op : Int) == 2) = false := by rw [beq_eq_false_iff_ne]; omega
  have HR := fun W => raise_any mCompare W
  unfold mCompare at HR
  clear h1 h2 h3 h4
  rcases hg with hg | ⟨hg, hg2⟩ <;> rcases hs with hs | ⟨hs, hs2⟩
  all_goals
    go_enter Tryz.func119, Tryz.ntmps119
    go_wp2_with fail
    refine (HR _).mono ?_; rintro e w1 ⟨rfl, rfl⟩
    go_wp2_with fail
    simp [bodyPost]
    exact ⟨_, rfl, by omega, new_at _ _ (by simp), below_two (below_two (below_one _ _) (below_one _ _)) (below_one _ _)⟩
/-- What a step on the tables leaves of the machine. -/
theorem Vm.tabsN {own : Nat → Nat} {W W' : World} {m a nb tp : Nat} {M : Mc} {st' : List Tbl} (HV : Vm own W m a nb tp M) (hE : REnd own W tp st' W') (i : Nat) : Nf own W m a nb tp i { M with tb := st' } W' := by
  obtain ⟨vals, L, H⟩ := HV
  obtain ⟨own', h1, h2, h3⟩ := H.tabs hE
  refine ⟨⟨own', h1, ⟨vals, L, h2⟩, h3⟩, ?_⟩
  obtain ⟨own1, ho, hr, hc⟩ := hE
  exact World.cell?_of_block (a := ⟨a, i * 5 + 3, none⟩) (hc.block a H.alt (by rw [H.ac]; omega))
set_option maxRecDepth 8000 in
set_option maxHeartbeats 1600000 in
theorem store_any {own : Nat → Nat} {W : World} {m a nb tp : Nat} {M : Mc} (HV : Vm own W m a nb tp M) (h : Nat) (k v : V) (hk : k.Ok) (hv : v.Ok) (i : Nat) :
    Calls Tryz.prog 106 #[.pointer (some ⟨m, 0, none⟩), i64 h, valV k, valV v] W (OuEf own W m a nb tp i (storeP M h k v) (fun _ => .tuple #[])) := by
  obtain ⟨kT, kN, kS⟩ := k
  obtain ⟨vT, vN, vS⟩ := v
  have hb2 := below_two (below_one W (vBox kT kN kS)) (below_one _ (vBox vT vN vS))
  have hb3 := hb2.trans (below_drewN (Below.refl W.heap.size ((W.alloc (vBox kT kN kS)).alloc (vBox vT vN vS))) 1)
  obtain ⟨hRS, hG, _⟩ := HV.tabR
  have HSET := rset own tp M.tb h ⟨kT, kN, kS⟩ ⟨vT, vN, vS⟩ (((W.alloc (vBox kT kN kS)).alloc (vBox vT vN vS)).drewN 1) (hRS.below hb3) hG hk hv
  rw [valV_mk, valV_mk] at *
  have HV3 := HV.below hb3
  have HN : Hid (∀ w', REnd own (((W.alloc (vBox kT kN kS)).alloc (vBox vT vN vS)).drewN 1) tp (setP M.tb h ⟨kT, kN, kS⟩ ⟨vT, vN, vS⟩).1 w' → Nf own W m a nb tp i { M with tb := (setP M.tb h ⟨kT, kN, kS⟩ ⟨vT, vN, vS⟩).1 } w') := fun w' hE => Nf.pre HV hb3 (HV3.tabsN hE i)
  obtain ⟨_, q1, hml⟩ := HV.cellM hb2
  have n1 : ¬ m = W.heap.size := by omega
  have n2 : ¬ m = W.heap.size + 1 := by omega
  have HOU : Hid (storeP M h ⟨kT, kN, kS⟩ ⟨vT, vN, vS⟩ = (let r := setP M.tb h ⟨kT, kN, kS⟩ ⟨vT, vN, vS⟩; if r.2 = 8 then trp { M with tb := r.1 } () 8 else if r.2 ≠ 0 then thr { M with tb := r.1 } () (str mKey) else ok { M with tb := r.1 } ())) := rfl
  have HR := fun W => raise_any mKey W
  have HST := fun W => stop_any 8 W
  unfold mKey at HR
  obtain ⟨rr, hrr⟩ : ∃ rr, rr = setP M.tb h ⟨kT, kN, kS⟩ ⟨vT, vN, vS⟩ := ⟨_, rfl⟩
  rw [← hrr] at HSET HN HOU
  obtain ⟨tb', E⟩ := rr
  simp only at HSET HN
  clear hrr HV HV3 hRS hG hb2 hb3 hk hv
  go_enter Tryz.func106, Tryz.ntmps106
  go_wp2_with fail
  by_cases e8 : E = 8
  · have HO : Hid (storeP M h ⟨kT, kN, kS⟩ ⟨vT, vN, vS⟩ = trp { M with tb := tb' } () 8) := by rw [HOU.out]; exact if_pos e8
    subst e8
    go_region_with (go_at_call 56; refine HSET.mono ?_; rintro e w2 ⟨rfl, hE⟩; have HN2 : Hid _ := HN.out _ hE; clear hE)
    all_goals
      go_wp2_with fail
      refine (HST _).mono ?_; rintro e w3 ⟨rfl, rfl⟩
      go_wp2_with fail
      simp [bodyPost]
      rw [HO.out]
      exact .inr (.inr ⟨rfl, rfl, HN2.out.1⟩)
  · have b8 : (E == 8) = false := by rw [beq_eq_false_iff_ne]; exact e8
    by_cases e0 : E = 0
    · have HO : Hid (storeP M h ⟨kT, kN, kS⟩ ⟨vT, vN, vS⟩ = ok { M with tb := tb' } ()) := by
        rw [HOU.out]
        show (if E = 8 then _ else if E ≠ 0 then _ else _) = _
        rw [if_neg e8, if_neg (by omega)]
      subst e0
      clear e8 b8
      go_region_with (go_at_call 56; refine HSET.mono ?_; rintro e w2 ⟨rfl, hE⟩; have HN2 : Hid _ := HN.out _ hE; clear hE)
      all_goals
        go_wp2_with fail
        go_end0
        rw [HO.out]
        exact .inl ⟨rfl, rfl, HN2.out⟩
    · have HO : Hid (storeP M h ⟨kT, kN, kS⟩ ⟨vT, vN, vS⟩ = thr { M with tb := tb' } () (str mKey)) := by
        rw [HOU.out]
        show (if E = 8 then _ else if E ≠ 0 then _ else _) = _
        rw [if_neg e8, if_pos e0]
      have b0 : (E != 0) = true := by simpa using e0
      clear e8 e0
      go_region_with (go_at_call 56; refine HSET.mono ?_; rintro e w2 ⟨rfl, hE⟩; have HN2 : Hid _ := HN.out _ hE; clear hE)
      all_goals
        go_wp2_with fail
        refine (HR _).mono ?_; rintro e w3 ⟨rfl, rfl⟩
        go_wp2_with fail
        simp [bodyPost]
        rw [HO.out]
        refine .inr (.inl ⟨rfl, ⟨_, rfl, ?_, World.alloc_heap_new _ _⟩, HN2.out.1.below (below_one _ _)⟩)
        obtain ⟨_, _, _, hch⟩ := HN2.out.1
        exact hch.size
end Go.Proofs.Qxb6500293aGreatRR
