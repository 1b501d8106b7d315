/-
  Show walked.
-/
import Derived.Test.Qxb6500293aGreatRRA2
namespace Go.Proofs.Qxb6500293aGreatRR
open Go.RowKit
open Ieee (double)
set_option linter.unusedVariables false
set_option linter.unusedSimpArgs false

theorem showFr_len {M : Mc} (hA : Alive M none) {i j : Nat} (hi : i < M.th.length) (hj : j < (M.t i).fr.length) : (showFr M (M.t i) j).length ≤ 200000 := by
  have hf : (M.t i).fr[j]? = some (frAt (M.t i) j) := at_some hj
  have hF := (hA.th i hi).frs j _ hf
  have hsk := sk_bound hA hi
  have hva : ∀ v ∈ (M.t i).sk, wfB v = true ∧ v.N < 18446744073709551616 := fun v hv => by
    have h := hA.va.sk (M.t i) (Mc.t_mem hi) v hv
    exact ⟨h.wf, h.2⟩
  have hpc := (hA.st.each _ (hA.prc hF.clo)).2.2.2.2
  have hcl := hA.cl.cs24
  have n3 := itoaL_len (i := ((frAt (M.t i) j).clo : Int)) (by omega) (by have := hF.clo; omega)
  have n4 := itoaL_len (i := ((frAt (M.t i) j).pc : Int)) (by omega) (by have := hF.pc; omega)
  have n1 := vals_len' (l := slF M (M.t i) j) (fun v hv => hva v (List.mem_of_mem_drop (List.mem_of_mem_take hv)))
  have n2 := vals_len' (l := opF M (M.t i) j) (fun v hv => hva v (List.mem_of_mem_drop (List.mem_of_mem_take hv)))
  have m1 : (slF M (M.t i) j).length ≤ 1120 := by unfold slF; rw [List.length_take, List.length_drop]; omega
  have m2 : (opF M (M.t i) j).length ≤ 1120 := by unfold opF; rw [List.length_take, List.length_drop]; omega
  have hz5 : (if (frAt (M.t i) j).prot then [112] else [45] : List UInt8).length = 1 := by cases (frAt (M.t i) j).prot <;> rfl
  unfold showFr
  simp only [List.flatten_cons, List.flatten_nil, List.length_append, List.length_cons, List.length_nil, hz5]
  omega
theorem range_flat {f : Nat → List UInt8} (n : Nat) : (List.range (n + 1)).flatMap f = (List.range n).flatMap f ++ f n := by
  rw [List.range_succ, List.flatMap_append]
  simp
section
variable {own : Nat → Nat} {W : World} {m a nb tp : Nat} {M : Mc}
theorem Vm.outC (HV : Vm own W m a nb tp M) : ∃ ad cp, W.cell? ⟨m, 11, none⟩ = some (.slice ad M.out.length cp) ∧ (convert 59 9 (.slice ad M.out.length cp)).run Tryz.prog W = .ok (.string ⟨M.out.toArray⟩) W := by
  obtain ⟨vals, L, H⟩ := HV
  obtain ⟨p1, p2, p3⟩ := H.row 7 (by omega)
  have p1 : W.cell? ⟨m, 11, none⟩ = some (vals 7) := p1
  have p2 : W.ownsRow 0 5 1 (vals 7) M.out.length (M.out.flatMap byC) := p2
  obtain ⟨ad, cp, hv⟩ := row_slice p2
  rw [hv] at p1 p2
  exact ⟨ad, cp, p1, row_str p2⟩
theorem Vm.hdC (HV : Vm own W m a nb tp M) : W.cell? ⟨m, 10, none⟩ = some (i64 M.fuel) ∧ W.cell? ⟨m, 12, none⟩ = some (.int .i64 M.en) ∧ m < W.heap.size ∧ a < W.heap.size := by
  obtain ⟨vals, L, H⟩ := HV
  exact ⟨H.cf, H.cen, H.mlt, H.alt⟩
theorem Vm.thC (HV : Vm own W m a nb tp M) {i : Nat} (hi : i < M.th.length) : W.cell? ⟨a, i * 5, none⟩ = some (i64 (M.t i).st) ∧ W.cell? ⟨a, i * 5 + 1, none⟩ = some (i64 (M.t i).fn) ∧ (∃ ad cp, W.cell? ⟨a, i * 5 + 3, none⟩ = some (.slice ad (M.t i).fr.length cp)) ∧ i < 5 := by
  obtain ⟨vals, L, H⟩ := HV
  obtain ⟨e1, h5, e2⟩ := H.thr hi
  obtain ⟨t1, t2⟩ := H.ts i h5
  obtain ⟨s2, srow, scol⟩ := H.frRow hi
  obtain ⟨ad, cp, hv⟩ := row_slice srow
  rw [e1] at t1 t2
  rw [hv] at s2
  exact ⟨t1, t2, ⟨ad, cp, s2⟩, h5⟩
end
theorem Rest.alive {M : Mc} (h : Rest M) (h2 : 0 < M.th.length ∨ 0 < M.cs.length) : Alive M none := by
  rcases h with h | h
  · exact h
  · obtain ⟨_, _, _, _, n5, _, _, n8⟩ := h.nil
    rw [n5, n8] at h2
    rcases h2 with h2 | h2 <;> exact absurd h2 (Nat.lt_irrefl 0)
theorem Rest.ou {M : Mc} (h : Rest M) : OuOk M ∧ -9223372036854775808 ≤ M.en ∧ M.en ≤ 9223372036854775807 ∧ M.th.length ≤ 5 ∧ M.cs.length ≤ 24 := by
  rcases h with h | h
  · exact ⟨h.ou, by rw [h.en]; decide, by rw [h.en]; decide, h.th5, h.cl.cs24⟩
  · obtain ⟨_, _, _, _, n5, _, _, n8⟩ := h.nil
    exact ⟨h.ou, h.lo, h.hi, by rw [n8]; decide, by rw [n5]; decide⟩
set_option maxRecDepth 8000 in
set_option maxHeartbeats 8000000 in
theorem showM_any {own : Nat → Nat} {W : World} {m a nb tp : Nat} {M : Mc} (HV : Vm own W m a nb tp M) (hR : Rest M) :
    Calls Tryz.prog 7 #[.pointer (some ⟨m, 0, none⟩)] W fun e w' => e = .returned (.string ⟨(showP M).toArray⟩) ∧ Below W.heap.size W w' := by
  obtain ⟨hO, he1, he2, h5, h24⟩ := hR.ou
  have hfu := hO.fuel
  have hou := hO.out
  have HI1 := fun w => itoa_any (M.fuel : Int) w (by omega) (by omega)
  have HI2 := fun w => itoa_any M.en w (by omega) (by omega)
  have HI3 := fun w => itoa_any (M.out.length : Int) w (by omega) (by omega)
  have n1 := itoaL_len (i := (M.fuel : Int)) (by omega) (by omega)
  have n2 := itoaL_len (i := M.en) (by omega) (by omega)
  have n3 := itoaL_len (i := (M.out.length : Int)) (by omega) (by omega)
  have HHD : Hid (showHd M = ([[70], itoaL M.fuel, [32, 69], itoaL M.en, [32, 79], itoaL M.out.length, [58], M.out] : List (List UInt8)).flatten) := rfl
  obtain ⟨c10, c12, hml, hal⟩ := HV.hdC
  have HHV : Hid (Vm own W m a nb tp M ∧ Rest M) := ⟨HV, hR⟩
  have HO : Hid (∀ w, Below W.heap.size W w → ∃ ad cp, w.cell? ⟨m, 11, none⟩ = some (.slice ad M.out.length cp) ∧ (convert 59 9 (.slice ad M.out.length cp)).run Tryz.prog w = .ok (.string ⟨M.out.toArray⟩) w) := fun w hb => (HV.below hb).outC
  clear HV hR hO
  generalize itoaL (M.fuel : Int) = y1 at *
  generalize itoaL M.en = y2 at *
  generalize itoaL (M.out.length : Int) = y3 at *
  generalize hot : M.out = ot at *
  generalize hol : ot.length = ol at *
  generalize M.fuel = fu at *
  generalize M.en = en at *
  go_enter Tryz.func7, Tryz.ntmps7
  go_wp2_with fail
  refine (HI1 _).mono ?_; rintro e w1 ⟨rfl, hb1⟩
  have c12 := (hb1.cell (p := ⟨m, 12, none⟩) hml).trans c12
  have hml1 : m < w1.heap.size := Nat.lt_of_lt_of_le hml hb1.size
  have HB1 : Hid (Below W.heap.size W w1) := hb1
  clear hb1 HI1
  go_wp2_with fail
  refine (HI2 _).mono ?_; rintro e w2 ⟨rfl, hb2⟩
  have hb2 := below_two HB1.out hb2
  obtain ⟨oa, oc, o1, o2⟩ := HO.out w2 hb2
  have hml2 : m < w2.heap.size := Nat.lt_of_lt_of_le hml hb2.size
  have HB2 : Hid (Below W.heap.size W w2) := hb2
  clear hb2 HI2 HB1 o2
  go_wp2_with fail
  refine (HI3 _).mono ?_; rintro e w3 ⟨rfl, hb3⟩
  have hb3 := below_two HB2.out hb3
  obtain ⟨oa, oc, o1, o2⟩ := HO.out w3 hb3
  have hml3 : m < w3.heap.size := Nat.lt_of_lt_of_le hml hb3.size
  have HB3 : Hid (Below W.heap.size W w3) := hb3
  clear hb3 HI3 HB2
  have HPA : PA (w3.alloc (.cells #[.string ⟨#[70]⟩, .string ⟨y1.toArray⟩, .string ⟨#[32, 69]⟩, .string ⟨y2.toArray⟩, .string ⟨#[32, 79]⟩, .string ⟨y3.toArray⟩, .string ⟨#[58]⟩, .string ⟨ot.toArray⟩] 9)) w3.heap.size 0 ([[70], y1, [32, 69], y2, [32, 79], y3, [58], ot] : List (List UInt8)) := by
    refine ⟨by simp only [World.size_alloc]; omega, fun q s hq => ?_⟩
    rw [Nat.zero_add, box_cell (World.alloc_heap_new _ _)]
    rcases (by have := (List.getElem?_eq_some_iff.1 hq).1; simp at this; omega : q = 0 ∨ q = 1 ∨ q = 2 ∨ q = 3 ∨ q = 4 ∨ q = 5 ∨ q = 6 ∨ q = 7) with rfl | rfl | rfl | rfl | rfl | rfl | rfl | rfl <;> (cases hq; rfl)
  have HJ : Calls Tryz.prog 14 #[.slice (some ⟨w3.heap.size, 0, none⟩) 8 8] (w3.alloc (.cells #[.string ⟨#[70]⟩, .string ⟨y1.toArray⟩, .string ⟨#[32, 69]⟩, .string ⟨y2.toArray⟩, .string ⟨#[32, 79]⟩, .string ⟨y3.toArray⟩, .string ⟨#[58]⟩, .string ⟨ot.toArray⟩] 9)) (fun e W' => e = .returned (.string ⟨([[70], y1, [32, 69], y2, [32, 79], y3, [58], ot] : List (List UInt8)).flatten.toArray⟩) ∧ Below (w3.alloc (.cells #[.string ⟨#[70]⟩, .string ⟨y1.toArray⟩, .string ⟨#[32, 69]⟩, .string ⟨y2.toArray⟩, .string ⟨#[32, 79]⟩, .string ⟨y3.toArray⟩, .string ⟨#[58]⟩, .string ⟨ot.toArray⟩] 9)).heap.size (w3.alloc (.cells #[.string ⟨#[70]⟩, .string ⟨y1.toArray⟩, .string ⟨#[32, 69]⟩, .string ⟨y2.toArray⟩, .string ⟨#[32, 79]⟩, .string ⟨y3.toArray⟩, .string ⟨#[58]⟩, .string ⟨ot.toArray⟩] 9)) W') :=
    join_any _ w3.heap.size 0 8 [[70], y1, [32, 69], y2, [32, 79], y3, [58], ot] HPA (by show 8 ≤ 100; decide) (by simp only [List.flatten_cons, List.flatten_nil, List.length_append, List.length_cons, List.length_nil]; omega)
  generalize hjt : ([[70], y1, [32, 69], y2, [32, 79], y3, [58], ot] : List (List UInt8)).flatten = t0 at HJ
  have HT0 : Hid ([[70], y1, [32, 69], y2, [32, 79], y3, [58], ot].flatten = t0) := hjt
  have lt0 : t0.length ≤ 400 := by rw [← hjt]; simp only [List.flatten_cons, List.flatten_nil, List.length_append, List.length_cons, List.length_nil]; omega
  clear hjt HPA
  have HT0' : Hid (t0 = showHd M) := by show _ = _; rw [HHD.out]; exact HT0.out.symm
  go_wp2_with fail
  refine HJ.mono ?_; rintro e w4 ⟨rfl, hb4⟩
  have hb4 := below_two HB3.out (below_two (below_one _ _) hb4)
  have c9 := (hb4.cell (p := ⟨m, 9, none⟩) hml).trans HHV.out.1.c9V.1
  have hml4 : m < w4.heap.size := Nat.lt_of_lt_of_le hml hb4.size
  have HB4 : Hid (Below W.heap.size W w4) := hb4
  clear hb4 HJ HB3 HT0 HHD o1 o2 HO c10 c12 n1 n2 n3
  obtain ⟨tn, htn⟩ : ∃ tn, tn = M.th.length := ⟨_, rfl⟩
  rw [← htn] at c9 h5
  have HTN : Hid (tn = M.th.length) := htn
  clear htn
  go_wp2_with fail
  go_loopw [6, 50] (fun sv iv wr => ∃ (i : Nat) (sj : List UInt8), iv = .int .i64 (i : Int) ∧ i ≤ tn ∧ sv = .string ⟨sj.toArray⟩ ∧ sj.length ≤ 400 + 1700000 * i ∧ Hid (sj = showHd M ++ (List.range i).flatMap (fun i => showTh M (M.t i)) ∧ Below W.heap.size W wr)) (fun _ iv _ => tn - (intOf iv).toNat)
  case atStart => exact ⟨0, t0, rfl, by omega, rfl, by omega, by simpa using HT0'.out, HB4.out⟩
  case round =>
    obtain ⟨i, sj, rfl, hin, rfl, hsj, HR⟩ := hrel
    by_cases hil : i < tn
    · have hi : i < M.th.length := by rw [← HTN.out]; exact hil
      have hA := HHV.out.2.alive (.inl (Nat.lt_of_le_of_lt (Nat.zero_le _) hi))
      have HVr := HHV.out.1.below HR.out.2
      obtain ⟨t1, t2, ⟨fa, fc, t3⟩, hi5⟩ := HVr.thC hi
      have hth := hA.th i hi
      have hst := hth.st
      have hfn : (M.t i).fn < 24 := Nat.lt_of_lt_of_le hth.fn hA.cl.cs24
      have hf8 := hth.fr8
      have HJ1 := fun w => itoa_any ((M.t i).st : Int) w (by omega) (by omega)
      have HJ2 := fun w => itoa_any ((M.t i).fn : Int) w (by omega) (by omega)
      have n1 := itoaL_len (i := ((M.t i).st : Int)) (by omega) (by omega)
      have n2 := itoaL_len (i := ((M.t i).fn : Int)) (by omega) (by omega)
      have HTD : Hid (showTh M (M.t i) = ([[32, 84], itoaL (M.t i).st, [44], itoaL (M.t i).fn] : List (List UInt8)).flatten ++ (List.range (M.t i).fr.length).flatMap (showFr M (M.t i))) := rfl
      have HSF : Hid (∀ j, j < (M.t i).fr.length → (∀ w, Below W.heap.size W w → Calls Tryz.prog 15 #[.pointer (some ⟨m, 0, none⟩), .pointer (some ⟨a, i * 5, none⟩), i64 j] w fun e w' => e = .returned (.string ⟨(showFr M (M.t i) j).toArray⟩) ∧ Below w.heap.size w w') ∧ (showFr M (M.t i) j).length ≤ 200000) := fun j hj => ⟨fun w hb => showFr_any (HHV.out.1.below hb) hA hi hj, showFr_len hA hi hj⟩
      have c9r := (HR.out.2.cell (p := ⟨m, 9, none⟩) hml).trans HHV.out.1.c9V.1
      rw [← HTN.out] at c9r
      have hmlr : m < wr.heap.size := Nat.lt_of_lt_of_le hml HR.out.2.size
      have halr : a < wr.heap.size := Nat.lt_of_lt_of_le hal HR.out.2.size
      have dl : decide ((i : Int) < (tn : Int)) = true := decide_eq_true (by omega)
      have HBr : Hid (Below W.heap.size W wr) := HR.out.2
      have HSJ : Hid (sj = showHd M ++ (List.range i).flatMap (fun i => showTh M (M.t i))) := HR.out.1
      have hHF : Hid (∃ fa fc, True) := ⟨fa, fc, trivial⟩
      clear HVr hth hA HR hHF
      generalize itoaL ((M.t i).st : Int) = y4 at *
      generalize itoaL ((M.t i).fn : Int) = y5 at *
      generalize (M.t i).st = st at *
      generalize (M.t i).fn = fn at *
      obtain ⟨nf, hnf⟩ : ∃ nf, nf = (M.t i).fr.length := ⟨_, rfl⟩
      rw [← hnf] at t3 hf8 HTD HSF
      clear hnf
      go_wp2_with fail
      refine (HJ1 _).mono ?_; rintro e w5 ⟨rfl, hb5⟩
      have t2 := (hb5.cell (p := ⟨a, i * 5 + 1, none⟩) halr).trans t2
      have t3 := (hb5.cell (p := ⟨a, i * 5 + 3, none⟩) halr).trans t3
      have hal5 : a < w5.heap.size := Nat.lt_of_lt_of_le halr hb5.size
      have HB5 : Hid (Below W.heap.size W w5) := below_two HBr.out hb5
      clear hb5 HJ1 HBr
      go_wp2_with fail
      refine (HJ2 _).mono ?_; rintro e w6 ⟨rfl, hb6⟩
      have t3 := (hb6.cell (p := ⟨a, i * 5 + 3, none⟩) hal5).trans t3
      have hal6 : a < w6.heap.size := Nat.lt_of_lt_of_le hal5 hb6.size
      have HB6 : Hid (Below W.heap.size W w6) := below_two HB5.out hb6
      clear hb6 HJ2 HB5 t2
      have HPA : PA (w6.alloc (.cells #[.string ⟨sj.toArray⟩, .string ⟨#[32, 84]⟩, .string ⟨y4.toArray⟩, .string ⟨#[44]⟩, .string ⟨y5.toArray⟩] 9)) w6.heap.size 0 ([sj, [32, 84], y4, [44], y5] : List (List UInt8)) := by
        refine ⟨by simp only [World.size_alloc]; omega, fun q s hq => ?_⟩
        rw [Nat.zero_add, box_cell (World.alloc_heap_new _ _)]
        rcases (by have := (List.getElem?_eq_some_iff.1 hq).1; simp at this; omega : q = 0 ∨ q = 1 ∨ q = 2 ∨ q = 3 ∨ q = 4) with rfl | rfl | rfl | rfl | rfl <;> (cases hq; rfl)
      have HJ : Calls Tryz.prog 14 #[.slice (some ⟨w6.heap.size, 0, none⟩) 5 5] (w6.alloc (.cells #[.string ⟨sj.toArray⟩, .string ⟨#[32, 84]⟩, .string ⟨y4.toArray⟩, .string ⟨#[44]⟩, .string ⟨y5.toArray⟩] 9)) (fun e W' => e = .returned (.string ⟨([sj, [32, 84], y4, [44], y5] : List (List UInt8)).flatten.toArray⟩) ∧ Below (w6.alloc (.cells #[.string ⟨sj.toArray⟩, .string ⟨#[32, 84]⟩, .string ⟨y4.toArray⟩, .string ⟨#[44]⟩, .string ⟨y5.toArray⟩] 9)).heap.size (w6.alloc (.cells #[.string ⟨sj.toArray⟩, .string ⟨#[32, 84]⟩, .string ⟨y4.toArray⟩, .string ⟨#[44]⟩, .string ⟨y5.toArray⟩] 9)) W') :=
        join_any _ w6.heap.size 0 5 [sj, [32, 84], y4, [44], y5] HPA (by show 5 ≤ 100; decide) (by simp only [List.flatten_cons, List.flatten_nil, List.length_append, List.length_cons, List.length_nil]; omega)
      generalize hjt : ([sj, [32, 84], y4, [44], y5] : List (List UInt8)).flatten = t1s at HJ
      have HT1 : Hid ([sj, [32, 84], y4, [44], y5].flatten = t1s) := hjt
      have lt1s : t1s.length ≤ 500 + 1700000 * i := by rw [← hjt]; simp only [List.flatten_cons, List.flatten_nil, List.length_append, List.length_cons, List.length_nil]; omega
      clear hjt HPA
      go_wp2_with fail
      refine HJ.mono ?_; rintro e w7 ⟨rfl, hb7⟩
      have hb67 := below_two (below_one w6 _) hb7
      have t3 := (hb67.cell (p := ⟨a, i * 5 + 3, none⟩) hal6).trans t3
      have hal7 : a < w7.heap.size := Nat.lt_of_lt_of_le hal6 hb67.size
      have HB7 : Hid (Below W.heap.size W w7) := below_two HB6.out hb67
      clear hb7 HJ HB6 hb67 n1 n2
      go_wp2_with fail
      go_loopw [6, 79] (fun sv jv wq => ∃ (j : Nat) (sq : List UInt8), jv = .int .i64 (j : Int) ∧ j ≤ nf ∧ sv = .string ⟨sq.toArray⟩ ∧ sq.length ≤ 500 + 1700000 * i + 200000 * j ∧ Hid (sq = t1s ++ (List.range j).flatMap (showFr M (M.t i)) ∧ Below W.heap.size W wq)) (fun _ jv _ => nf - (intOf jv).toNat)
      case atStart => exact ⟨0, t1s, rfl, by omega, rfl, by omega, by simp, HB7.out⟩
      case round =>
        obtain ⟨j, sq, rfl, hjn, rfl, hsq, HQ⟩ := hrel
        by_cases hjl : j < nf
        · obtain ⟨hSF, hlf⟩ := HSF.out j hjl
          have HSFQ := hSF _ HQ.out.2
          have HN : Hid (sq ++ showFr M (M.t i) j = t1s ++ (List.range (j + 1)).flatMap (showFr M (M.t i))) := by
            show _ = _
            rw [range_flat, HQ.out.1, List.append_assoc]
          have dj : decide ((j : Int) < (nf : Int)) = true := decide_eq_true (by omega)
          have HBQ : Hid (Below W.heap.size W wr) := HQ.out.2
          clear hSF HQ
          generalize showFr M (M.t i) j = zf at *
          go_wp2_with fail
          refine HSFQ.mono ?_; rintro e w8 ⟨rfl, hb8⟩
          have HB8 : Hid (Below W.heap.size W w8) := below_two HBQ.out hb8
          clear hb8 HSFQ HBQ
          go_wp2_with fail
          go_roundw
          case rel => exact ⟨j + 1, sq ++ zf, by go_num, by omega, by simp [str_append], by simp; omega, HN.out, HB8.out⟩
          case measure => simp [intOf]; omega
        · have hje : j = nf := by omega
          have dj : decide ((j : Int) < (nf : Int)) = false := decide_eq_false (by omega)
          have HN : Hid (sq = showHd M ++ (List.range (i + 1)).flatMap (fun i => showTh M (M.t i))) := by
            show _ = _
            rw [range_flat, HQ.out.1, HTD.out, ← HT1.out, hje, HSJ.out]
            simp [List.append_assoc]
          have HBQ : Hid (Below W.heap.size W wr) := HQ.out.2
          clear HQ HTD HSF HSJ HT1
          go_wp2_with fail
          go_roundw
          case rel => exact ⟨i + 1, sq, by go_num, by omega, rfl, by omega, HN.out, HBQ.out⟩
          case measure => simp [intOf]; omega
    · have hie : i = tn := by omega
      have dl : decide ((i : Int) < (tn : Int)) = false := decide_eq_false (by omega)
      have HS1 : Hid (sj = showHd M ++ (List.range M.th.length).flatMap (fun i => showTh M (M.t i))) := by rw [← HTN.out, ← hie]; exact HR.out.1
      have HBr : Hid (Below W.heap.size W wr) := HR.out.2
      have hmlr : m < wr.heap.size := Nat.lt_of_lt_of_le hml HR.out.2.size
      have hL : ∃ ad cp, wr.cell? ⟨m, 6, none⟩ = some (.slice ad M.cs.length cp) := by
        obtain ⟨ad, cp, h⟩ := (HHV.out.1.below HR.out.2).len 4 (by omega)
        exact ⟨ad, cp, h []⟩
      obtain ⟨ca, cc, c6⟩ := hL
      obtain ⟨cn, hcn⟩ : ∃ cn, cn = M.cs.length := ⟨_, rfl⟩
      rw [← hcn] at c6 h24
      have HCN : Hid (cn = M.cs.length) := hcn
      clear HR hcn HTN HT0' HB4 c9
      subst hie
      generalize hln : sj.length = ln at *
      have hln9 : ln ≤ 9000000 := by omega
      go_wp2_with fail
      go_loopw [6, 96] (fun sv cv wr => ∃ (c : Nat) (sq : List UInt8), cv = .int .i64 (c : Int) ∧ c ≤ cn ∧ sv = .string ⟨sq.toArray⟩ ∧ sq.length ≤ 9000000 + 30000 * c ∧ Hid (sq = sj ++ (List.range c).flatMap (showCl M) ∧ Below W.heap.size W wr)) (fun _ cv _ => cn - (intOf cv).toNat)
      case atStart => exact ⟨0, sj, rfl, by omega, rfl, by omega, by simp, HBr.out⟩
      case round =>
        obtain ⟨c, sq, rfl, hcn', rfl, hsq, HQ⟩ := hrel
        by_cases hcl : c < cn
        · have hc : c < M.cs.length := by rw [← HCN.out]; exact hcl
          have hA := HHV.out.2.alive (.inr (Nat.lt_of_le_of_lt (Nat.zero_le _) hc))
          have HVr := HHV.out.1.below HQ.out.2
          obtain ⟨cb, ccp, e1, e2, e3, -, e5, -, e7⟩ := HVr.csE hc
          rw [← HCN.out] at e1 e2
          have hcp := hA.clo hc
          have hp13 : (M.c c).p < 13 := Nat.lt_of_lt_of_le hcp.1 hA.st.pr13
          have hnu : (M.c c).nup ≤ 255 := by rw [hcp.2.1]; exact (hA.st.each _ (hA.prc hc)).2.2.2.1
          have HJ1 := fun w => itoa_any ((M.c c).p : Int) w (by omega) (by omega)
          have n1 := itoaL_len (i := ((M.c c).p : Int)) (by omega) (by omega)
          have HTD : Hid (showCl M c = ([[32, 67], itoaL (M.c c).p, [91]] : List (List UInt8)).flatten ++ (List.range (M.c c).nup).flatMap (showUp M c) ++ [93]) := rfl
          have HUP : Hid (∀ x, x < (M.c c).nup → okV M (upP M c x) ∧ ∀ w fb, Below W.heap.size W w → w.cell? ⟨fb, 0, none⟩ = some (i64 c) → fb < w.heap.size → Calls Tryz.prog 16 #[.pointer (some ⟨m, 0, none⟩), .pointer (some ⟨fb, 0, none⟩), i64 x] w fun e w' => e = .returned (valV (upP M c x)) ∧ Below w.heap.size w w') := fun x hx => ⟨hA.upV hc hx, fun w fb hb h1 h2 => getUp_any (HHV.out.1.below hb) (hA.upOk (by omega) hc hx) h1 h2⟩
          have HCC : Hid (∀ w, Below W.heap.size W w → ∃ cb ccp, w.cell? ⟨m, 6, none⟩ = some (.slice (some ⟨cb, 0, none⟩) cn ccp) ∧ cn ≤ ccp ∧ w.cell? ⟨cb, c * 3 + 2, none⟩ = some (i64 (M.c c).nup) ∧ cb < w.heap.size ∧ m < w.heap.size) := by
            intro w hb
            obtain ⟨cb, ccp, e1, e2, e3, -, e5, -, e7⟩ := (HHV.out.1.below hb).csE hc
            rw [← HCN.out] at e1 e2
            exact ⟨cb, ccp, e1, e2, e7, e3, Nat.lt_of_lt_of_le hml hb.size⟩
          have hmlr : m < wr.heap.size := Nat.lt_of_lt_of_le hml HQ.out.2.size
          have dc : decide ((c : Int) < (cn : Int)) = true := decide_eq_true (by omega)
          have HBr : Hid (Below W.heap.size W wr) := HQ.out.2
          have HSJ : Hid (sq = sj ++ (List.range c).flatMap (showCl M)) := HQ.out.1
          clear HVr hA HQ hcp
          generalize itoaL ((M.c c).p : Int) = y4 at *
          generalize (M.c c).p = pp at *
          obtain ⟨nu, hnue⟩ : ∃ nu, nu = (M.c c).nup := ⟨_, rfl⟩
          rw [← hnue] at e7 hnu HTD HUP HCC
          clear hnue
          go_wp2_with fail
          refine (HJ1 _).mono ?_; rintro e w5 ⟨rfl, hb5⟩
          have HB5 : Hid (Below W.heap.size W w5) := below_two HBr.out hb5
          clear hb5 HJ1 HBr e1 e2 e3 e5 e7
          have HPA : PA (w5.alloc (.cells #[.string ⟨sq.toArray⟩, .string ⟨#[32, 67]⟩, .string ⟨y4.toArray⟩, .string ⟨#[91]⟩] 9)) w5.heap.size 0 ([sq, [32, 67], y4, [91]] : List (List UInt8)) := by
            refine ⟨by simp only [World.size_alloc]; omega, fun q s hq => ?_⟩
            rw [Nat.zero_add, box_cell (World.alloc_heap_new _ _)]
            rcases (by have := (List.getElem?_eq_some_iff.1 hq).1; simp at this; omega : q = 0 ∨ q = 1 ∨ q = 2 ∨ q = 3) with rfl | rfl | rfl | rfl <;> (cases hq; rfl)
          have HJ : Calls Tryz.prog 14 #[.slice (some ⟨w5.heap.size, 0, none⟩) 4 4] (w5.alloc (.cells #[.string ⟨sq.toArray⟩, .string ⟨#[32, 67]⟩, .string ⟨y4.toArray⟩, .string ⟨#[91]⟩] 9)) (fun e W' => e = .returned (.string ⟨([sq, [32, 67], y4, [91]] : List (List UInt8)).flatten.toArray⟩) ∧ Below (w5.alloc (.cells #[.string ⟨sq.toArray⟩, .string ⟨#[32, 67]⟩, .string ⟨y4.toArray⟩, .string ⟨#[91]⟩] 9)).heap.size (w5.alloc (.cells #[.string ⟨sq.toArray⟩, .string ⟨#[32, 67]⟩, .string ⟨y4.toArray⟩, .string ⟨#[91]⟩] 9)) W') :=
            join_any _ w5.heap.size 0 4 [sq, [32, 67], y4, [91]] HPA (by show 4 ≤ 100; decide) (by simp only [List.flatten_cons, List.flatten_nil, List.length_append, List.length_cons, List.length_nil]; omega)
          generalize hjt : ([sq, [32, 67], y4, [91]] : List (List UInt8)).flatten = t2s at HJ
          have HT2 : Hid ([sq, [32, 67], y4, [91]].flatten = t2s) := hjt
          have lt2s : t2s.length ≤ 9000100 + 30000 * c := by rw [← hjt]; simp only [List.flatten_cons, List.flatten_nil, List.length_append, List.length_cons, List.length_nil]; omega
          clear hjt HPA
          go_wp2_with fail
          refine HJ.mono ?_; rintro e w6 ⟨rfl, hb6⟩
          have HB6 : Hid (Below W.heap.size W w6) := below_two HB5.out (below_two (below_one w5 _) hb6)
          clear hb6 HJ HB5 n1
          go_wp2_with fail
          have HB7 : Hid (Below W.heap.size W (w6.alloc (.cells #[i64 c, .int .i64 0, .int .i64 0, .int .i64 0, .bool false] 71)) ∧ (w6.alloc (.cells #[i64 c, .int .i64 0, .int .i64 0, .int .i64 0, .bool false] 71)).heap[w6.heap.size]? = some (.cells #[i64 c, .int .i64 0, .int .i64 0, .int .i64 0, .bool false] 71) ∧ W.heap.size ≤ w6.heap.size) := ⟨below_two HB6.out (below_one _ _), World.alloc_heap_new _ _, HB6.out.size⟩
          generalize (w6.alloc (.cells #[i64 c, .int .i64 0, .int .i64 0, .int .i64 0, .bool false] 71)) = w7 at *
          generalize w6.heap.size = fb at *
          clear HB6
          go_loopw [6, 16] (fun sv xv wq => ∃ (x : Nat) (sx : List UInt8), xv = .int .i64 (x : Int) ∧ x ≤ nu ∧ sv = .string ⟨sx.toArray⟩ ∧ sx.length ≤ 9000100 + 30000 * c + 64 * x ∧ Hid (sx = t2s ++ (List.range x).flatMap (showUp M c) ∧ Below W.heap.size W wq ∧ wq.heap[fb]? = some (.cells #[i64 c, .int .i64 0, .int .i64 0, .int .i64 0, .bool false] 71))) (fun _ xv _ => nu - (intOf xv).toNat)
          case atStart => exact ⟨0, t2s, rfl, by omega, rfl, by omega, by simp, HB7.out.1, HB7.out.2.1⟩
          case round =>
            obtain ⟨x, sx, rfl, hxn, rfl, hsx, HX⟩ := hrel
            obtain ⟨cb, ccp, e1, e2, e3, e4, e5⟩ := HCC.out wr HX.out.2.1
            by_cases hxl : x < nu
            · obtain ⟨hV, hG⟩ := HUP.out x hxl
              have HG := hG wr fb HX.out.2.1 (by rw [box_cell HX.out.2.2]; rfl) (heap_lt HX.out.2.2)
              have HSV := fun w => showVal_any (upP M c x) w hV.wf hV.2
              have hl63 := hV.show
              have HN : Hid (sx ++ (showV (upP M c x) ++ [44]) = t2s ++ (List.range (x + 1)).flatMap (showUp M c)) := by
                show _ = _
                rw [range_flat, HX.out.1, List.append_assoc]
                rfl
              have dx : decide ((x : Int) < (nu : Int)) = true := decide_eq_true (by omega)
              have HBX : Hid (Below W.heap.size W wr ∧ wr.heap[fb]? = some (.cells #[i64 c, .int .i64 0, .int .i64 0, .int .i64 0, .bool false] 71)) := HX.out.2
              clear hV hG HX
              generalize upP M c x = v at *
              obtain ⟨vT, vN, vS⟩ := v
              rw [valV_mk] at HG HSV
              generalize showV ⟨vT, vN, vS⟩ = z at *
              go_wp2_with fail
              refine HG.mono ?_; rintro e w8 ⟨rfl, hb8⟩
              have HB8 : Hid (Below W.heap.size W w8 ∧ w8.heap[fb]? = some (.cells #[i64 c, .int .i64 0, .int .i64 0, .int .i64 0, .bool false] 71)) := ⟨below_two HBX.out.1 hb8, (hb8.block fb (heap_lt HBX.out.2)).trans HBX.out.2⟩
              clear hb8 HG HBX e1 e2 e3 e4 e5
              go_wp2_with fail
              refine (HSV _).mono ?_; rintro e w9 ⟨rfl, hb9⟩
              have hb89 := below_two (below_one w8 _) hb9
              have HB9 : Hid (Below W.heap.size W w9 ∧ w9.heap[fb]? = some (.cells #[i64 c, .int .i64 0, .int .i64 0, .int .i64 0, .bool false] 71)) := ⟨below_two HB8.out.1 hb89, (hb89.block fb (heap_lt HB8.out.2)).trans HB8.out.2⟩
              clear hb9 hb89 HSV HB8
              go_wp2_with fail
              go_roundw
              case rel => exact ⟨x + 1, sx ++ (z ++ [44]), by go_num, by omega, by simp [str_append], by simp; omega, HN.out, HB9.out.1, HB9.out.2⟩
              case measure => simp [intOf]; omega
            · have hxe : x = nu := by omega
              have dx : decide ((x : Int) < (nu : Int)) = false := decide_eq_false (by omega)
              have HN : Hid (sx ++ [93] = sj ++ (List.range (c + 1)).flatMap (showCl M)) := by
                show _ = _
                rw [range_flat, HX.out.1, HTD.out, ← HT2.out, hxe, HSJ.out]
                simp [List.append_assoc]
              have HBX : Hid (Below W.heap.size W wr) := HX.out.2.1
              clear HX HTD HUP HSJ HT2 HCC
              go_wp2_with fail
              go_roundw
              case rel => exact ⟨c + 1, sx ++ [93], by go_num, by omega, by simp [str_append], by simp; omega, HN.out, HBX.out⟩
              case measure => simp [intOf]; omega
        · have hce : c = cn := by omega
          have dc : decide ((c : Int) < (cn : Int)) = false := decide_eq_false (by omega)
          have HF : Hid (sq = showP M) := by
            show _ = _
            rw [HQ.out.1, HS1.out, hce, HCN.out]
            rfl
          have HBQ : Hid (Below W.heap.size W wr) := HQ.out.2
          clear HQ HS1
          go_wp2_with fail
          go_ret
          exact ⟨by rw [HF.out]; rfl, HBQ.out⟩
end Go.Proofs.Qxb6500293aGreatRR
