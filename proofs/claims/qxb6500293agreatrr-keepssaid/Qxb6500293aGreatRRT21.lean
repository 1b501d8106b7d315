import Derived.Test.Qxb6500293aGreatRRT20
namespace Go.Proofs.Qxb6500293aGreatRR
open Go.RowKit Go.Shelf
set_option linter.unusedVariables false
set_option linter.unusedSimpArgs false
attribute [local go_sem] Oper.semAt_some

set_option maxRecDepth 100000 in
set_option maxHeartbeats 4000000 in
theorem next_key (own : Nat → Nat) (x : Nat) (reps : List TabR) (count i : Nat) (k : V) (w : World) (H : RealAt own w x reps count) (hk : k.Ok) (hi : i < count) (hwk : wfB k = true) (hT : k.T ≠ 0) :
    CallsIn Fence.wide 3 Tryz.prog 115 #[.pointer (some ⟨x, 0, none⟩), .int .i64 (i : Int), valV k] w fun e w' => e = .returned (.tuple #[valV (nextP (stOf reps count) i k).1, valV (nextP (stOf reps count) i k).2.1, .int .i64 (nextP (stOf reps count) i k).2.2]) ∧ Below w.heap.size w w' := by
  obtain ⟨nb, vt, ht, hrow, hvc⟩ := H.tabs
  have hcl : count ≤ 12 := by have := H.cnt; have := H.max; omega
  have hsl := stOf_len H.cnt
  obtain ⟨r, hr2, hst⟩ := stOf_at H.cnt hi
  have hrl : count ≤ reps.length := H.cnt
  obtain ⟨hrep, hcls⟩ := H.rep i r hr2
  obtain ⟨A, cap, rfl, hta⟩ := tabAt_of hrow hr2 hrep
  have HW := fun w => wf_any k w hk
  rw [hwk] at HW
  have hX := ht.below (nW_below w k)
  obtain ⟨x0, x1, x2, _, _⟩ := hX
  have HNV : Hid (NV w (nW w k) k) := NV.new w k
  have HX : Hid (TabsAt w x (.pointer (some ⟨nb, 0, none⟩)) (.slice (some ⟨A, 0, none⟩) reps.length cap) count) := ht
  have HA : Hid (TabAt own w A i r) := hta
  have lA := hta.lt
  obtain ⟨T, N, S⟩ := k
  simp only [valV_mk] at *
  have HV7 : idx r.t (oneV ⟨T, N, S⟩) = none → nextP (stOf reps count) (i : Int) ⟨T, N, S⟩ = (nilV, nilV, 7) := by
    intro hh
    unfold nextP
    rw [hsl, if_neg (by omega), hwk, if_neg (by simp), Int.toNat_natCast, hst, if_pos ⟨hT, hh⟩]
  have HVn : ∀ q, idx r.t (oneV ⟨T, N, S⟩) = some q → (items r.t (q + 1) false r.t.length).head? = none → nextP (stOf reps count) (i : Int) ⟨T, N, S⟩ = (nilV, nilV, 0) := by
    intro q hq hh
    unfold nextP
    rw [hsl, if_neg (by omega), hwk, if_neg (by simp), Int.toNat_natCast, hst, if_neg (by rintro ⟨_, c⟩; rw [show idx ((some r.t).getD []) (oneV ⟨T, N, S⟩) = some q from hq] at c; cases c), if_neg hT, show idx ((some r.t).getD []) (oneV ⟨T, N, S⟩) = some q from hq]
    show (match (items r.t (q + 1) false r.t.length).head? with | some p => _ | none => _) = _
    rw [hh]
  have HVs : ∀ q, idx r.t (oneV ⟨T, N, S⟩) = some q → ∀ p, (items r.t (q + 1) false r.t.length).head? = some p → nextP (stOf reps count) (i : Int) ⟨T, N, S⟩ = ((r.t[p]?.getD dE).1, (r.t[p]?.getD dE).2, 0) := by
    intro q hq p hh
    unfold nextP
    rw [hsl, if_neg (by omega), hwk, if_neg (by simp), Int.toNat_natCast, hst, if_neg (by rintro ⟨_, c⟩; rw [show idx ((some r.t).getD []) (oneV ⟨T, N, S⟩) = some q from hq] at c; cases c), if_neg hT, show idx ((some r.t).getD []) (oneV ⟨T, N, S⟩) = some q from hq]
    show (match (items r.t (q + 1) false r.t.length).head? with | some p => _ | none => _) = _
    rw [hh]
    rfl
  have HLT : ∀ q, idx r.t (oneV ⟨T, N, S⟩) = some q → q < r.t.length := by
    intro q hq
    obtain ⟨e, he, _⟩ := idx_some hq
    exact (List.getElem?_eq_some_iff.1 he).1
  have HOv := fun w (ht : TabsAt w x (.pointer (some ⟨nb, 0, none⟩)) (.slice (some ⟨A, 0, none⟩) reps.length cap) count) => one_any x nb _ count ⟨T, N, S⟩ w ht hk.N
  have HFv := fun w (ht : TabAt own w A i r) => find_any own A i r (oneV ⟨T, N, S⟩) w ht (wf_oneV hwk) (N_oneV hk.N)
  rw [oneI_oneV] at HFv
  generalize hkk : oneV ⟨T, N, S⟩ = kk at *
  generalize hI : oneI ⟨T, N, S⟩ = I at *
  obtain ⟨T', N', S'⟩ := kk
  simp only [valV_mk] at HOv HFv
  generalize hO : idx r.t ⟨T', N', S'⟩ = o at *
  have dT : decide (T = 0) = false := decide_eq_false hT
  have bT : (T == 0) = false := by simpa using hT
  have hl32 : r.t.length ≤ 32 := hta.rep.inv.len
  have d1 : decide ((i : Int) < 0) = false := decide_eq_false (by omega)
  have d2 : decide ((count : Int) ≤ (i : Int)) = false := decide_eq_false (by omega)
  have d3 : decide (count ≤ i) = false := decide_eq_false (by omega)
  clear hrow hvc ht hrep hcls hta hwk hk H hkk hI hO
  generalize reps.length = rl at *
  refine callsIn_of_wp_marks Tryz.func115 rfl trivial ?_ rfl
  simp only [Tryz.ntmps115, List.size_toArray, List.length_cons, List.length_nil, Nat.reduceAdd, Nat.reduceSub, Array.replicate_succ, Array.replicate_zero, List.push_toArray, List.append_toArray, List.nil_append, List.cons_append]
  gi_wp2
  refine ⟨trivial, ?_⟩
  refine (callsIn_wide.2 (HW _)).mono ?_
  rintro e w1 ⟨rfl, hb⟩
  have hB := below_two (nW_below w ⟨T, N, S⟩) hb
  have HB : Hid (Below w.heap.size w w1) := hB
  have HNV1 : Hid (NV w w1 ⟨T, N, S⟩) := HNV.out.below hb
  obtain ⟨x0, x1, x2, _, _⟩ := HX.out.below hB
  obtain ⟨k0, k1, k2, _⟩ := HNV1.out.k0.cells
  simp only at k0 k1 k2
  clear hb hB
  gi_wp2
  refine ⟨trivial, ?_⟩
  refine (callsIn_wide.2 (HOv _ (HX.out.below HB.out))).mono ?_
  rintro e w2 ⟨rfl, hb2⟩
  have HB2 : Hid (Below w.heap.size w w2) := below_two HB.out hb2
  have HNV2 : Hid (NV w w2 ⟨T, N, S⟩) := HNV1.out.below hb2
  clear hb2
  have HVB := VB.new w2 ⟨T', N', S'⟩
  have HTA := HA.out.below (below_two HB2.out (below_one w2 (.cells #[.int .i64 T', .int .u64 N', .string ⟨S'.toArray⟩] 33)))
  have HF := HFv _ HTA
  have HBF : Hid (Below w.heap.size w (w2.alloc (.cells #[.int .i64 T', .int .u64 N', .string ⟨S'.toArray⟩] 33))) := below_two HB2.out (below_one w2 _)
  have HNVF : Hid (NV w (w2.alloc (.cells #[.int .i64 T', .int .u64 N', .string ⟨S'.toArray⟩] 33)) ⟨T, N, S⟩) := HNV2.out.below (below_one w2 _)
  clear HVB HTA
  gi_wp2
  refine ⟨trivial, ?_⟩
  refine (callsIn_wide.2 HF).mono ?_
  rintro e w3 ⟨rfl, hb3⟩
  have HB3 : Hid (Below w.heap.size w w3) := below_two HBF.out hb3
  have HNV3 : Hid (NV w w3 ⟨T, N, S⟩) := HNVF.out.below hb3
  clear hb3 HF HB2 HNV2 HOv HFv HW HB HNV1
  obtain ⟨⟨d0, d1, d2, z0, z1, z2⟩, ⟨d3, d4, d5, z3, z4, z5⟩, d6, z6⟩ := HNV3.out.cells
  cases o with
  | none =>
    simp only [plc]
    gi_wp2
    refine ⟨.tuple #[.agg #[.int .i64 0, .int .u64 0, .string ⟨#[]⟩], .agg #[.int .i64 0, .int .u64 0, .string ⟨#[]⟩], .int .i64 7], by simp [results, go_sem, d0, d1, d2, d3, d4, d5, d6], rfl, ?_⟩
    repeat (first | refine Below.setCell ?_ (Nat.le_add_right _ _) _ | refine Below.setCell ?_ (Nat.le_trans (Nat.le_add_right _ _) (Nat.le_add_right _ _)) _ | refine Below.setCell ?_ (Nat.le_trans (Nat.le_trans (Nat.le_add_right _ _) (Nat.le_add_right _ _)) (Nat.le_add_right _ _)) _)
    exact HB3.out
  | some q =>
    have hq := HLT q rfl
    simp only [plc]
    have dq : decide ((q : Int) < 0) = false := decide_eq_false (by omega)
    gi_wp2
    refine ⟨trivial, ?_⟩
    refine (callsIn_wide.2 (places_any A i (((q + 1 : Nat) : Int)) false _)).mono ?_
    rintro e w4 ⟨rfl, rfl⟩
    gi_wp2
    obtain ⟨W0, hW0⟩ : ∃ W0, ((w3.alloc (.cells #[.pointer (some ⟨A, i * 6, none⟩)] 119)).alloc (.cells #[.int .i64 ((q : Int) + 1)] 3)).alloc (.cells #[.bool false] 4) = W0 := ⟨_, rfl⟩
    have HL := loopAt HA.out HB3.out lA (NV.below HNV3.out) (q + 1) false hW0
    rw [hW0]
    clear hW0
    obtain ⟨hsz, hnv, hbw, hit, hbf⟩ := HL
    have hs1 := HB3.out.size
    have hs4 := hnv.lt
    refine wpIn_places 3 (by omega) own w.heap.size w3.heap.size A i r (q + 1) false 14 rfl hit hbf (by omega) (by have := HLT q rfl; omega) rfl (nI w ⟨T, N, S⟩) (nIx w r.t) (nI_own (by omega)) (nIx_own (by omega)) ⟨rfl, hnv, hbw⟩ ?assign ?body ?done ?stop
    case assign =>
      intro l x W K hK
      obtain ⟨ev, hev⟩ : ∃ ev, ev = r.t[x]?.getD dE := ⟨_, rfl⟩
      rw [← hev] at hK ⊢
      obtain ⟨⟨kT, kN, kS⟩, ⟨vT, vN, vS⟩⟩ := ev
      simp only [entV] at hK ⊢
      have HK : Hid (∀ a', _ → K a' _) := hK
      clear hK
      gi_wp2
      exact HK.out _ (by simp [boxedA])
    case body =>
      rintro l pre x Bx W a' ha hBx hbx hW ⟨rfl, hnv, hbw⟩ _
      obtain ⟨ev, hev⟩ : ∃ ev, ev = r.t[x]?.getD dE := ⟨_, rfl⟩
      rw [← hev] at ha hbx
      obtain ⟨⟨kT, kN, kS⟩, ⟨vT, vN, vS⟩⟩ := ev
      simp [boxedA, entV] at ha
      subst ha
      obtain ⟨⟨d0, d1, d2, z0, z1, z2⟩, ⟨d3, d4, d5, z3, z4, z5⟩, d6, z6⟩ := hnv.cells
      obtain ⟨b0, b1, b2, b3, b4, b5⟩ : W.cell? ⟨Bx, 0, none⟩ = some (.int .i64 kT) ∧ W.cell? ⟨Bx, 1, none⟩ = some (.int .u64 kN) ∧ W.cell? ⟨Bx, 2, none⟩ = some (.string ⟨kS.toArray⟩) ∧ W.cell? ⟨Bx, 3, none⟩ = some (.int .i64 vT) ∧ W.cell? ⟨Bx, 4, none⟩ = some (.int .u64 vN) ∧ W.cell? ⟨Bx, 5, none⟩ = some (.string ⟨vS.toArray⟩) := by
        simp [World.cell?, hbx]
      have n1 : ¬ Bx = w.heap.size + 1 := by omega
      have n2 : ¬ Bx = w.heap.size + 1 + 1 := by omega
      have n3 : ¬ Bx = w.heap.size + 1 + 1 + 1 := by omega
      have HR := fun W' => @nRound w W _ r.t x W0.heap.size kT vT kN vN kS vS hev hnv hbw W'
      clear hbx hev hit hbf HBF HNVF HB3 HNV3 HA HX HNV hsz hnv hbw
      gi_wp2
      gi_region
      all_goals gi_wp2
      all_goals exact HR _ rfl
    case done =>
      rintro D W hD ⟨hit0, hnv, hbw⟩ hK
      obtain ⟨⟨d0, d1, d2, z0, z1, z2⟩, ⟨d3, d4, d5, z3, z4, z5⟩, d6, z6⟩ := hnv.cells
      have HN : Hid (NV w W _ ∧ Below w.heap.size w W) := ⟨hnv, hbw⟩
      clear hit hbf HBF HNVF HB3 HNV3 HA HX HNV hsz hnv hbw
      gi_wp2
      have hit1 : (items r.t (q + 1) false r.t.length).head? = none := by rw [hit0]; rfl
      obtain ⟨e3, a3, b3, c3, b4⟩ := nCore (kT := 0) (vT := 0) (kN := 0) (vN := 0) (kS := []) (vS := []) HN.out.1 HN.out.2 _ rfl
      have hK := e3.same D _ hK rfl
      have hD : w.heap.size ≤ D := by omega
      refine ⟨by simp, .inl ⟨_, _, rfl, run_takeDeferred hK, ?_⟩⟩
      obtain ⟨a5, b5, c5, b6⟩ := nTaken hD hK a3 b3 c3 b4
      refine ⟨_, nRes rfl a5 b5 c5, ret_vvi (by rw [HVn q rfl hit1]; rfl) (by rw [HVn q rfl hit1]; rfl) (by rw [HVn q rfl hit1]), b6⟩
    case stop =>
      rintro D c pre W hD ⟨k, hk, rfl⟩ ⟨rfl, p, hp, q0, q1, q2, hb⟩ hK
      have HN : Hid (Below w.heap.size w W) := hb
      obtain ⟨d0, d1, d2, z0, z1, z2⟩ := q0.cells
      obtain ⟨d3, d4, d5, z3, z4, z5⟩ := q1.cells
      have d6 : W.cell? ⟨w.heap.size + 1 + 1 + 1, 0, none⟩ = some (.int .i64 0) := by simp [World.cell?, q2]
      clear hit hbf HBF HNVF HB3 HNV3 HA HX HNV hsz hnv hbw hb
      gi_wp2
      have hD : w.heap.size ≤ D := by omega
      refine ⟨by simp, .inl ⟨_, _, rfl, run_takeDeferred hK, ?_⟩⟩
      obtain ⟨a5, b5, c5, b6⟩ := nTaken hD hK q0 q1 q2 HN.out
      have hh := items_head hp _ hk
      refine ⟨_, nRes rfl a5 b5 c5, ret_vvi (by rw [HVs q rfl p hh]) (by rw [HVs q rfl p hh]) (by rw [HVs q rfl p hh]), b6⟩

/-- **Next.** -/
theorem next_any (own : Nat → Nat) (x : Nat) (reps : List TabR) (count : Nat) (h : Int) (k : V) (w : World) (H : RealAt own w x reps count) (hk : k.Ok) :
    Calls Tryz.prog 115 #[.pointer (some ⟨x, 0, none⟩), .int .i64 h, valV k] w fun e w' => e = .returned (.tuple #[valV (nextP (stOf reps count) h k).1, valV (nextP (stOf reps count) h k).2.1, .int .i64 (nextP (stOf reps count) h k).2.2]) ∧ Below w.heap.size w w' := by
  by_cases hE : (h < 0 ∨ (count : Int) ≤ h) ∨ wfB k = false
  · exact next_errs own x reps count h k w H hk hE
  have hwk : wfB k = true := by
    cases hc : wfB k
    · exact absurd (.inr hc) hE
    · rfl
  obtain ⟨i, rfl⟩ : ∃ i : Nat, h = (i : Int) := ⟨h.toNat, by omega⟩
  have hi : i < count := by omega
  by_cases hT : k.T = 0
  · exact callsIn_wide.1 (next_nil own x reps count i k w H hk hi hwk hT)
  · exact callsIn_wide.1 (next_key own x reps count i k w H hk hi hwk hT)
end Go.Proofs.Qxb6500293aGreatRR
