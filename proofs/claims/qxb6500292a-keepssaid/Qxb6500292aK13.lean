/-
  Owed walked.
-/
import Derived.Test.Qxb6500292aK9
namespace Go.Proofs.Qxb6500292a
open Go.RowKit
open Ieee (double)
set_option linter.unusedVariables false
set_option linter.unusedSimpArgs false

abbrev ansO (E N : Int) (Z : List UInt8) : Obj := .cells #[.int .i64 E, .int .i64 N, .int .i64 0, .string ⟨Z.toArray⟩, .string ⟨#[]⟩] 53
abbrev opO (K A B C : Int) (S T : List UInt8) : Obj := .cells #[.int .i64 K, .int .i64 A, .int .i64 B, .int .i64 C, .string ⟨S.toArray⟩, .string ⟨T.toArray⟩] 47
abbrev slO (h : Int) (k v : V) : Obj := .cells #[.int .i64 h, .int .i64 k.T, .int .u64 k.N, .string ⟨k.S.toArray⟩, .int .i64 v.T, .int .u64 v.N, .string ⟨v.S.toArray⟩] 91
/-- Owed's own five boxes. -/
abbrev odW (w : World) (nb mb : Value) (K A B C : Int) (S T : List UInt8) (E : Int) (h : Int) (k v : V) : World := ((((w.alloc (.cells #[nb, mb] 30)).alloc (opO K A B C S T)).alloc (.cells #[.int .i64 0, .int .i64 0, .int .i64 0, .string ⟨#[]⟩, .string ⟨#[]⟩] 53)).alloc (.cells #[.int .i64 E, .int .i64 0, .int .i64 0, .string ⟨#[]⟩, .string ⟨#[]⟩] 53)).alloc (slO h k v)
theorem five_below (w : World) (o1 o2 o3 o4 o5 : Obj) : Below w.heap.size w (((((w.alloc o1).alloc o2).alloc o3).alloc o4).alloc o5) := below_two (below_two (below_two (below_two (below_one _ _) (below_one _ _)) (below_one _ _)) (below_one _ _)) (below_one _ _)
theorem alloc_at (w : World) (o : Obj) (i : Nat) : (w.alloc o).heap[i]? = if i = w.heap.size then some o else w.heap[i]? := by
  show (w.heap.push o)[i]? = _
  rw [Array.getElem?_push]
theorem odW_cells {w W : World} {nb mb : Value} {K A B C : Int} {S T : List UInt8} {E h : Int} {k v : V} (hb : Below (odW w nb mb K A B C S T E h k v).heap.size (odW w nb mb K A B C S T E h k v) W) :
    Below w.heap.size w W ∧ w.heap.size + 5 ≤ W.heap.size ∧ (W.cell? ⟨w.heap.size + 1, 0, none⟩ = some (.int .i64 K) ∧ W.cell? ⟨w.heap.size + 1, 1, none⟩ = some (.int .i64 A)) ∧
    (W.cell? ⟨w.heap.size + 1 + 1, 0, none⟩ = some (.int .i64 0) ∧ W.cell? ⟨w.heap.size + 1 + 1, 1, none⟩ = some (.int .i64 0) ∧ W.cell? ⟨w.heap.size + 1 + 1, 2, none⟩ = some (.int .i64 0) ∧ W.cell? ⟨w.heap.size + 1 + 1, 3, none⟩ = some (.string ⟨#[]⟩) ∧ W.cell? ⟨w.heap.size + 1 + 1, 4, none⟩ = some (.string ⟨#[]⟩) ∧ ∀ j, W.frozen? ⟨w.heap.size + 1 + 1, j, none⟩ = false) ∧
    (W.cell? ⟨w.heap.size + 1 + 1 + 1, 0, none⟩ = some (.int .i64 E) ∧ W.cell? ⟨w.heap.size + 1 + 1 + 1, 1, none⟩ = some (.int .i64 0) ∧ W.cell? ⟨w.heap.size + 1 + 1 + 1, 2, none⟩ = some (.int .i64 0) ∧ W.cell? ⟨w.heap.size + 1 + 1 + 1, 3, none⟩ = some (.string ⟨#[]⟩) ∧ W.cell? ⟨w.heap.size + 1 + 1 + 1, 4, none⟩ = some (.string ⟨#[]⟩) ∧ ∀ j, W.frozen? ⟨w.heap.size + 1 + 1 + 1, j, none⟩ = false) := by
  have hs : (odW w nb mb K A B C S T E h k v).heap.size = w.heap.size + 5 := by simp
  have e1 : W.heap[w.heap.size + 1]? = some (opO K A B C S T) := (hb.block _ (by omega)).trans (by simp only [alloc_at, World.size_alloc]; simp)
  have e2 : W.heap[w.heap.size + 1 + 1]? = some (.cells #[.int .i64 0, .int .i64 0, .int .i64 0, .string ⟨#[]⟩, .string ⟨#[]⟩] 53) := (hb.block _ (by omega)).trans (by simp only [alloc_at, World.size_alloc]; simp)
  have e3 : W.heap[w.heap.size + 1 + 1 + 1]? = some (.cells #[.int .i64 E, .int .i64 0, .int .i64 0, .string ⟨#[]⟩, .string ⟨#[]⟩] 53) := (hb.block _ (by omega)).trans (by simp only [alloc_at, World.size_alloc]; simp)
  have hsz := hb.size
  refine ⟨below_two (five_below _ _ _ _ _ _) hb, by omega, ?_⟩
  simp [World.cell?, World.frozen?, e1, e2, e3]
set_option maxRecDepth 8000 in
set_option maxHeartbeats 3200000 in
theorem owed_get (nb mb : Value) (g : Nat) (st : List Tbl) (gs : Gs) (ad : Option Addr) (cp : Nat) (A B C : Int) (S T : List UInt8) (E : Int) (at' : Option Nat) (u : V) (w : World) (H : GRow w g st gs ad cp) (hu : ValOk u)
    (hc : (E ≠ 0 ∧ u = nilV) ∨ (E = 0 ∧ at' = none ∧ u = nilV) ∨ (E = 0 ∧ ∃ i s, at' = some i ∧ gs[i]? = some s ∧ u = s.2.2)) :
    Calls Try.prog 20 #[.agg #[nb, mb], .pointer (some ⟨g, 0, none⟩), opV 6 A B C S T, .int .i64 E, .int .i64 (plc at')] w fun e w' => e = .returned (ansV E 0 (showV u)) ∧ Below w.heap.size w w' := by
  have lg := H.lg
  have hne : ¬ g = w.heap.size := by omega
  have hne1 : ¬ g = w.heap.size + 1 := by omega
  have hne2 : ¬ g = w.heap.size + 1 + 1 := by omega
  have hne3 : ¬ g = w.heap.size + 1 + 1 + 1 := by omega
  have hne4 : ¬ g = w.heap.size + 1 + 1 + 1 + 1 := by omega
  have HSH := fun w => showVal_any u w hu.wf hu.N
  have HOD : Hid (∀ (h : Int) (k v : V) (W : World), Below (odW w nb mb 6 A B C S T E h k v).heap.size (odW w nb mb 6 A B C S T E h k v) W → _) := fun h k v W hb => odW_cells hb
  rw [opV_mk]
  rcases hc with ⟨hE, rfl⟩ | ⟨rfl, rfl, rfl⟩ | ⟨rfl, i, s, rfl, hs, rfl⟩
  · have bE : (E != 0) = true := by simpa using hE
    have bE2 : (E == 0) = false := by simpa using hE
    rw [show valV nilV = .agg #[.int .i64 0, .int .u64 0, .string ⟨#[]⟩] from rfl] at HSH
    generalize showV nilV = Z at *
    clear hE H hu
    generalize plc at' = pa at *
    go_enter Try.func20, Try.ntmps20
    go_wp2_with fail
    refine (HSH _).mono ?_; rintro e w1 ⟨rfl, hb⟩
    obtain ⟨hB, hsz, ⟨o0, o1⟩, ⟨r0, r1, r2, r3, r4, rf⟩, ⟨a0, a1, a2, a3, a4, af⟩⟩ := HOD.out 0 nilV nilV w1 hb
    have HB : Hid (Below w.heap.size w w1) := hB
    clear hb hB HOD
    go_wp2
    refine bodyPost_ret (v := ansV E 0 Z) (by simp [results, go_sem, r0, r1, r2, r3, r4]; rfl) rfl ?_
    refine ⟨rfl, ?_⟩
    repeat refine Below.setCell ?_ (by dsimp only; omega) _
    exact HB.out
  · rw [show valV nilV = .agg #[.int .i64 0, .int .u64 0, .string ⟨#[]⟩] from rfl] at HSH
    generalize showV nilV = Z at *
    clear H hu
    simp only [plc]
    go_enter Try.func20, Try.ntmps20
    go_wp2_with fail
    refine (HSH _).mono ?_; rintro e w1 ⟨rfl, hb⟩
    obtain ⟨hB, hsz, ⟨o0, o1⟩, ⟨r0, r1, r2, r3, r4, rf⟩, ⟨a0, a1, a2, a3, a4, af⟩⟩ := HOD.out 0 nilV nilV w1 hb
    have HB : Hid (Below w.heap.size w w1) := hB
    clear hb hB HOD
    go_wp2
    refine bodyPost_ret (v := ansV 0 0 Z) (by simp [results, go_sem, r0, r1, r2, r3, r4]; rfl) rfl ?_
    refine ⟨rfl, ?_⟩
    repeat refine Below.setCell ?_ (by dsimp only; omega) _
    exact HB.out
  · have hB5 := fun o1 o2 o3 o4 o5 => H.below (five_below w o1 o2 o3 o4 o5)
    have hcs := fun o1 o2 o3 o4 o5 => (hB5 o1 o2 o3 o4 o5).cs
    obtain ⟨b, rfl, hbl, hcp, _⟩ := H.ent i s hs
    have hil : i < gs.length := (List.getElem?_eq_some_iff.1 hs).1
    have hst : ∀ o1 o2 o3 o4 o5, _ := fun o1 o2 o3 o4 o5 => (hB5 o1 o2 o3 o4 o5).ent i s hs
    have he : ∀ o1 o2 o3 o4 o5, (((((w.alloc o1).alloc o2).alloc o3).alloc o4).alloc o5).cell? ⟨b, i * 7, none⟩ = some (.int .i64 (s.1 : Int)) ∧ ((((((w.alloc o1).alloc o2).alloc o3).alloc o4).alloc o5).cell? ⟨b, i * 7 + 1, none⟩ = some (.int .i64 s.2.1.T) ∧ (((((w.alloc o1).alloc o2).alloc o3).alloc o4).alloc o5).cell? ⟨b, i * 7 + 2, none⟩ = some (.int .u64 s.2.1.N) ∧ (((((w.alloc o1).alloc o2).alloc o3).alloc o4).alloc o5).cell? ⟨b, i * 7 + 3, none⟩ = some (.string ⟨s.2.1.S.toArray⟩)) ∧ (((((w.alloc o1).alloc o2).alloc o3).alloc o4).alloc o5).cell? ⟨b, i * 7 + 4, none⟩ = some (.int .i64 s.2.2.T) ∧ (((((w.alloc o1).alloc o2).alloc o3).alloc o4).alloc o5).cell? ⟨b, i * 7 + 5, none⟩ = some (.int .u64 s.2.2.N) ∧ (((((w.alloc o1).alloc o2).alloc o3).alloc o4).alloc o5).cell? ⟨b, i * 7 + 6, none⟩ = some (.string ⟨s.2.2.S.toArray⟩) := fun o1 o2 o3 o4 o5 => by
      obtain ⟨b', e1, _, _, h⟩ := hst o1 o2 o3 o4 o5
      cases e1
      exact h
    obtain ⟨sh, ⟨kT, kN, kS⟩, ⟨vT, vN, vS⟩⟩ := s
    simp only at he
    simp only [valV_mk] at HSH
    generalize showV ⟨vT, vN, vS⟩ = Z at *
    simp only [plc]
    have d0 : decide ((0 : Int) ≤ (i : Int)) = true := decide_eq_true (by omega)
    have hpz : ¬ (i : Int) < 0 := by omega
    generalize gs.length = gl at *
    clear H hu hs hst hB5
    go_enter Try.func20, Try.ntmps20
    go_wp2_with fail
    refine (HSH _).mono ?_; rintro e w1 ⟨rfl, hb⟩
    obtain ⟨hB, hsz, ⟨o0, o1⟩, ⟨r0, r1, r2, r3, r4, rf⟩, ⟨a0, a1, a2, a3, a4, af⟩⟩ := HOD.out sh ⟨kT, kN, kS⟩ ⟨vT, vN, vS⟩ w1 hb
    have HB : Hid (Below w.heap.size w w1) := hB
    clear hb hB HOD he hcs
    go_wp2
    refine bodyPost_ret (v := ansV 0 0 Z) (by simp [results, go_sem, r0, r1, r2, r3, r4]; rfl) rfl ?_
    refine ⟨rfl, ?_⟩
    repeat refine Below.setCell ?_ (by dsimp only; omega) _
    exact HB.out
set_option maxRecDepth 8000 in
set_option maxHeartbeats 3200000 in
theorem owed_next (nb mb : Value) (g : Nat) (st : List Tbl) (gs : Gs) (ad : Option Addr) (cp : Nat) (K A B C : Int) (S T : List UInt8) (E : Int) (at' : Option Nat) (w : World) (H : GRow w g st gs ad cp) (hl : gs.length ≤ 384) (hK : K = 8 ∨ K = 9) (hat : ∀ i, at' = some i → i < gs.length)
    (hok : ∀ s ∈ gs, KeyOk s.2.1 ∧ ValOk s.2.2) :
    Calls Try.prog 20 #[.agg #[nb, mb], .pointer (some ⟨g, 0, none⟩), opV K A B C S T, .int .i64 E, .int .i64 (plc at')] w fun e w' => (∃ j, LiveAt gs A (fromG at') j ∧ e = .returned (ansV E 0 (if E = 0 then pairV (gs[j]?.getD (0, dE)).2.1 (gs[j]?.getD (0, dE)).2.2 else pairV nilV nilV))) ∧ Below w.heap.size w w' := by
  have lg := H.lg
  have hne : ¬ g = w.heap.size := by omega
  have hne1 : ¬ g = w.heap.size + 1 := by omega
  have hne2 : ¬ g = w.heap.size + 1 + 1 := by omega
  have hne3 : ¬ g = w.heap.size + 1 + 1 + 1 := by omega
  have hne4 : ¬ g = w.heap.size + 1 + 1 + 1 + 1 := by omega
  have hfr : fromG at' ≤ gs.length := by
    cases at' with
    | none => exact Nat.zero_le _
    | some i => exact hat i rfl
  have hpl : plc at' + 1 = (fromG at' : Int) := by
    cases at' with
    | none => rfl
    | some i => simp [plc, fromG]
  have HLV := fun W (hb : Below w.heap.size w W) => live_any g st gs ad cp A (fromG at') W (H.below hb) hl hfr
  have HR : Hid (GRow w g st gs ad cp) := H
  have HOD : Hid (∀ (h : Int) (k v : V) (W : World), Below (odW w nb mb K A B C S T E h k v).heap.size (odW w nb mb K A B C S T E h k v) W → _) := fun h k v W hb => odW_cells hb
  have HF : Hid (∀ o1 o2 o3 o4 o5, Below w.heap.size w (((((w.alloc o1).alloc o2).alloc o3).alloc o4).alloc o5)) := five_below w
  have HOK : Hid (∀ s ∈ gs, KeyOk s.2.1 ∧ ValOk s.2.2) := hok
  have hcs := fun o1 o2 o3 o4 o5 => (H.below (five_below w o1 o2 o3 o4 o5)).cs
  rw [opV_mk]
  have q3 : (K == 3) = false := by rw [beq_eq_false_iff_ne]; omega
  have q5 : (K == 5) = false := by rw [beq_eq_false_iff_ne]; omega
  have q12 : (K == 12) = false := by rw [beq_eq_false_iff_ne]; omega
  have q6 : (K == 6) = false := by rw [beq_eq_false_iff_ne]; omega
  have q10 : (K == 10) = false := by rw [beq_eq_false_iff_ne]; omega
  have q89 : ((K == 8) = true) ∨ ((K == 8) = false ∧ (K == 9) = true) := by
    rcases hK with rfl | rfl
    · exact .inl rfl
    · exact .inr ⟨rfl, rfl⟩
  clear H hat hK hok
  generalize plc at' = pa at *
  generalize fromG at' = fr at *
  rcases q89 with q8 | ⟨q8, q9⟩
  all_goals
    go_enter Try.func20, Try.ntmps20
    go_wp2_with fail
    refine (HLV _ (HF.out _ _ _ _ _)).mono ?_; rintro e w1 ⟨⟨j, rfl, hlv⟩, rfl⟩
    have HL : Hid (LiveAt gs A fr j) := hlv
    clear hlv HLV
    by_cases hE : E = 0
    · subst hE
      by_cases hj : j < gs.length
      · obtain ⟨s, hs⟩ : ∃ s, gs[j]? = some s := ⟨_, List.getElem?_eq_getElem hj⟩
        obtain ⟨b, rfl, hbl, hcp, _⟩ := HR.out.ent j s hs
        have he : ∀ o1 o2 o3 o4 o5, (((((w.alloc o1).alloc o2).alloc o3).alloc o4).alloc o5).cell? ⟨b, j * 7, none⟩ = some (.int .i64 (s.1 : Int)) ∧ ((((((w.alloc o1).alloc o2).alloc o3).alloc o4).alloc o5).cell? ⟨b, j * 7 + 1, none⟩ = some (.int .i64 s.2.1.T) ∧ (((((w.alloc o1).alloc o2).alloc o3).alloc o4).alloc o5).cell? ⟨b, j * 7 + 2, none⟩ = some (.int .u64 s.2.1.N) ∧ (((((w.alloc o1).alloc o2).alloc o3).alloc o4).alloc o5).cell? ⟨b, j * 7 + 3, none⟩ = some (.string ⟨s.2.1.S.toArray⟩)) ∧ (((((w.alloc o1).alloc o2).alloc o3).alloc o4).alloc o5).cell? ⟨b, j * 7 + 4, none⟩ = some (.int .i64 s.2.2.T) ∧ (((((w.alloc o1).alloc o2).alloc o3).alloc o4).alloc o5).cell? ⟨b, j * 7 + 5, none⟩ = some (.int .u64 s.2.2.N) ∧ (((((w.alloc o1).alloc o2).alloc o3).alloc o4).alloc o5).cell? ⟨b, j * 7 + 6, none⟩ = some (.string ⟨s.2.2.S.toArray⟩) := fun o1 o2 o3 o4 o5 => by
          obtain ⟨b', e1, _, _, h⟩ := (HR.out.below (HF.out o1 o2 o3 o4 o5)).ent j s hs
          cases e1
          exact h
        have hso := HOK.out s (List.mem_of_getElem? hs)
        have HPR := fun w => pair_any s.2.1 s.2.2 w ⟨hso.1.wf, hso.1.N⟩ hso.2
        have HV : Hid (pairV (gs[j]?.getD (0, dE)).2.1 (gs[j]?.getD (0, dE)).2.2 = pairV s.2.1 s.2.2) := by show _ = _; rw [hs]; rfl
        have dj : decide ((j : Int) < (gs.length : Int)) = true := decide_eq_true (by omega)
        obtain ⟨sh, ⟨kT, kN, kS⟩, ⟨vT, vN, vS⟩⟩ := s
        simp only at he HV
        simp only [valV_mk] at HPR
        generalize pairV ⟨kT, kN, kS⟩ ⟨vT, vN, vS⟩ = Z at *
        clear hs hso
        have hlg : gs.length ≤ 384 := hl
        generalize hgl : gs.length = gl at *
        go_wp2_with fail
        refine (HPR _).mono ?_; rintro e w2 ⟨rfl, hb⟩
        obtain ⟨hB, hsz, ⟨o0, o1⟩, ⟨r0, r1, r2, r3, r4, rf⟩, ⟨a0, a1, a2, a3, a4, af⟩⟩ := HOD.out sh ⟨kT, kN, kS⟩ ⟨vT, vN, vS⟩ w2 hb
        have HB : Hid (Below w.heap.size w w2) := hB
        clear hb hB HOD
        go_wp2
        refine bodyPost_ret (v := ansV 0 0 Z) (by simp [results, go_sem, r0, r1, r2, r3, r4]; rfl) rfl ?_
        refine ⟨⟨j, HL.out, by first | rw [HV.out] | rw [if_pos rfl, HV.out]⟩, ?_⟩
        repeat refine Below.setCell ?_ (by dsimp only; omega) _
        exact HB.out
      · have hgn : gs[j]? = none := List.getElem?_eq_none (by omega)
        have HV : Hid (pairV (gs[j]?.getD (0, dE)).2.1 (gs[j]?.getD (0, dE)).2.2 = pairV nilV nilV) := by show _ = _; rw [hgn]; rfl
        have dj : decide ((j : Int) < (gs.length : Int)) = false := decide_eq_false (by omega)
        have HPR := fun w => pair_any nilV nilV w nil_ok nil_ok
        rw [show valV nilV = .agg #[.int .i64 0, .int .u64 0, .string ⟨#[]⟩] from rfl] at HPR
        generalize pairV nilV nilV = Z at *
        generalize hgl : gs.length = gl at *
        go_wp2_with fail
        refine (HPR _).mono ?_; rintro e w2 ⟨rfl, hb⟩
        obtain ⟨hB, hsz, ⟨o0, o1⟩, ⟨r0, r1, r2, r3, r4, rf⟩, ⟨a0, a1, a2, a3, a4, af⟩⟩ := HOD.out 0 nilV nilV w2 hb
        have HB : Hid (Below w.heap.size w w2) := hB
        clear hb hB HOD
        go_wp2
        refine bodyPost_ret (v := ansV 0 0 Z) (by simp [results, go_sem, r0, r1, r2, r3, r4]; rfl) rfl ?_
        refine ⟨⟨j, HL.out, by first | rw [HV.out] | rw [if_pos rfl, HV.out]⟩, ?_⟩
        repeat refine Below.setCell ?_ (by dsimp only; omega) _
        exact HB.out
    · have HV : Hid (¬ E = 0) := hE
      have bE : (E != 0) = true := by simpa using hE
      have bE2 : (E == 0) = false := by simpa using hE
      have HPR := fun w => pair_any nilV nilV w nil_ok nil_ok
      rw [show valV nilV = .agg #[.int .i64 0, .int .u64 0, .string ⟨#[]⟩] from rfl] at HPR
      obtain ⟨Z, hZ⟩ : ∃ Z, Z = pairV nilV nilV := ⟨_, rfl⟩
      rw [← hZ] at HPR
      have HZ : Hid (Z = pairV nilV nilV) := hZ
      clear hE hZ
      generalize hgl : gs.length = gl at *
      go_wp2_with fail
      refine (HPR _).mono ?_; rintro e w2 ⟨rfl, hb⟩
      obtain ⟨hB, hsz, ⟨o0, o1⟩, ⟨r0, r1, r2, r3, r4, rf⟩, ⟨a0, a1, a2, a3, a4, af⟩⟩ := HOD.out 0 nilV nilV w2 hb
      have HB : Hid (Below w.heap.size w w2) := hB
      clear hb hB HOD
      go_wp2
      refine bodyPost_ret (v := ansV E 0 Z) (by simp [results, go_sem, r0, r1, r2, r3, r4]; rfl) rfl ?_
      refine ⟨⟨⟨j, HL.out⟩, by rw [HZ.out]⟩, ?_⟩
      repeat refine Below.setCell ?_ (by dsimp only; omega) _
      exact HB.out
set_option maxRecDepth 8000 in
set_option maxHeartbeats 3200000 in
theorem owed_len (nb mb : Value) (g : Nat) (st : List Tbl) (gs : Gs) (ad : Option Addr) (cp : Nat) (A B C : Int) (S T : List UInt8) (E : Int) (a : Int) (w : World) (H : GRow w g st gs ad cp) (hrel : GRel st gs) (hG : GoodSt st) (hl : gs.length ≤ 384) :
    Calls Try.prog 20 #[.agg #[nb, mb], .pointer (some ⟨g, 0, none⟩), opV 10 A B C S T, .int .i64 E, .int .i64 a] w fun e w' => (∃ n : Nat, borderP st gs A n ∧ e = .returned (ansV E (if E = 0 then (n : Int) else -1) [])) ∧ Below w.heap.size w w' := by
  have lg := H.lg
  have hne : ¬ g = w.heap.size := by omega
  have HBD := fun W (hb : Below w.heap.size w W) => border_any nb mb g st gs ad cp A W (H.below hb) hrel hG hl
  have HOD : Hid (∀ (h : Int) (k v : V) (W : World), Below (odW w nb mb 10 A B C S T E h k v).heap.size (odW w nb mb 10 A B C S T E h k v) W → _) := fun h k v W hb => odW_cells hb
  have HF : Hid (∀ o1 o2 o3 o4 o5, Below w.heap.size w (((((w.alloc o1).alloc o2).alloc o3).alloc o4).alloc o5)) := five_below w
  rw [opV_mk]
  clear H hrel hG
  go_enter Try.func20, Try.ntmps20
  go_wp2_with fail
  refine (HBD _ (HF.out _ _ _ _ _)).mono ?_; rintro e w2 ⟨⟨n, rfl, hbp⟩, hb⟩
  have HP : Hid (borderP st gs A n) := hbp
  obtain ⟨hB, hsz, ⟨o0, o1⟩, ⟨r0, r1, r2, r3, r4, rf⟩, ⟨a0, a1, a2, a3, a4, af⟩⟩ := HOD.out 0 nilV nilV w2 hb
  have HB : Hid (Below w.heap.size w w2) := hB
  clear hb hB HOD hbp HBD
  by_cases hE : E = 0
  · subst hE
    go_wp2
    refine bodyPost_ret (v := ansV 0 n []) (by simp [results, go_sem, r0, r1, r2, r3, r4]; rfl) rfl ?_
    refine ⟨⟨n, HP.out, by first | rfl | rw [if_pos rfl]⟩, ?_⟩
    repeat refine Below.setCell ?_ (by dsimp only; omega) _
    exact HB.out
  · have bE : (E != 0) = true := by simpa using hE
    have HE : Hid (¬ E = 0) := hE
    clear hE
    go_wp2
    refine bodyPost_ret (v := ansV E (-1) []) (by simp [results, go_sem, r0, r1, r2, r3, r4]; rfl) rfl ?_
    refine ⟨by first | exact ⟨n, HP.out, by rw [if_neg HE.out]⟩ | exact ⟨⟨n, HP.out⟩, rfl⟩, ?_⟩
    repeat refine Below.setCell ?_ (by dsimp only; omega) _
    exact HB.out
set_option maxRecDepth 8000 in
set_option maxHeartbeats 3200000 in
theorem owed_rest (nb mb : Value) (g : Nat) (st : List Tbl) (gs : Gs) (ad : Option Addr) (cp : Nat) (K A B C : Int) (S T : List UInt8) (E : Int) (a : Int) (w : World) (H : GRow w g st gs ad cp) (hK : K ≠ 6 ∧ K ≠ 8 ∧ K ≠ 9 ∧ K ≠ 10) :
    Calls Try.prog 20 #[.agg #[nb, mb], .pointer (some ⟨g, 0, none⟩), opV K A B C S T, .int .i64 E, .int .i64 a] w fun e w' => e = .returned (ansV E (if K = 3 then (if E = 0 then (st.length : Int) else -1) else if K = 5 then (st.length : Int) else if K = 12 then 1 else 0) []) ∧ Below w.heap.size w w' := by
  have lg := H.lg
  have hne : ¬ g = w.heap.size := by omega
  have hne1 : ¬ g = w.heap.size + 1 := by omega
  have hne2 : ¬ g = w.heap.size + 1 + 1 := by omega
  have hne3 : ¬ g = w.heap.size + 1 + 1 + 1 := by omega
  have hne4 : ¬ g = w.heap.size + 1 + 1 + 1 + 1 := by omega
  have c0 := H.c0
  have HC : Hid (∀ o1 o2 o3 o4 o5, (((((w.alloc o1).alloc o2).alloc o3).alloc o4).alloc o5).cell? ⟨g, 0, none⟩ = some (.int .i64 (st.length : Int))) := fun o1 o2 o3 o4 o5 => ((five_below w o1 o2 o3 o4 o5).cell (p := ⟨g, 0, none⟩) lg).trans c0
  have hcc := HC.out
  rw [opV_mk]
  clear H
  have hEE : (E = 0) ∨ (E ≠ 0 ∧ (E != 0) = true) := by
    by_cases h : E = 0
    · exact .inl h
    · exact .inr ⟨h, by simpa using h⟩
  generalize st.length = sl at *
  rcases (by omega : K = 3 ∨ K = 5 ∨ K = 12 ∨ (K ≠ 3 ∧ K ≠ 5 ∧ K ≠ 12)) with rfl | rfl | rfl | hr
  · rcases hEE with rfl | ⟨hE, bE⟩
    · go_enter Try.func20, Try.ntmps20
      go_wp2
      refine bodyPost_ret (v := ansV 0 sl []) (by simp [results, go_sem]; rfl) rfl ?_
      exact ⟨rfl, five_below _ _ _ _ _ _⟩
    · rw [if_pos rfl, if_neg hE]
      clear hE
      go_enter Try.func20, Try.ntmps20
      go_wp2
      refine bodyPost_ret (v := ansV E (-1) []) (by simp [results, go_sem]; rfl) rfl ?_
      exact ⟨rfl, five_below _ _ _ _ _ _⟩
  · rcases hEE with rfl | ⟨hE, bE⟩
    all_goals
      try clear hE
      go_enter Try.func20, Try.ntmps20
      go_wp2
      refine bodyPost_ret (v := ansV _ sl []) (by simp [results, go_sem]; rfl) rfl ?_
      exact ⟨rfl, five_below _ _ _ _ _ _⟩
  · rcases hEE with rfl | ⟨hE, bE⟩
    all_goals
      try clear hE
      go_enter Try.func20, Try.ntmps20
      go_wp2
      refine bodyPost_ret (v := ansV _ 1 []) (by simp [results, go_sem]; rfl) rfl ?_
      exact ⟨rfl, five_below _ _ _ _ _ _⟩
  · rw [if_neg hr.1, if_neg hr.2.1, if_neg hr.2.2]
    have q3 : (K == 3) = false := by rw [beq_eq_false_iff_ne]; omega
    have q5 : (K == 5) = false := by rw [beq_eq_false_iff_ne]; omega
    have q12 : (K == 12) = false := by rw [beq_eq_false_iff_ne]; omega
    have q6 : (K == 6) = false := by rw [beq_eq_false_iff_ne]; omega
    have q8 : (K == 8) = false := by rw [beq_eq_false_iff_ne]; omega
    have q9 : (K == 9) = false := by rw [beq_eq_false_iff_ne]; omega
    have q10 : (K == 10) = false := by rw [beq_eq_false_iff_ne]; omega
    clear hr hK
    rcases hEE with rfl | ⟨hE, bE⟩
    all_goals
      try clear hE
      go_enter Try.func20, Try.ntmps20
      go_wp2
      refine bodyPost_ret (v := ansV _ 0 []) (by simp [results, go_sem]; rfl) rfl ?_
      exact ⟨rfl, five_below _ _ _ _ _ _⟩
end Go.Proofs.Qxb6500292a
