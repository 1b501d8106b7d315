/-
  THE GHOST IN MEMORY; OneKey, Find, Live, Bits walked.
-/
import Derived.Test.Qxb6500292aK3
namespace Go.Proofs.Qxb6500292a
open Go.RowKit
open Ieee (double)
set_option linter.unusedVariables false
set_option linter.unusedSimpArgs false

def slotC (s : Nat × (V × V)) : List Value := [.int .i64 (s.1 : Int), .int .i64 s.2.1.T, .int .u64 s.2.1.N, .string ⟨s.2.1.S.toArray⟩, .int .i64 s.2.2.T, .int .u64 s.2.2.N, .string ⟨s.2.2.S.toArray⟩]
theorem slotC_len (s : Nat × (V × V)) : (slotC s).length = 7 := rfl
def ghC (st : List Tbl) (vs : Value) : List Value := .int .i64 (st.length : Int) :: ((List.range 12).map (fun h => Value.int .i64 ((st[h]?.getD []).length : Int)) ++ [vs])
/-- THE GHOST. -/
structure GhAt (own : Nat → Nat) (w : World) (g : Nat) (st : List Tbl) (gs : Gs) : Prop where
  tabs : ∃ vs, w.heap[g]? = some (.cells (ghC st vs).toArray 38) ∧ w.ownsRow 0 91 7 vs gs.length (gs.flatMap slotC) ∧ ∀ b, vs.ownBlock = some b → own b = 301
  gc : own g = 300
  rel : GRel st gs
  max : st.length ≤ 12
theorem flat7 {α : Type} (f : α → List Value) (hf : ∀ a, (f a).length = 7) : ∀ (l : List α) (h : Nat) (a : α), l[h]? = some a → ∀ j, j < 7 → (l.flatMap f)[h * 7 + j]? = (f a)[j]?
  | [], h, a, hl, j, hj => by simp at hl
  | b :: l, 0, a, hl, j, hj => by
    simp at hl
    subst hl
    rw [List.flatMap_cons, List.getElem?_append_left (by rw [hf]; omega)]
    simp
  | b :: l, h + 1, a, hl, j, hj => by
    simp at hl
    rw [List.flatMap_cons, List.getElem?_append_right (by rw [hf]; omega), hf, show (h + 1) * 7 + j - 7 = h * 7 + j from by omega]
    exact flat7 f hf l h a hl j hj
theorem GhAt.lt {own : Nat → Nat} {w : World} {g : Nat} {st : List Tbl} {gs : Gs} (H : GhAt own w g st gs) : g < w.heap.size := by
  obtain ⟨vs, h1, _⟩ := H.tabs
  exact (Array.getElem?_eq_some_iff.1 h1).1
theorem GhAt.kept {own own' : Nat → Nat} {w w' : World} {g : Nat} {st : List Tbl} {gs : Gs} (H : GhAt own w g st gs) (hk : ∀ k, k < w.heap.size → 300 ≤ own k → own k < 302 → w'.heap[k]? = w.heap[k]?) (ho : ∀ k, k < w.heap.size → own' k = own k) : GhAt own' w' g st gs := by
  obtain ⟨vs, h1, h2, h3⟩ := H.tabs
  refine ⟨⟨vs, (hk g H.lt (by rw [H.gc]; omega) (by rw [H.gc]; omega)).trans h1, ownsRow_block h2 (fun b hb => hk b (ownsRow_lt h2 b hb) (by rw [h3 b hb]; omega) (by rw [h3 b hb]; omega)), fun b hb => (ho b (ownsRow_lt h2 b hb)).trans (h3 b hb)⟩, (ho g H.lt).trans H.gc, H.rel, H.max⟩
theorem GhAt.below {own : Nat → Nat} {w w' : World} {g : Nat} {st : List Tbl} {gs : Gs} (H : GhAt own w g st gs) (hb : Below w.heap.size w w') : GhAt own w' g st gs :=
  H.kept (fun k hk _ _ => hb.block k hk) (fun _ _ => rfl)
/-- The ghost as a walk meets it. -/
structure GRow (w : World) (g : Nat) (st : List Tbl) (gs : Gs) (ad : Option Addr) (cp : Nat) : Prop where
  c0 : w.cell? ⟨g, 0, none⟩ = some (.int .i64 (st.length : Int))
  cs : w.cell? ⟨g, 13, none⟩ = some (.slice ad gs.length cp)
  ch : ∀ h, h < 12 → w.cell? ⟨g, 1 + h, none⟩ = some (.int .i64 ((st[h]?.getD []).length : Int))
  ent : ∀ i s, gs[i]? = some s → ∃ b, ad = some ⟨b, 0, none⟩ ∧ b < w.heap.size ∧ gs.length ≤ cp ∧ w.cell? ⟨b, i * 7, none⟩ = some (.int .i64 (s.1 : Int)) ∧ (w.cell? ⟨b, i * 7 + 1, none⟩ = some (.int .i64 s.2.1.T) ∧ w.cell? ⟨b, i * 7 + 2, none⟩ = some (.int .u64 s.2.1.N) ∧ w.cell? ⟨b, i * 7 + 3, none⟩ = some (.string ⟨s.2.1.S.toArray⟩)) ∧ w.cell? ⟨b, i * 7 + 4, none⟩ = some (.int .i64 s.2.2.T) ∧ w.cell? ⟨b, i * 7 + 5, none⟩ = some (.int .u64 s.2.2.N) ∧ w.cell? ⟨b, i * 7 + 6, none⟩ = some (.string ⟨s.2.2.S.toArray⟩)
  lg : g < w.heap.size
theorem ghC_at (st : List Tbl) (vs : Value) : (ghC st vs)[0]? = some (.int .i64 (st.length : Int)) ∧ (ghC st vs)[13]? = some vs ∧ ∀ h, h < 12 → (ghC st vs)[1 + h]? = some (.int .i64 ((st[h]?.getD []).length : Int)) := by
  refine ⟨rfl, ?_, ?_⟩
  · unfold ghC
    rw [List.getElem?_cons_succ, List.getElem?_append_right (by simp)]
    simp
  · intro h hh
    unfold ghC
    rw [Nat.add_comm, List.getElem?_cons_succ, List.getElem?_append_left (by simpa using hh), List.getElem?_map, List.getElem?_range hh]
    rfl
theorem GhAt.row {own : Nat → Nat} {w : World} {g : Nat} {st : List Tbl} {gs : Gs} (H : GhAt own w g st gs) : ∃ ad cp, GRow w g st gs ad cp := by
  obtain ⟨vs, h1, h2, h3⟩ := H.tabs
  obtain ⟨ad, cp, hv⟩ := row_slice h2
  obtain ⟨a0, a1, a2⟩ := ghC_at st vs
  have hc : ∀ j u, (ghC st vs)[j]? = some u → w.cell? ⟨g, j, none⟩ = some u := fun j u hu => by simp [World.cell?, h1, hu]
  refine ⟨ad, cp, hc 0 _ a0, by rw [← hv]; exact hc 13 _ a1, fun h hh => hc _ _ (a2 h hh), ?_, H.lt⟩
  intro i s hs
  have c := fun j hj => flat7 slotC slotC_len gs i s hs j hj
  obtain ⟨b, c0, hv0, hl, hb, k0⟩ := row_cell h2 (c 0 (by omega))
  rw [hv] at hv0
  cases hv0
  have kk : ∀ j, j < 7 → ∀ x, (slotC s)[j]? = some x → w.cell? ⟨b, i * 7 + j, none⟩ = some x := by
    intro j hj x hx
    obtain ⟨b', c', hv', _, _, k1⟩ := row_cell h2 ((c j hj).trans hx)
    rw [hv] at hv'
    cases hv'
    exact k1
  exact ⟨b, rfl, hb, hl, k0, ⟨kk 1 (by omega) _ rfl, kk 2 (by omega) _ rfl, kk 3 (by omega) _ rfl⟩, kk 4 (by omega) _ rfl, kk 5 (by omega) _ rfl, kk 6 (by omega) _ rfl⟩
theorem GRow.below {w w' : World} {g : Nat} {st : List Tbl} {gs : Gs} {ad : Option Addr} {cp : Nat} (H : GRow w g st gs ad cp) (hb : Below w.heap.size w w') : GRow w' g st gs ad cp := by
  have hs := hb.size
  have hc : ∀ j, w'.cell? ⟨g, j, none⟩ = w.cell? ⟨g, j, none⟩ := fun j => hb.cell (p := ⟨g, j, none⟩) H.lg
  refine ⟨(hc _).trans H.c0, (hc _).trans H.cs, fun h hh => (hc _).trans (H.ch h hh), fun i s he => ?_, by have := H.lg; omega⟩
  obtain ⟨b, e1, e2, e3, k0, ⟨k1, k2, k3⟩, k4, k5, k6⟩ := H.ent i s he
  have hd : ∀ j, w'.cell? ⟨b, j, none⟩ = w.cell? ⟨b, j, none⟩ := fun j => hb.cell (p := ⟨b, j, none⟩) e2
  exact ⟨b, e1, by omega, e3, (hd _).trans k0, ⟨(hd _).trans k1, (hd _).trans k2, (hd _).trans k3⟩, (hd _).trans k4, (hd _).trans k5, (hd _).trans k6⟩
theorem filt_lt (gs : Gs) (n : Nat) : (gs.filter (fun s => decide (s.1 < n + 1))).length ≤ (gs.filter (fun s => decide (s.1 < n))).length + (gs.filter (fun s => decide (s.1 = n))).length := by
  induction gs with
  | nil => simp
  | cons s gs ih =>
    simp only [List.filter_cons]
    by_cases c1 : s.1 < n
    · simp [c1, show s.1 < n + 1 by omega, show ¬ s.1 = n by omega]; omega
    · by_cases c2 : s.1 = n
      · simp [c2]; omega
      · simp [c1, c2, show ¬ s.1 < n + 1 by omega]; exact ih
/-- The ghost has at most 384 slots. -/
theorem gs_len {st : List Tbl} {gs : Gs} (H : GRel st gs) (hG : GoodSt st) (hm : st.length ≤ 12) : gs.length ≤ 384 := by
  have key : ∀ n, n ≤ st.length → (gs.filter (fun s => decide (s.1 < n))).length ≤ 32 * n := by
    intro n
    induction n with
    | zero => intro _; simp
    | succ n ih =>
      intro hn
      have ih := ih (by omega)
      obtain ⟨t, ht, _⟩ := st_at (st := st) (h := n) (by omega)
      obtain ⟨a, hinv⟩ := hG.at ht
      have e := H.tab n t ht
      have hl := hinv.len
      rw [← e] at hl
      unfold ofT at hl
      rw [List.length_map] at hl
      have := filt_lt gs n
      omega
  have h1 := key st.length (Nat.le_refl _)
  have h2 : gs.filter (fun s => decide (s.1 < st.length)) = gs := by
    rw [List.filter_eq_self]
    intro s hs
    simpa using H.low s hs
  rw [h2] at h1
  omega
set_option maxHeartbeats 800000 in
theorem oneKey_any (k : V) (w : World) (hk : k.N < 18446744073709551616) : Calls Try.prog 17 #[valV k] w fun e w' => e = .returned (valV (oneV k)) ∧ Below w.heap.size w w' := by
  unfold oneV
  obtain ⟨T, N, S⟩ := k
  simp only at *
  by_cases c : T = 2 ∧ N = 9223372036854775808
  · rw [if_pos c]
    obtain ⟨rfl, rfl⟩ := c
    rw [valV_mk, valV_mk]
    go_enter Try.func17, Try.ntmps17
    go_wp2
    refine bodyPost_ret (v := .agg #[.int .i64 2, .int .u64 0, .string ⟨S.toArray⟩]) (by simp [results, go_sem]) rfl ?_
    refine ⟨rfl, ?_⟩
    repeat (first | refine Below.setCell ?_ (Nat.le_add_right _ _) _ | refine below_set0 ?_ _ _ | refine below_drewN ?_ _)
    exact (below_one _ _).alloc (by simp) _
  · rw [if_neg c, valV_mk]
    by_cases c2 : T = 2
    · subst c2
      have cn : ¬ (N : Int) = 9223372036854775808 := by intro h; exact c ⟨rfl, by omega⟩
      have bn : ((N : Int) == 9223372036854775808) = false := by simpa using cn
      have dn : decide ((N : Int) = 9223372036854775808) = false := decide_eq_false cn
      have en : decide (N = 9223372036854775808) = false := decide_eq_false (fun h => c ⟨rfl, h⟩)
      clear c cn
      go_enter Try.func17, Try.ntmps17
      go_wp2
      refine bodyPost_ret (v := .agg #[.int .i64 2, .int .u64 N, .string ⟨S.toArray⟩]) (by simp [results, go_sem]) rfl ?_
      refine ⟨rfl, ?_⟩
      repeat (first | refine Below.setCell ?_ (Nat.le_add_right _ _) _ | refine below_set0 ?_ _ _ | refine below_drewN ?_ _)
      exact (below_one _ _).alloc (by simp) _
    · have b2 : (T == 2) = false := by simpa using c2
      clear c c2
      go_enter Try.func17, Try.ntmps17
      go_wp2
      refine bodyPost_ret (v := .agg #[.int .i64 T, .int .u64 N, .string ⟨S.toArray⟩]) (by simp [results, go_sem]) rfl ?_
      refine ⟨rfl, ?_⟩
      repeat (first | refine Below.setCell ?_ (Nat.le_add_right _ _) _ | refine below_set0 ?_ _ _ | refine below_drewN ?_ _)
      exact (below_one _ _).alloc (by simp) _
set_option maxHeartbeats 800000 in
theorem bits_any (nb mb : Value) (i : Int) (w : World) : Calls Try.prog 49 #[.agg #[nb, mb], .int .i64 i] w fun e w' => e = .returned (.int .u64 (double.nearest (decide (i < 0)) i.natAbs 0 : Nat)) ∧ Below w.heap.size w w' := by
  have H := fun p w => fromInt_any p i w
  go_enter Try.func49, Try.ntmps49
  go_wp2_with fail
  refine (H _ _).mono ?_; rintro e w1 ⟨rfl, rfl⟩
  go_wp2
  go_ret
  exact ⟨rfl, below_one _ _⟩
set_option maxRecDepth 8000 in
set_option maxHeartbeats 3200000 in
theorem gfind_any (g : Nat) (st : List Tbl) (gs : Gs) (ad : Option Addr) (cp : Nat) (h : Int) (k : V) (w : World) (H : GRow w g st gs ad cp) (hl : gs.length ≤ 384) :
    Calls Try.prog 18 #[.pointer (some ⟨g, 0, none⟩), .int .i64 h, valV k] w fun e w' => e = .returned (.int .i64 (plc (findG gs h k))) ∧ Below w.heap.size w w' := by
  have HR : Hid (GRow w g st gs ad cp) := H
  have lg := H.lg
  have hne : ¬ g = w.heap.size := by omega
  obtain ⟨T', N', S'⟩ := k
  rw [valV_mk]
  have HB0 : Hid (Below w.heap.size w (w.alloc (.cells #[.int .i64 T', .int .u64 N', .string ⟨S'.toArray⟩] 42)) ∧ VB (w.alloc (.cells #[.int .i64 T', .int .u64 N', .string ⟨S'.toArray⟩] 42)) w.heap.size ⟨T', N', S'⟩) := ⟨below_one _ _, VB.new w ⟨T', N', S'⟩⟩
  clear H
  go_enter Try.func18, Try.ntmps18
  go_wp2_with fail
  go_loopw [7] (fun j wr => ∃ n : Nat, j = .int .i64 (n : Int) ∧ n ≤ gs.length ∧ Hid (∀ q s', q < n → gs[q]? = some s' → ¬ ((s'.1 : Int) = h ∧ s'.2.1 = ⟨T', N', S'⟩)) ∧ Hid (Below w.heap.size w wr ∧ VB wr w.heap.size ⟨T', N', S'⟩)) (fun j _ => 400 - (intOf j).toNat)
  case atStart => exact ⟨0, by go_num, by omega, fun q s' hq => by omega, HB0⟩
  case round =>
    obtain ⟨n, rfl, hn, HNO, HWR⟩ := hrel
    obtain ⟨q0, q2, _, hent, _⟩ := HR.out.below HWR.out.1
    obtain ⟨k0, k1, k2, _⟩ := HWR.out.2.cells
    simp only at k0 k1 k2
    have HDR : Hid (∀ m, Below w.heap.size w (wr.drewN m) ∧ VB (wr.drewN m) w.heap.size ⟨T', N', S'⟩) := fun m => ⟨below_drewN HWR.out.1 m, by have := HWR.out.2; unfold VB at *; rw [heap_drewN]; exact this⟩
    by_cases hlt : n < gs.length
    · obtain ⟨s, hs⟩ : ∃ s, gs[n]? = some s := ⟨_, List.getElem?_eq_getElem hlt⟩
      obtain ⟨b, rfl, hbl, hcp, e0, ⟨e1, e2, e3⟩, _, _, _⟩ := hent n s hs
      have HST : Hid (¬ ((s.1 : Int) = h ∧ s.2.1 = ⟨T', N', S'⟩) → ∀ q s', q < n + 1 → gs[q]? = some s' → ¬ ((s'.1 : Int) = h ∧ s'.2.1 = ⟨T', N', S'⟩)) := by
        intro hno q s' hq hq2
        by_cases c : q = n
        · subst c
          rw [hs] at hq2
          cases hq2
          exact hno
        · exact HNO.out q s' (by omega) hq2
      have HFD : Hid ((s.1 : Int) = h ∧ s.2.1 = ⟨T', N', S'⟩ → findG gs h ⟨T', N', S'⟩ = some n) := fun hy => findG_first hs hy HNO.out
      obtain ⟨sh, ⟨eT, eN, eS⟩, ev⟩ := s
      simp only at e0 e1 e2 e3 HST HFD
      clear hent hs
      generalize gs.length = gl at *
      have dn : decide ((n : Int) < (gl : Int)) = true := decide_eq_true (by omega)
      by_cases ch : (sh : Int) = h
      · subst ch
        by_cases ceq : (⟨eT, eN, eS⟩ : V) = ⟨T', N', S'⟩
        · have HI : Hid (findG gs sh ⟨T', N', S'⟩ = some n) := HFD.out ⟨rfl, ceq⟩
          injection ceq with c1 c2 c3
          subst c1 c2 c3
          go_wp2_with fail
          go_quiet (fail)
          go_wp2
          go_ret
          rw [HI.out]
          exact ⟨rfl, (HDR.out _).1⟩
        · have HNO2 := HST.out (fun h => ceq h.2)
          have HN2 : Hid (∀ q s', q < n + 1 → gs[q]? = some s' → ¬ ((s'.1 : Int) = (sh : Int) ∧ s'.2.1 = ⟨T', N', S'⟩)) := HNO2
          have hc : ¬ eT = T' ∨ (eT = T' ∧ ¬ eN = N') ∨ (eT = T' ∧ eN = N' ∧ ¬ eS = S') := by
            by_cases c1 : eT = T'
            · by_cases c2 : eN = N'
              · exact .inr (.inr ⟨c1, c2, fun c3 => ceq (by rw [c1, c2, c3])⟩)
              · exact .inr (.inl ⟨c1, c2⟩)
            · exact .inl c1
          clear ceq HNO2 HST HFD
          rcases hc with c1 | ⟨rfl, c1⟩ | ⟨rfl, rfl, c1⟩
          all_goals
            try have c2 : ¬ (eN : Int) = (N' : Int) := by omega
            go_wp2_with fail
            go_quiet (fail)
            go_wp2_with fail
            go_roundw
            case rel => exact ⟨n + 1, by go_num, by omega, HN2, HDR.out _⟩
            case measure => simp [intOf]; omega
      · have HN2 : Hid (∀ q s', q < n + 1 → gs[q]? = some s' → ¬ ((s'.1 : Int) = h ∧ s'.2.1 = ⟨T', N', S'⟩)) := HST.out (fun e => ch e.1)
        have bh : ((sh : Int) == h) = false := by simpa using ch
        have dh : decide ((sh : Int) = h) = false := decide_eq_false ch
        clear HST HFD
        go_wp2_with fail
        go_quiet (fail)
        go_wp2_with fail
        go_roundw
        case rel => exact ⟨n + 1, by go_num, by omega, HN2, HDR.out _⟩
        case measure => simp [intOf]; omega
    · have hnt : n = gs.length := by omega
      have HI : Hid (findG gs h ⟨T', N', S'⟩ = none) := findG_no (by rw [← hnt]; exact HNO.out)
      rw [← hnt] at q2
      clear hent
      generalize gs.length = gl at *
      subst hnt
      clear hn hlt
      go_wp2
      go_ret
      rw [HI.out]
      exact ⟨rfl, HWR.out.1⟩
end Go.Proofs.Qxb6500292a
