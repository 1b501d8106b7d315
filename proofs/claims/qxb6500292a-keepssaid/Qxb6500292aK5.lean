/-
  Live, Border walked.
-/
import Derived.Test.Qxb6500292aK4
namespace Go.Proofs.Qxb6500292a
open Go.RowKit
open Ieee (double)
set_option linter.unusedVariables false
set_option linter.unusedSimpArgs false

set_option maxRecDepth 8000 in
set_option maxHeartbeats 3200000 in
theorem live_any (g : Nat) (st : List Tbl) (gs : Gs) (ad : Option Addr) (cp : Nat) (h : Int) (i : Nat) (w : World) (H : GRow w g st gs ad cp) (hl : gs.length ≤ 384) (hi : i ≤ gs.length) :
    Calls Try.prog 46 #[.pointer (some ⟨g, 0, none⟩), .int .i64 h, .int .i64 (i : Int)] w fun e w' => (∃ j : Nat, e = .returned (.int .i64 (j : Int)) ∧ LiveAt gs h i j) ∧ w' = w := by
  obtain ⟨q0, q2, _, hent, lg⟩ := H
  have HENT : Hid (∀ i s, gs[i]? = some s → _) := hent
  clear hent
  go_enter Try.func46, Try.ntmps46
  go_wp2_with fail
  go_loopw [2] (fun j wr => ∃ n : Nat, j = .int .i64 (n : Int) ∧ i ≤ n ∧ n ≤ gs.length ∧ Hid (∀ m s, i ≤ m → m < n → gs[m]? = some s → liveS h s = false) ∧ wr = w) (fun j _ => 400 - (intOf j).toNat)
  case atStart => exact ⟨i, by go_num, Nat.le_refl _, hi, fun m s a b => by omega, rfl⟩
  case round =>
    obtain ⟨n, rfl, hin, hn, HD, rfl⟩ := hrel
    by_cases hlt : n < gs.length
    · obtain ⟨s, hs⟩ : ∃ s, gs[n]? = some s := ⟨_, List.getElem?_eq_getElem hlt⟩
      obtain ⟨b, rfl, hbl, hcp, e0, _, e4, _, _⟩ := HENT.out n s hs
      have HNX : Hid (liveS h s = false → ∀ m s, i ≤ m → m < n + 1 → gs[m]? = some s → liveS h s = false) := by
        intro hd m s' h1 h2 h3
        by_cases c : m = n
        · subst c
          rw [hs] at h3
          cases h3
          exact hd
        · exact HD.out m s' h1 (by omega) h3
      have HLA : Hid (liveS h s = true → LiveAt gs h i n) := fun hy => ⟨hin, hn, HD.out, fun s' h' => by rw [hs] at h'; cases h'; exact hy⟩
      have hdef : liveS h s = (decide ((s.1 : Int) = h) && !decide (s.2.2.T = 0)) := rfl
      rw [hdef] at HNX HLA
      obtain ⟨sh, ek, ⟨vT, vN, vS⟩⟩ := s
      simp only at e0 e4 HNX HLA
      clear hdef hs
      generalize gs.length = gl at *
      have dn : decide ((n : Int) < (gl : Int)) = true := decide_eq_true (by omega)
      by_cases ch : (sh : Int) = h
      · subst ch
        by_cases cz : vT = 0
        · subst cz
          have HN2 : Hid (∀ m s, i ≤ m → m < n + 1 → gs[m]? = some s → liveS (sh : Int) s = false) := HNX.out (by simp)
          clear HNX HLA
          go_wp2_with fail
          go_roundw
          case rel => exact ⟨n + 1, by go_num, by omega, by omega, HN2, by first | rfl | trivial⟩
          case measure => simp [intOf]; omega
        · have HL : Hid (LiveAt gs (sh : Int) i n) := HLA.out (by simp [cz])
          have bz : (vT == 0) = false := by simpa using cz
          clear HNX HLA cz
          go_wp2
          go_ret
          exact ⟨⟨n, rfl, HL.out⟩, rfl⟩
      · have bh : ((sh : Int) != h) = true := by simpa using ch
        have HN2 : Hid (∀ m s, i ≤ m → m < n + 1 → gs[m]? = some s → liveS h s = false) := HNX.out (by rw [decide_eq_false ch]; rfl)
        clear HNX HLA ch
        go_wp2_with fail
        go_roundw
        case rel => exact ⟨n + 1, by go_num, by omega, by omega, HN2, by first | rfl | trivial⟩
        case measure => simp [intOf]; omega
    · have hnt : n = gs.length := by omega
      have HL : Hid (LiveAt gs h i n) := ⟨hin, hn, HD.out, fun s' h' => by rw [hnt, List.getElem?_eq_none (Nat.le_refl _)] at h'; cases h'⟩
      rw [← hnt] at q2
      clear HENT
      generalize gs.length = gl at *
      subst hnt
      have dn : decide ((n : Int) < (n : Int)) = false := decide_eq_false (by omega)
      clear hn hlt hl hi
      go_wp2
      go_ret
      exact ⟨⟨n, rfl, HL.out⟩, rfl⟩

/-- What the ghost's border is. -/
def borderP (st : List Tbl) (gs : Gs) (h : Int) (n : Nat) : Prop := n ≤ 32 ∧ ∀ t, 0 ≤ h → st[h.toNat]? = some t → n = brd t
theorem live_ghost {st : List Tbl} {gs : Gs} (H : GRel st gs) (hG : GoodSt st) {h : Nat} {t : Tbl} (ht : st[h]? = some t) (n : Nat) : liveB t n = match findG gs h (numKey (n + 1)) with
    | some i => !decide ((gs[i]?.getD (0, dE)).2.2.T = 0)
    | none => false := by
  obtain ⟨a, hinv⟩ := hG.at ht
  have hf := find_idx H ht hinv.one (numKey (n + 1))
  unfold liveB
  cases hc : findG gs h (numKey (n + 1)) with
  | some i =>
    rw [hc] at hf
    obtain ⟨v, h1, h2⟩ := hf
    have hr := rank_at h1
    rw [H.tab h t ht] at hr
    rw [h2]
    show (!isNilB (t[rank gs h i]?.getD (nilV, nilV)).2) = !decide ((gs[i]?.getD (0, dE)).2.2.T = 0)
    rw [hr, h1]
    show (!isNilB v) = !decide (v.T = 0)
    rw [nilT (vals_ok H hG _ (List.mem_of_getElem? h1)).2.wf]
  | none =>
    rw [hc] at hf
    rw [hf]
set_option maxRecDepth 8000 in
set_option maxHeartbeats 3200000 in
theorem border_any (nb mb : Value) (g : Nat) (st : List Tbl) (gs : Gs) (ad : Option Addr) (cp : Nat) (h : Int) (w : World) (H : GRow w g st gs ad cp) (hrel : GRel st gs) (hG : GoodSt st) (hl : gs.length ≤ 384) :
    Calls Try.prog 47 #[.agg #[nb, mb], .pointer (some ⟨g, 0, none⟩), .int .i64 h] w fun e w' => (∃ n : Nat, e = .returned (.int .i64 (n : Int)) ∧ borderP st gs h n) ∧ Below w.heap.size w w' := by
  have HR : Hid (GRow w g st gs ad cp) := H
  have HREL : Hid (GRel st gs) := hrel
  have HGOOD : Hid (GoodSt st) := hG
  have lg := H.lg
  have hne : ¬ g = w.heap.size := by omega
  have HB0 : Hid (Below w.heap.size w (w.alloc (.cells #[nb, mb] 30)) ∧ (w.alloc (.cells #[nb, mb] 30)).heap[w.heap.size]? = some (.cells #[nb, mb] 30)) := ⟨below_one _ _, World.alloc_heap_new _ _⟩
  have HEND : Hid (∀ n : Nat, n ≤ 32 → (∀ m t, m < n → 0 ≤ h → st[h.toNat]? = some t → liveB t m = true) → (∀ t, 0 ≤ h → st[h.toNat]? = some t → liveB t n = false) → borderP st gs h n) := fun n hn h1 h2 => ⟨hn, fun t h0 ht => (brd_eq hn (fun m hm => h1 m t hm h0 ht) (h2 t h0 ht)).symm⟩
  clear H hrel hG
  go_enter Try.func47, Try.ntmps47
  go_wp2_with fail
  go_loopw [7] (fun j wr => ∃ n : Nat, j = .int .i64 (n : Int) ∧ n ≤ 32 ∧ Hid (∀ m t, m < n → 0 ≤ h → st[h.toNat]? = some t → liveB t m = true) ∧ Hid (Below w.heap.size w wr ∧ wr.heap[w.heap.size]? = some (.cells #[nb, mb] 30))) (fun j _ => 40 - (intOf j).toNat)
  case atStart => exact ⟨0, by go_num, by omega, fun m t hm => by omega, HB0⟩
  case round =>
    obtain ⟨n, rfl, hn, HL, HBW⟩ := hrel
    by_cases hlt : n < 32
    · have c0 : wr.cell? ⟨w.heap.size, 0, none⟩ = some nb := by simp [World.cell?, HBW.out.2]
      have c1 : wr.cell? ⟨w.heap.size, 1, none⟩ = some mb := by simp [World.cell?, HBW.out.2]
      have HBT := fun w => bits_any nb mb ((n : Int) + 1) w
      have efl : double.nearest (decide ((n : Int) + 1 < 0)) ((n : Int) + 1).natAbs 0 = fl (n + 1) := by
        rw [decide_eq_false (by omega), show ((n : Int) + 1).natAbs = n + 1 by omega]; rfl
      rw [efl] at HBT
      have HF := fun w1 (hb : Below w.heap.size w w1) => gfind_any g st gs ad cp h (numKey (n + 1)) w1 (HR.out.below hb) hl
      rw [show valV (numKey (n + 1)) = .agg #[.int .i64 2, .int .u64 (fl (n + 1)), .string ⟨#[]⟩] from rfl] at HF
      have HLV : Hid (∀ t, 0 ≤ h → st[h.toNat]? = some t → liveB t n = match findG gs h (numKey (n + 1)) with
        | some i => !decide ((gs[i]?.getD (0, dE)).2.2.T = 0)
        | none => false) := by
        intro t h0 ht
        have := live_ghost HREL.out HGOOD.out ht n
        rw [show ((h.toNat : Nat) : Int) = h by omega] at this
        exact this
      have hfs : ∀ i, findG gs h (numKey (n + 1)) = some i → ∃ s, gs[i]? = some s := fun i hi => by obtain ⟨m, v, h1, _⟩ := findG_some hi; exact ⟨_, h1⟩
      have HFS : Hid (∀ i, findG gs h (numKey (n + 1)) = some i → ∃ s, gs[i]? = some s) := hfs
      generalize findG gs h (numKey (n + 1)) = fo at *
      generalize fl (n + 1) = FN at *
      have dn : decide ((n : Int) < 32) = true := decide_eq_true (by omega)
      clear efl hfs
      go_wp2_with fail
      refine (HBT _).mono ?_; rintro e w1 ⟨rfl, hb1⟩
      have HB1 : Hid (Below w.heap.size w w1 ∧ w1.heap[w.heap.size]? = some (.cells #[nb, mb] 30)) := ⟨below_two HBW.out.1 hb1, (hb1.block _ (Array.getElem?_eq_some_iff.1 HBW.out.2).1).trans HBW.out.2⟩
      clear hb1 c0 c1
      go_wp2_with fail
      refine (HF _ HB1.out.1).mono ?_; rintro e w2 ⟨rfl, hb2⟩
      have HB2 : Hid (Below w.heap.size w w2 ∧ w2.heap[w.heap.size]? = some (.cells #[nb, mb] 30)) := ⟨below_two HB1.out.1 hb2, (hb2.block _ (Array.getElem?_eq_some_iff.1 HB1.out.2).1).trans HB1.out.2⟩
      obtain ⟨q0, q2, _, hent, _⟩ := HR.out.below HB2.out.1
      clear hb2 HF HBT HB1
      cases fo with
      | none =>
        have HE : Hid (borderP st gs h n) := HEND.out n (by omega) HL.out (fun t h0 ht => HLV.out t h0 ht)
        clear hent
        simp only [plc]
        go_wp2
        go_ret
        exact ⟨⟨n, rfl, HE.out⟩, HB2.out.1⟩
      | some i =>
        obtain ⟨s, hs⟩ := HFS.out i rfl
        obtain ⟨b, rfl, hbl, hcp, _, _, e4, _, _⟩ := hent i s hs
        have hil : i < gs.length := (List.getElem?_eq_some_iff.1 hs).1
        have HLV2 : Hid (∀ t, 0 ≤ h → st[h.toNat]? = some t → liveB t n = !decide (s.2.2.T = 0)) := by
          intro t h0 ht
          rw [HLV.out t h0 ht]
          show (!decide ((gs[i]?.getD (0, dE)).2.2.T = 0)) = _
          rw [hs]
          rfl
        obtain ⟨sh, ek, ⟨vT, vN, vS⟩⟩ := s
        simp only at e4 HLV2
        simp only [plc]
        have hpz : ¬ (i : Int) < 0 := by omega
        have hpz2 : decide ((i : Int) < 0) = false := decide_eq_false (by omega)
        clear hent hs HLV HFS
        generalize gs.length = gl at *
        by_cases cz : vT = 0
        · subst cz
          have HE : Hid (borderP st gs h n) := HEND.out n (by omega) HL.out (fun t h0 ht => HLV2.out t h0 ht)
          go_wp2
          go_ret
          exact ⟨⟨n, rfl, HE.out⟩, HB2.out.1⟩
        · have HL2 : Hid (∀ m t, m < n + 1 → 0 ≤ h → st[h.toNat]? = some t → liveB t m = true) := by
            intro m t hm h0 ht
            by_cases c : m = n
            · subst c
              rw [HLV2.out t h0 ht, decide_eq_false cz]
              rfl
            · exact HL.out m t (by omega) h0 ht
          have bz : (vT == 0) = false := by simpa using cz
          clear HLV2 cz
          go_wp2_with fail
          go_roundw
          case rel => exact ⟨n + 1, by go_num, by omega, HL2, HB2⟩
          case measure => simp [intOf]; omega
    · have h32 : n = 32 := by omega
      subst h32
      have HE : Hid (borderP st gs h 32) := by
        refine HEND.out 32 (Nat.le_refl _) HL.out ?_
        intro t h0 ht
        cases hc : liveB t 32
        · rfl
        · exfalso
          obtain ⟨a, hinv⟩ := HGOOD.out.at ht
          refine live_bound hinv (fun m hm => ?_)
          by_cases c : m = 32
          · subst c; exact hc
          · exact HL.out m t (by omega) h0 ht
      clear hn hlt
      go_wp2
      go_ret
      exact ⟨⟨32, rfl, HE.out⟩, HBW.out.1⟩
end Go.Proofs.Qxb6500292a
