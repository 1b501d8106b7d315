import Derived.Test.Qxb6500293aGreatRRT6
namespace Go.Proofs.Qxb6500293aGreatRR
open Go.RowKit
open Ieee (double)
set_option linter.unusedVariables false
set_option linter.unusedSimpArgs false

theorem ret_ii {a a' b b' : Int} (h1 : a = a') (h2 : b = b') : Ending.returned (.tuple #[.int .i64 a, .int .i64 b]) = .returned (.tuple #[.int .i64 a', .int .i64 b']) := by rw [h1, h2]
/-- Is the key n+1 live? -/
def liveB (t : Tbl) (n : Nat) : Bool := match idx t (numKey (n + 1)) with
  | some p => !isNilB (t[p]?.getD (nilV, nilV)).2
  | none => false
def brdF (t : Tbl) : Nat → Nat → Nat
  | 0, n => n
  | k + 1, n => if liveB t n then brdF t k (n + 1) else n
/-- The border. -/
def brd (t : Tbl) : Nat := brdF t 33 0
theorem brdF_eq (t : Tbl) (k : Nat) : ∀ (n i : Nat), n ≤ i → i < n + k → (∀ j, n ≤ j → j < i → liveB t j = true) → liveB t i = false → brdF t k n = i := by
  induction k with
  | zero => intro n i h1 h2 _ _; omega
  | succ k ih =>
    intro n i h1 h2 h3 h4
    rw [show brdF t (k + 1) n = (if liveB t n then brdF t k (n + 1) else n) from rfl]
    by_cases c : n = i
    · subst c; rw [h4]; rfl
    · rw [h3 n (by omega) (by omega), if_pos rfl]
      exact ih (n + 1) i (by omega) (by omega) (fun j a b => h3 j (by omega) b) h4
theorem brd_eq {t : Tbl} {i : Nat} (hi : i ≤ 32) (h3 : ∀ j, j < i → liveB t j = true) (h4 : liveB t i = false) : brd t = i := brdF_eq t 33 0 i (by omega) (by omega) (fun j _ b => h3 j b) h4
/-- What Len answers. -/
def lenP (st : List Tbl) (h : Int) : Int × Int :=
  if h < 0 ∨ (st.length : Int) ≤ h then (-1, 3) else (((brd (st[h.toNat]?.getD []) : Nat) : Int), 0)
theorem live_arr {t : Tbl} {a : List Nat} (hi : Inv t a) {j p : Nat} {e : V × V} (hj : a[j]? = some p) (he : t[p]? = some e) : liveB t j = !isNilB e.2 := by
  obtain ⟨p', e', h1, h2, h3⟩ := hi.arr j (List.getElem?_eq_some_iff.1 hj).1
  rw [hj] at h1
  cases h1
  rw [he] at h2
  cases h2
  unfold liveB
  rw [← h3, idx_of hi.one he]
  simp only [he]
  rfl
theorem live_end {t : Tbl} {a : List Nat} (hc : Closed t a) : liveB t a.length = false := by
  unfold liveB
  rw [hc]

set_option maxHeartbeats 400000 in
theorem count_any (own : Nat → Nat) (x : Nat) (reps : List TabR) (count : Nat) (w : World) (H : RealAt own w x reps count) :
    Calls Tryz.prog 46 #[.pointer (some ⟨x, 0, none⟩)] w fun e w' => e = .returned (.int .i64 count) ∧ w' = w := by
  obtain ⟨nb, vt, ht, hrow, hvc⟩ := H.tabs
  obtain ⟨c0, c1, c2, fz, lt⟩ := id ht
  clear H hrow hvc ht
  go_enter Tryz.func46, Tryz.ntmps46
  go_wp2
  go_ret
  exact ⟨rfl, rfl⟩

set_option maxRecDepth 8000 in
set_option maxHeartbeats 3200000 in
theorem len_any (own : Nat → Nat) (x : Nat) (reps : List TabR) (count : Nat) (h : Int) (w : World) (H : RealAt own w x reps count) :
    Calls Tryz.prog 121 #[.pointer (some ⟨x, 0, none⟩), .int .i64 h] w fun e w' => e = .returned (.tuple #[.int .i64 (lenP (stOf reps count) h).1, .int .i64 (lenP (stOf reps count) h).2]) ∧ Below w.heap.size w w' := by
  obtain ⟨nb, vt, ht, hrow, hvc⟩ := H.tabs
  obtain ⟨c0, c1, c2, fz, lt⟩ := id ht
  have hcl : count ≤ 12 := by have := H.cnt; have := H.max; omega
  have hsl := stOf_len H.cnt
  by_cases hr : h < 0 ∨ (count : Int) ≤ h
  · have HV : Hid (lenP (stOf reps count) h = (-1, 3)) := by show _ = _; unfold lenP; rw [hsl, if_pos hr]
    clear H hrow hvc ht
    have hr : h < 0 ∨ (0 ≤ h ∧ (count : Int) ≤ h) := by omega
    rcases hr with hr | ⟨hr0, hr⟩
    all_goals
      go_enter Tryz.func121, Tryz.ntmps121
      go_wp2
      go_ret2
      exact ⟨ret_ii (by rw [HV.out]) (by rw [HV.out]), Below.refl _ _⟩
  have hr0 : 0 ≤ h := by omega
  have hr1 : h < (count : Int) := by omega
  obtain ⟨i, rfl⟩ : ∃ i : Nat, h = (i : Int) := ⟨h.toNat, by omega⟩
  have hi : i < count := by omega
  obtain ⟨r, hr2, hst⟩ := stOf_at H.cnt hi
  have hrl : count ≤ reps.length := H.cnt
  obtain ⟨hrep, hcls⟩ := H.rep i r hr2
  obtain ⟨A, cap, rfl, hta⟩ := tabAt_of hrow hr2 hrep
  have HV : Hid (lenP (stOf reps count) i = (((brd r.t : Nat) : Int), 0)) := by
    show _ = _
    unfold lenP
    rw [hsl, if_neg hr, Int.toNat_natCast, hst]
    rfl
  obtain ⟨a0, a1, a2, a3, a4, a5, _, lA, _⟩ := id hta
  obtain ⟨ad, acap, hva⟩ := row_slice hrep.arr
  have hal : r.a.length ≤ 32 := by have := hrep.sum; have := hrep.inv.len; omega
  have hdl : deadN r.t ≤ 32 := by have := hrep.inv.len; have : deadN r.t ≤ r.t.length := List.countP_le_length; omega
  have hend := live_end hcls
  by_cases hd : deadN r.t = 0
  · have HB : Hid (brd r.t = r.a.length) := by
      refine brd_eq hal ?_ hend
      intro j hj
      obtain ⟨p, e, h1, h2, h3⟩ := hrep.inv.arr j hj
      rw [live_arr hrep.inv h1 h2]
      unfold deadN at hd
      rw [List.countP_eq_zero] at hd
      have := hd e (List.mem_of_getElem? h2)
      simpa using this
    rw [hd] at a5
    rw [hva] at a1
    generalize reps.length = rl at *
    generalize r.a.length = al at *
    clear H hrow hvc ht hr hr2 hst hsl hta hrep hcls hva hend hd fz
    go_enter Tryz.func121, Tryz.ntmps121
    go_wp2
    go_ret2
    exact ⟨ret_ii (by rw [HV.out, HB.out]) (by rw [HV.out]), Below.refl _ _⟩
  · have bd : ((deadN r.t : Int) == 0) = false := by rw [beq_eq_false_iff_ne]; omega
    have HT : Hid (TabAt own w A i r) := hta
    have HEND : Hid (liveB r.t r.a.length = false) := hend
    have hva' := hva
    rw [hva] at a1
    obtain ⟨al, hal'⟩ : ∃ al, al = r.a.length := ⟨_, rfl⟩
    rw [← hal'] at a1 hal
    have HAL : Hid (al = r.a.length) := hal'
    have HVA : Hid (r.va = .slice ad al acap) := by rw [hal']; exact hva
    generalize reps.length = rl at *
    clear H hrow hvc ht hr hr2 hst hsl hta hrep hcls hva hend hd fz hal' hva'
    have d1 : decide ((i : Int) < 0) = false := decide_eq_false (by omega)
    have d2 : decide ((count : Int) ≤ (i : Int)) = false := decide_eq_false (by omega)
    have d3 : decide (count ≤ i) = false := decide_eq_false (by omega)
    go_enter Tryz.func121, Tryz.ntmps121
    go_wp2_with fail
    go_loopw [40] (fun j wr => ∃ n : Nat, j = .int .i64 (n : Int) ∧ n ≤ al ∧ Hid (∀ m, m < n → liveB r.t m = true) ∧ Below w.heap.size w wr) (fun j _ => al - (intOf j).toNat)
    case atStart => exact ⟨0, rfl, by omega, fun m hm => by omega, Below.refl _ _⟩
    case round =>
      obtain ⟨n, rfl, hn, HL, hB⟩ := hrel
      by_cases hlt : n < al
      · have hrep := (HT.out.below hB).rep
        obtain ⟨p, e, h1, h2, h3⟩ := hrep.inv.arr n (by rw [← HAL.out]; exact hlt)
        have hlive := live_arr hrep.inv h1 h2
        obtain ⟨g, cc, hva, hc, hg, hcell⟩ := row_cell hrep.arr (i := n) (x := i32V p) (by rw [List.getElem?_map, h1]; rfl)
        rw [HVA.out] at hva
        cases hva
        have c := fun j hj => flat6 entC entC_len r.t p e h2 j hj
        obtain ⟨og, oc, hv, hoc, hog, k3⟩ := row_cell hrep.ord (c 3 (by omega))
        obtain ⟨g4, c4', hv4, _, _, k4⟩ := row_cell hrep.ord (c 4 (by omega))
        obtain ⟨g5, c5', hv5, _, _, k5⟩ := row_cell hrep.ord (c 5 (by omega))
        rw [hv] at hv4 hv5
        cases hv4; cases hv5
        have a0 := (HT.out.below hB).c0
        rw [hv] at a0
        have a1 := (HT.out.below hB).c1
        rw [HVA.out] at a1
        have hp : p < r.t.length := (List.getElem?_eq_some_iff.1 h2).1
        have hp32 : r.t.length ≤ 32 := hrep.inv.len
        unfold i32V at hcell
        obtain ⟨ek, ⟨eT, eN, eS⟩⟩ := e
        simp only [entC, List.getElem?_cons_succ, List.getElem?_cons_zero] at k3 k4 k5
        have HN := fun w => isNil_any ⟨eT, eN, eS⟩ w
        rw [valV_mk] at HN
        have HB : Hid (Below w.heap.size w wr) := hB
        generalize r.t.length = tl at *
        simp only at hlive
        generalize isNilB ⟨eT, eN, eS⟩ = nb2 at *
        have HLV : Hid (liveB r.t n = !nb2) := hlive
        clear hrep h1 h2 h3 hlive c hB hv
        cases nb2
        · go_wp2_with fail
          refine (HN _).mono ?_; rintro e w1 ⟨rfl, hb⟩
          go_wp2_with fail
          have HL2 : Hid (∀ m, m < n + 1 → liveB r.t m = true) := by
            intro m hm
            rcases Nat.lt_or_ge m n with c | c
            · exact HL.out m c
            · have : m = n := by omega
              subst this; exact HLV.out
          go_roundw
          case rel => exact ⟨n + 1, by go_num, by omega, HL2, below_two HB.out hb⟩
          case measure => simp [intOf]; omega
        · go_wp2_with fail
          refine (HN _).mono ?_; rintro e w1 ⟨rfl, hb⟩
          go_wp2
          go_ret2
          have : brd r.t = n := brd_eq (by omega) HL.out HLV.out
          exact ⟨ret_ii (by rw [HV.out, this]) (by rw [HV.out]), below_two HB.out hb⟩
      · have hne : n = al := by omega
        have a1 := (HT.out.below hB).c1
        rw [HVA.out] at a1
        have HB : Hid (Below w.heap.size w wr) := hB
        clear hB
        go_wp2
        go_ret2
        have : brd r.t = al := brd_eq (by omega) (by rw [← hne]; exact HL.out) (by rw [HAL.out]; exact HEND.out)
        exact ⟨ret_ii (by rw [HV.out, this]) (by rw [HV.out]), HB.out⟩
end Go.Proofs.Qxb6500293aGreatRR
