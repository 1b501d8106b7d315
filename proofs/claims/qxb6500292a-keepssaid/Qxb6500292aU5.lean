import Derived.Test.Qxb6500292aU3
import Derived.Test.Qxb6500292aT23
namespace Go.Proofs.Qxb6500292a
open Go.RowKit
open Ieee (double)
set_option linter.unusedVariables false
set_option linter.unusedSimpArgs false

theorem entL_take {t : Tbl} {n : Nat} {e : V × V} (he : t[n]? = some e) : (t.take (n + 1)).flatMap entL = (t.take n).flatMap entL ++ entL e := by
  rw [List.take_add_one, he, List.flatMap_append]
  simp
theorem showT_take {st : List Tbl} {n : Nat} {t : Tbl} (he : st[n]? = some t) : showT (st.take (n + 1)) = showT (st.take n) ++ tabL t := by
  unfold showT
  rw [List.take_add_one, he, List.flatMap_append]
  simp
theorem ents_len {t : Tbl} {a : List Nat} (h : Inv t a) (n : Nat) : ((t.take n).flatMap entL).length ≤ 128 * n := by
  induction n with
  | zero => simp
  | succ n ih =>
    by_cases c : n < t.length
    · rw [entL_take (List.getElem?_eq_getElem c), List.length_append]
      have hm : t[n] ∈ t := List.getElem_mem c
      have := entL_len (e := t[n]) ⟨(h.keys _ hm).wf, (h.keys _ hm).N⟩ (h.vals _ hm)
      omega
    · rw [List.take_of_length_le (by omega)]
      rw [List.take_of_length_le (by omega)] at ih
      omega
theorem shows_len {st : List Tbl} (h : GoodSt st) (n : Nat) : (showT (st.take n)).length ≤ 4098 * n := by
  induction n with
  | zero => simp [showT]
  | succ n ih =>
    by_cases c : n < st.length
    · rw [showT_take (List.getElem?_eq_getElem c), List.length_append]
      obtain ⟨a, ha⟩ := h _ (List.getElem_mem c)
      have := tabL_len ha
      omega
    · unfold showT at *
      rw [List.take_of_length_le (by omega)]
      rw [List.take_of_length_le (by omega)] at ih
      omega
set_option maxRecDepth 8000 in
set_option maxHeartbeats 3200000 in
theorem mshow_any (own : Nat → Nat) (y : Nat) (st : List Tbl) (w : World) (H : ModAt own w y st) (hG : GoodSt st) :
    Calls Try.prog 27 #[.pointer (some ⟨y, 0, none⟩)] w fun e w' => e = .returned (.string ⟨(showT st).toArray⟩) ∧ Below w.heap.size w w' := by
  obtain ⟨np, vt, vs, ⟨c0, c1, fz, lt⟩, h2, _⟩ := H.tabs
  obtain ⟨ad0, cp0, rfl⟩ := row_slice h2
  have hm := H.max
  obtain ⟨sl, hsl⟩ : ∃ sl, sl = st.length := ⟨_, rfl⟩
  rw [← hsl] at c1 hm
  have HS : Hid (w.cell? ⟨y, 1, none⟩ = some (.slice ad0 sl cp0)) := c1
  have HSL : Hid (sl = st.length) := hsl
  have HM : Hid (ModAt own w y st) := H
  have HG : Hid (GoodSt st) := hG
  clear H hG h2 c0 c1 fz hsl
  go_enter Try.func27, Try.ntmps27
  go_wp2_with fail
  go_loopw [3, 4] (fun s j wr => ∃ n : Nat, j = .int .i64 (n : Int) ∧ n ≤ sl ∧ s = .string ⟨(showT (st.take n)).toArray⟩ ∧ Hid (Below w.heap.size w wr)) (fun _ j _ => 40 - (intOf j).toNat)
  case atStart => exact ⟨0, by go_num, by omega, by simp [showT], Below.refl _ _⟩
  case round =>
    obtain ⟨n, rfl, hn, rfl, HB⟩ := hrel
    have c1 := (HB.out.cell (p := ⟨y, 1, none⟩) lt).trans HS.out
    by_cases hlt : n < sl
    · obtain ⟨t, hst, _⟩ := st_at (st := st) (h := n) (by rw [← HSL.out]; exact hlt)
      obtain ⟨a, hinv⟩ := HG.out.at hst
      obtain ⟨G, cG, ad, cR, hrow⟩ := HM.out.row hst
      rw [← HSL.out] at hrow
      have HR : Hid (MRow w y G sl cG n ad t cR) := hrow
      have e1 := hrow.c1
      rw [HS.out] at e1
      cases e1
      have HI : Hid (Inv t a) := hinv
      have hl32 := hinv.len
      have hlen : (showT (st.take n)).length ≤ 50000 := by have := shows_len HG.out n; omega
      have HST : Hid (showT (st.take (n + 1)) = showT (st.take n) ++ tabL t) := showT_take hst
      generalize showT (st.take n) = sh at *
      clear hst hinv hrow
      have HTL : Hid (tabL t = [91] ++ (t.take t.length).flatMap entL ++ [93]) := by show _ = _; rw [List.take_length]; rfl
      generalize htl : t.length = tl at *
      have HTE : Hid (t.length = tl) := htl
      have hdl : decide ((n : Int) < (sl : Int)) = true := decide_eq_true (by omega)
      go_wp2_with fail
      go_loopw [3, 5] (fun s j wr2 => ∃ m : Nat, j = .int .i64 (m : Int) ∧ m ≤ tl ∧ s = .string ⟨(sh ++ [91] ++ (t.take m).flatMap entL).toArray⟩ ∧ Hid (Below w.heap.size w wr2)) (fun _ j _ => 40 - (intOf j).toNat)
      case atStart => exact ⟨0, by go_num, by omega, by simp [str_append], HB⟩
      case round =>
        obtain ⟨m, rfl, hm2, rfl, HB2⟩ := hrel
        obtain ⟨c1, r1, hent, _, _⟩ := HR.out.below HB2.out
        rw [htl] at r1
        by_cases hlt2 : m < tl
        · have he := List.getElem?_eq_getElem (l := t) (i := m) (by omega)
          obtain ⟨g, rfl, hgl, hcR, e0, e1, e2, _⟩ := hent m _ he
          have hET : Hid ((t.take (m + 1)).flatMap entL = (t.take m).flatMap entL ++ entL t[m]) := entL_take he
          have hgk := HI.out.keys _ (List.mem_of_getElem? he)
          have hgv := HI.out.vals _ (List.mem_of_getElem? he)
          have hel : ((t.take m).flatMap entL).length ≤ 4096 := by have := ents_len HI.out m; omega
          have HENT : Hid (∀ W, Below w.heap.size w W → ∃ g', some (⟨g, 0, none⟩ : Addr) = some ⟨g', 0, none⟩ ∧ W.cell? ⟨g', m * 6 + 3, none⟩ = some (.int .i64 t[m].2.T) ∧ W.cell? ⟨g', m * 6 + 4, none⟩ = some (.int .u64 t[m].2.N) ∧ W.cell? ⟨g', m * 6 + 5, none⟩ = some (.string ⟨t[m].2.S.toArray⟩)) := by
            intro W hW
            obtain ⟨g', h1, _, _, _, _, _, h2, h3, h4⟩ := (HR.out.below hW).ent m _ he
            exact ⟨g', h1, h2, h3, h4⟩
          rw [htl] at hcR
          generalize t[m] = en at *
          obtain ⟨ek, ev⟩ := en
          have HSk := fun w => showVal_any ek w hgk.wf hgk.N
          have HSv := fun w => showVal_any ev w hgv.wf hgv.N
          have lk := showV_len hgk.wf hgk.N
          have lv := showV_len hgv.wf hgv.N
          have HEL : Hid (entL (ek, ev) = showV ek ++ [61] ++ showV ev ++ [59]) := rfl
          obtain ⟨kT, kN, kS⟩ := ek
          obtain ⟨vT, vN, vS⟩ := ev
          simp only [valV_mk] at HSk HSv HENT e0 e1 e2
          generalize showV ⟨kT, kN, kS⟩ = sk at *
          generalize showV ⟨vT, vN, vS⟩ = sv at *
          generalize hpe : (t.take m).flatMap entL = pe at *
          clear hent he hgk hgv hpe htl
          have hdm : decide ((m : Int) < (tl : Int)) = true := decide_eq_true (by omega)
          go_wp2_with fail
          refine (HSk _).mono ?_; rintro e w3 ⟨rfl, hb⟩
          have hB3 := below_two HB2.out hb
          obtain ⟨g', h1, f3, f4, f5⟩ := HENT.out w3 hB3
          cases h1
          obtain ⟨c1', r1', _, _, _⟩ := HR.out.below hB3
          rw [HTE.out] at r1'
          have HB3 : Hid (Below w.heap.size w w3) := hB3
          clear hb hB3 c1 r1 e0 e1 e2
          go_wp2_with fail
          refine (HSv _).mono ?_; rintro e w4 ⟨rfl, hb⟩
          have HB4 : Hid (Below w.heap.size w w4) := below_two HB3.out hb
          clear hb
          go_wp2_with fail
          go_roundw
          case rel => exact ⟨m + 1, by go_num, by omega, by rw [hET.out, HEL.out]; simp [str_append], HB4⟩
          case measure => simp [intOf]; omega
        · have hmt : m = tl := by omega
          subst hmt
          have HF : Hid (sh ++ [91] ++ (t.take m).flatMap entL ++ [93] = showT (st.take (n + 1))) := by
            show _ = _
            rw [HST.out, HTL.out, ← List.append_assoc, ← List.append_assoc]
          have hel : ((t.take m).flatMap entL).length ≤ 4096 := by have := ents_len HI.out m; omega
          generalize hpe : (t.take m).flatMap entL = pe at *
          clear hent hpe htl hlt2
          have hdm : decide ((m : Int) < (m : Int)) = false := decide_eq_false (by omega)
          go_wp2_with fail
          go_roundw
          case rel => exact ⟨n + 1, by go_num, by omega, by rw [← HF.out]; simp [str_append], HB2⟩
          case measure => simp [intOf]; omega
    · have hns : n = sl := by omega
      subst hns
      have HE : Hid (showT (st.take n) = showT st) := by show _ = _; rw [HSL.out, List.take_length]
      generalize showT (st.take n) = sh at *
      clear hlt hn
      go_wp2
      go_ret
      rw [← HE.out]
      exact ⟨rfl, HB.out⟩
end Go.Proofs.Qxb6500292a
