/-
  Shown walked: what Show owes, by the ghost alone.
-/
import Derived.Test.Qxb6500292aK4
import Derived.Test.Qxb6500292aU5
namespace Go.Proofs.Qxb6500292a
open Go.RowKit
open Ieee (double)
set_option linter.unusedVariables false
set_option linter.unusedSimpArgs false

theorem entL_pair (k v : V) : entL (k, v) = pairV k v ++ [59] := by unfold entL pairV; simp
theorem gents_succ {gs : Gs} {m h : Nat} {s : Nat × (V × V)} (hs : gs[m]? = some s) : (ofT (gs.take (m + 1)) h).flatMap entL = (ofT (gs.take m) h).flatMap entL ++ if s.1 = h then entL s.2 else [] := by
  rw [List.take_add_one, hs, ofT_append, List.flatMap_append]
  show _ ++ (ofT [s] h).flatMap entL = _
  rw [ofT_one]
  by_cases c : s.1 = h
  · simp [c]
  · simp [c]
theorem gents_len {st : List Tbl} {gs : Gs} (H : GRel st gs) (hG : GoodSt st) {h : Nat} {t : Tbl} (ht : st[h]? = some t) (m : Nat) : ((ofT (gs.take m) h).flatMap entL).length ≤ 4096 := by
  obtain ⟨a, hinv⟩ := hG.at ht
  have e := H.tab h t ht
  have e2 : ofT gs h = ofT (gs.take m) h ++ ofT (gs.drop m) h := by rw [← ofT_append, List.take_append_drop]
  have h1 : ((ofT gs h).flatMap entL).length = ((ofT (gs.take m) h).flatMap entL).length + ((ofT (gs.drop m) h).flatMap entL).length := by rw [e2, List.flatMap_append, List.length_append]
  have h2 := ents_len hinv t.length
  rw [List.take_length, ← e] at h2
  have h3 := hinv.len
  rw [← e] at h3
  omega
set_option maxRecDepth 8000 in
set_option maxHeartbeats 3200000 in
theorem shown_any (g : Nat) (st : List Tbl) (gs : Gs) (ad : Option Addr) (cp : Nat) (w : World) (H : GRow w g st gs ad cp) (hrel : GRel st gs) (hG : GoodSt st) (hm : st.length ≤ 12) :
    Calls Try.prog 24 #[.pointer (some ⟨g, 0, none⟩)] w fun e w' => e = .returned (.string ⟨(showT st).toArray⟩) ∧ Below w.heap.size w w' := by
  have hgl := gs_len hrel hG hm
  have HR : Hid (GRow w g st gs ad cp) := H
  have HREL : Hid (GRel st gs) := hrel
  have HG : Hid (GoodSt st) := hG
  have HVO : Hid (∀ s ∈ gs, KeyOk s.2.1 ∧ ValOk s.2.2) := vals_ok hrel hG
  obtain ⟨sl, hsl⟩ : ∃ sl, sl = st.length := ⟨_, rfl⟩
  rw [← hsl] at hm
  have HSL : Hid (sl = st.length) := hsl
  have lg := H.lg
  clear H hG hrel hsl
  go_enter Try.func24, Try.ntmps24
  go_wp2_with fail
  go_loopw [3, 4] (fun s j wr => ∃ n : Nat, j = .int .i64 (n : Int) ∧ n ≤ sl ∧ s = .string ⟨(showT (st.take n)).toArray⟩ ∧ Hid (Below w.heap.size w wr)) (fun _ j _ => 40 - (intOf j).toNat)
  case atStart => exact ⟨0, by go_num, by omega, by simp [showT], Below.refl _ _⟩
  case round =>
    obtain ⟨n, rfl, hn, rfl, HB⟩ := hrel
    obtain ⟨c0, _, _, _, _⟩ := HR.out.below HB.out
    rw [← HSL.out] at c0
    by_cases hlt : n < sl
    · obtain ⟨t, hst, _⟩ := st_at (st := st) (h := n) (by rw [← HSL.out]; exact hlt)
      have hlen : (showT (st.take n)).length ≤ 50000 := by have := shows_len HG.out n; omega
      have HST : Hid (showT (st.take (n + 1)) = showT (st.take n) ++ tabL t) := showT_take hst
      have HTL : Hid (tabL t = [91] ++ (ofT (gs.take gs.length) n).flatMap entL ++ [93]) := by
        show _ = _
        rw [List.take_length, HREL.out.tab n t hst]; rfl
      have HEL : Hid (∀ m, ((ofT (gs.take m) n).flatMap entL).length ≤ 4096) := fun m => gents_len HREL.out HG.out hst m
      generalize showT (st.take n) = sh at *
      clear hst
      have hdl : decide ((n : Int) < (sl : Int)) = true := decide_eq_true (by omega)
      go_wp2_with fail
      go_loopw [3, 5] (fun s j wr2 => ∃ m : Nat, j = .int .i64 (m : Int) ∧ m ≤ gs.length ∧ s = .string ⟨(sh ++ [91] ++ (ofT (gs.take m) n).flatMap entL).toArray⟩ ∧ Hid (Below w.heap.size w wr2)) (fun _ j _ => 400 - (intOf j).toNat)
      case atStart => exact ⟨0, by go_num, by omega, by simp [str_append, ofT], HB⟩
      case round =>
        obtain ⟨m, rfl, hm2, rfl, HB2⟩ := hrel
        obtain ⟨_, q2, _, hent, _⟩ := HR.out.below HB2.out
        have hel := HEL.out m
        by_cases hlt2 : m < gs.length
        · obtain ⟨s, hs⟩ : ∃ s, gs[m]? = some s := ⟨_, List.getElem?_eq_getElem hlt2⟩
          obtain ⟨b, rfl, hbl, hcp, e0, ⟨e1, e2, e3⟩, e4, e5, e6⟩ := hent m s hs
          have HSU : Hid ((ofT (gs.take (m + 1)) n).flatMap entL = (ofT (gs.take m) n).flatMap entL ++ if s.1 = n then entL s.2 else []) := gents_succ hs
          obtain ⟨hkk, hvv⟩ := HVO.out s (List.mem_of_getElem? hs)
          obtain ⟨shh, ek, ev⟩ := s
          have CPR := fun w => pair_any ek ev w ⟨hkk.wf, hkk.N⟩ hvv
          have lk := showV_len hkk.wf hkk.N
          have lv := showV_len hvv.wf hvv.N
          have HPL : Hid (entL (ek, ev) = pairV ek ev ++ [59]) := entL_pair ek ev
          have hpl : (pairV ek ev).length ≤ 130 := by
            unfold pairV
            simp only [List.length_append, List.length_cons, List.length_nil]
            simp only at lk lv
            omega
          simp only at e0 e1 e2 e3 e4 e5 e6 HSU
          clear hent hs hkk hvv lk lv
          generalize hpe : (ofT (gs.take m) n).flatMap entL = pe at *
          have HGL : Hid (m + 1 ≤ gs.length) := hlt2
          generalize gs.length = gl at *
          have dm : decide ((m : Int) < (gl : Int)) = true := decide_eq_true (by omega)
          by_cases ch : shh = n
          · subst ch
            rw [if_pos rfl, HPL.out] at HSU
            obtain ⟨kT, kN, kS⟩ := ek
            obtain ⟨vT, vN, vS⟩ := ev
            simp only [valV_mk] at CPR
            simp only at e1 e2 e3 e4 e5 e6
            generalize pairV ⟨kT, kN, kS⟩ ⟨vT, vN, vS⟩ = pv at *
            clear hpe
            go_wp2_with fail
            go_region_with (go_at_call 35; refine (CPR _).mono ?_; rintro e w3 ⟨rfl, hb3⟩; have HB3 : Hid (Below w.heap.size w w3) := (below_two HB2.out.drew hb3); clear hb3)
            all_goals
              go_wp2_with fail
              go_roundw
              case rel => exact ⟨m + 1, by go_num, by omega, by rw [HSU.out]; simp [str_append], HB3⟩
              case measure => simp [intOf]; omega
          · have bh : ((shh : Int) == (n : Int)) = false := by rw [beq_eq_false_iff_ne]; omega
            have dh : decide ((shh : Int) = (n : Int)) = false := decide_eq_false (by omega)
            have ni : ¬ (shh : Int) = (n : Int) := by omega
            rw [if_neg ch, List.append_nil] at HSU
            clear CPR HPL hpl
            go_wp2_with fail
            go_roundw
            case rel => exact ⟨m + 1, by go_num, by omega, by rw [HSU.out], HB2⟩
            case measure => simp [intOf]; omega
        · have hmt : m = gs.length := by omega
          have HF : Hid (sh ++ [91] ++ (ofT (gs.take m) n).flatMap entL ++ [93] = showT (st.take (n + 1))) := by
            show _ = _
            rw [HST.out, HTL.out, hmt, ← List.append_assoc, ← List.append_assoc]
          rw [← hmt] at q2
          generalize (ofT (gs.take m) n).flatMap entL = pe at *
          clear hent hmt
          have hdm : decide ((m : Int) < (m : Int)) = false := decide_eq_false (by omega)
          go_wp2_with fail
          go_roundw
          case rel => exact ⟨n + 1, by go_num, by omega, by rw [← HF.out]; simp [str_append], HB2⟩
          case measure => simp [intOf]; omega
    · have hns : n = sl := by omega
      subst hns
      have HE : Hid (showT (st.take n) = showT st) := by show _ = _; rw [HSL.out, List.take_length]
      generalize showT (st.take n) = sh at *
      have hdn : decide ((n : Int) < (n : Int)) = false := decide_eq_false (by omega)
      clear hlt hn
      go_wp2
      go_ret
      rw [← HE.out]
      exact ⟨rfl, HB.out⟩
end Go.Proofs.Qxb6500292a
