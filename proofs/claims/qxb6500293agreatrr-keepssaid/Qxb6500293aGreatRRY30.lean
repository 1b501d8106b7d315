/-
  sound walked: ICLOSURE.
-/
import Derived.Test.Qxb6500293aGreatRRY29
namespace Go.Proofs.Qxb6500293aGreatRR
open Go.RowKit
open Ieee (double)
set_option linter.unusedVariables false
set_option linter.unusedSimpArgs false

/-- What sound reads of the proto that a closure is made of. -/
structure SoD (W : World) (m pb x up qn dl dcp db : Nat) (dad : Option Addr) (l : List (Nat × Nat)) : Prop where
  q2 : W.cell? ⟨pb, x * 8 + 2, none⟩ = some (i64 up)
  q3 : W.cell? ⟨pb, x * 8 + 3, none⟩ = some (i64 qn)
  m3 : W.cell? ⟨m, 3, none⟩ = some (.slice dad dl dcp)
  dc : dl ≤ dcp
  win : up + qn ≤ dl
  d9 : dl ≤ 40000
  q9 : qn ≤ 255
  len : l.length = qn
  ad : 0 < qn → dad = some ⟨db, 0, none⟩ ∧ db < W.heap.size
  each : ∀ j, j < qn → ∃ d, l[j]? = some d ∧ d.1 ≤ 1 ∧ d.2 < 256 ∧ W.cell? ⟨db, up * 2 + j * 2, none⟩ = some (.int .u8 (d.1 : Int)) ∧ W.cell? ⟨db, up * 2 + j * 2 + 1, none⟩ = some (.int .u8 (d.2 : Int))
set_option maxRecDepth 16000 in
set_option maxHeartbeats 2000000 in
theorem sound_28 {W : World} {m fb n pb P clo nup ns nk nc cb cl ccp a i pl pcp : Nat} (h : SoC W m fb n pb P clo nup ns nk nc cb cl ccp) (x : Nat) (hx : x < 65536) (hpr : W.cell? ⟨m, 2, none⟩ = some (.slice (some ⟨pb, 0, none⟩) pl pcp)) (hpl : pl ≤ 100) (hns : ns ≤ 20) (hnup : nup ≤ 255) (hpb : pb < W.heap.size) {up qn dl dcp db : Nat} {dad : Option Addr} {l : List (Nat × Nat)} (hd : x < pl → SoD W m pb x up qn dl dcp db dad l) :
    Calls Tryz.prog 86 #[.pointer (some ⟨m, 0, none⟩), .pointer (some ⟨a, i * 5, none⟩), .pointer (some ⟨fb, n * 5, none⟩), .pointer (some ⟨pb, P * 8, none⟩), .int .u8 28, i64 x] W fun e w' => e = .returned (.bool (decide (x < pl) && l.all (descOk ns nup))) ∧ Below W.heap.size W w' := by
  obtain ⟨m6, hc, c9, c2, f0, p1, p5, p7⟩ := h
  by_cases hb : x < pl
  · rw [decide_eq_true hb, Bool.true_and]
    obtain ⟨q2, q3, m3, hdc, hwin, hd9, hq9, hlen, hdad, heach⟩ := hd hb
    have hb' : ¬ (pl : Int) ≤ (x : Int) := by omega
    have hbd : decide (pl ≤ x) = false := decide_eq_false (by omega)
    clear hd
    have HL : Hid (l.length = qn) := hlen
    have HEA : Hid (∀ j, j < qn → ∃ d, l[j]? = some d ∧ d.1 ≤ 1 ∧ d.2 < 256 ∧ W.cell? ⟨db, up * 2 + j * 2, none⟩ = some (.int .u8 (d.1 : Int)) ∧ W.cell? ⟨db, up * 2 + j * 2 + 1, none⟩ = some (.int .u8 (d.2 : Int))) := heach
    clear heach hlen
    by_cases h0 : qn = 0
    · subst h0
      have hl : l = [] := List.length_eq_zero_iff.1 HL.out
      subst hl
      clear HL HEA hdad
      have hu2 : up ≤ dcp := by omega
      go_enter Tryz.func86, Tryz.ntmps86
      go_wp2_with fail
      go_quiet (fail)
      revert nq; intro nq1
      go_wp2_with fail
      go_quiet (fail)
      go_wp2_with fail
      all_goals
        go_loopw [207] (fun jv wr => ∃ j : Nat, jv = .int .i64 (j : Int) ∧ j ≤ 0 ∧ Hid (Below W.heap.size W wr)) (fun jv _ => (intOf jv).toNat)
        case atStart => exact ⟨0, rfl, Nat.le_refl _, below_drewN (Below.refl _ _) _⟩
        case round =>
          obtain ⟨j, rfl, hj0, HWR⟩ := hrel
          have hj0 : j = 0 := by omega
          subst hj0
          go_wp2_with fail
          refine bodyPost_ret (v := .bool true) (by first | (simp [results, go_sem]; done) | (simp [results, go_sem]; omega)) rfl ?_
          exact ⟨rfl, HWR.out⟩
    · obtain ⟨hdd, hdb⟩ := hdad (by omega)
      subst hdd
      have hu1 : ¬ dcp = up := by omega
      have hu2 : up + qn ≤ dcp := by omega
      clear hdad
      go_enter Tryz.func86, Tryz.ntmps86
      go_wp2_with fail
      go_quiet (fail)
      revert nq; intro nq1
      go_wp2_with fail
      go_quiet (fail)
      rw [Nat.add_sub_cancel_left]
      go_wp2_with fail
      go_loopw [207] (fun jv wr => ∃ j : Nat, jv = .int .i64 (j : Int) ∧ j ≤ qn ∧ Hid (Below W.heap.size W wr ∧ ∀ j' d, j' < j → l[j']? = some d → descOk ns nup d = true)) (fun jv _ => qn - (intOf jv).toNat)
      case atStart => exact ⟨0, rfl, Nat.zero_le _, below_two (below_drewN (Below.refl _ _) _) (below_drewN (Below.refl _ _) _), fun _ _ h => absurd h (Nat.not_lt_zero _)⟩
      case round =>
        obtain ⟨j, rfl, hj0, HR⟩ := hrel
        by_cases hj : j < qn
        · obtain ⟨⟨d1, d2⟩, e1, e2, e3, e4, e5⟩ := HEA.out j hj
          have w1 := (HR.out.1.cell (p := ⟨db, up * 2 + j * 2, none⟩) hdb).trans e4
          have w2 := (HR.out.1.cell (p := ⟨db, up * 2 + j * 2 + 1, none⟩) hdb).trans e5
          have w3 := (HR.out.1.cell (p := ⟨pb, P * 8 + 1, none⟩) hpb).trans p1
          have hdbr : db < wr.heap.size := Nat.lt_of_lt_of_le hdb HR.out.1.size
          have hpbr : pb < wr.heap.size := Nat.lt_of_lt_of_le hpb HR.out.1.size
          have hj' : (j : Int) < (qn : Int) := by omega
          have HLJ : Hid (l[j]? = some (d1, d2)) := e1
          simp only at e2 e3 w1 w2
          clear e1 e4 e5
          have HBX : Hid (∀ q, Below W.heap.size W ((wr.alloc (.cells #[.int .u8 (d1 : Int), .int .u8 (d2 : Int)] 165)).drewN q)) := fun q => below_drewN (below_two HR.out.1 (below_one _ _)) q
          by_cases hk1 : d1 = 1
          · subst hk1
            by_cases hk2 : ns ≤ d2
            · have hk2' : (ns : Int) ≤ (d2 : Int) := by omega
              have HBAD : Hid (l.all (descOk ns nup) = false) := by
                show _ = _
                rw [List.all_eq_false]
                exact ⟨_, List.mem_of_getElem? HLJ.out, by simp [descOk]; omega⟩
              go_wp2_with fail
              go_quiet (fail)
              go_wp2_with fail
              refine bodyPost_ret (v := .bool false) (by first | (simp [results, go_sem]; done) | (simp [results, go_sem]; omega)) rfl ?_
              exact ⟨by rw [HBAD.out], HBX.out _⟩
            · have hk2' : ¬ (ns : Int) ≤ (d2 : Int) := by omega
              have HGO : Hid (∀ j' d, j' < j + 1 → l[j']? = some d → descOk ns nup d = true) := by
                intro j' d h1 h2
                by_cases h3 : j' < j
                · exact HR.out.2 j' d h3 h2
                · have h4 : j' = j := by omega
                  rw [h4, HLJ.out] at h2
                  cases h2
                  simp [descOk]; omega
              go_wp2_with fail
              go_quiet (fail)
              go_wp2_with fail
              go_roundw
              case rel => first | exact ⟨j + 1, by go_num, by omega, HBX.out _, HGO.out⟩ | ((repeat apply Exists.intro); refine ⟨?_, rfl⟩; exact ⟨j + 1, by go_num, by omega, HBX.out _, HGO.out⟩) | ((repeat apply Exists.intro); refine ⟨rfl, ?_⟩; exact ⟨j + 1, by go_num, by omega, HBX.out _, HGO.out⟩)
              case measure => simp [intOf]; omega
          · have hk0 : d1 = 0 := by omega
            subst hk0
            by_cases hk2 : nup ≤ d2
            · have hk2' : (nup : Int) ≤ (d2 : Int) := by omega
              have HBAD : Hid (l.all (descOk ns nup) = false) := by
                show _ = _
                rw [List.all_eq_false]
                exact ⟨_, List.mem_of_getElem? HLJ.out, by simp [descOk]; omega⟩
              go_wp2_with fail
              go_quiet (fail)
              go_wp2_with fail
              refine bodyPost_ret (v := .bool false) (by first | (simp [results, go_sem]; done) | (simp [results, go_sem]; omega)) rfl ?_
              exact ⟨by rw [HBAD.out], HBX.out _⟩
            · have hk2' : ¬ (nup : Int) ≤ (d2 : Int) := by omega
              have HGO : Hid (∀ j' d, j' < j + 1 → l[j']? = some d → descOk ns nup d = true) := by
                intro j' d h1 h2
                by_cases h3 : j' < j
                · exact HR.out.2 j' d h3 h2
                · have h4 : j' = j := by omega
                  rw [h4, HLJ.out] at h2
                  cases h2
                  simp [descOk]; omega
              go_wp2_with fail
              go_quiet (fail)
              go_wp2_with fail
              go_roundw
              case rel => first | exact ⟨j + 1, by go_num, by omega, HBX.out _, HGO.out⟩ | ((repeat apply Exists.intro); refine ⟨?_, rfl⟩; exact ⟨j + 1, by go_num, by omega, HBX.out _, HGO.out⟩) | ((repeat apply Exists.intro); refine ⟨rfl, ?_⟩; exact ⟨j + 1, by go_num, by omega, HBX.out _, HGO.out⟩)
              case measure => simp [intOf]; omega
        · have hje : j = qn := by omega
          have hj' : ¬ (j : Int) < (qn : Int) := by omega
          have HALL : Hid (l.all (descOk ns nup) = true) := by
            show _ = _
            rw [List.all_eq_true]
            intro d hd
            obtain ⟨k, hk, rfl⟩ := List.getElem_of_mem hd
            exact HR.out.2 k _ (by rw [hje, ← HL.out]; exact hk) (List.getElem?_eq_getElem hk)
          go_wp2_with fail
          refine bodyPost_ret (v := .bool true) (by first | (simp [results, go_sem]; done) | (simp [results, go_sem]; omega)) rfl ?_
          exact ⟨by rw [HALL.out], HR.out.1⟩
  · rw [decide_eq_false hb, Bool.false_and]
    have hb' : (pl : Int) ≤ (x : Int) := by omega
    clear hd
    go_enter Tryz.func86, Tryz.ntmps86
    go_wp2_with fail
    go_quiet (fail)
    go_wp2_with fail
    refine bodyPost_ret (v := .bool false) (by first | (simp [results, go_sem]; done) | (simp [results, go_sem]; omega)) rfl ?_
    exact ⟨rfl, below_drewN (Below.refl _ _) _⟩
end Go.Proofs.Qxb6500293aGreatRR
