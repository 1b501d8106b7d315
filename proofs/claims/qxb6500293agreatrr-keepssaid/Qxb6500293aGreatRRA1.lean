/-
  vals walked.
-/
import Derived.Test.Qxb6500293aGreatRRZ8
import Derived.Test.Qxb6500293aGreatRRY14
namespace Go.Proofs.Qxb6500293aGreatRR
open Go.RowKit
open Ieee (double)
set_option linter.unusedVariables false
set_option linter.unusedSimpArgs false

/-- Values in a row, as a slice's pointer bears them. -/
def VA (w : World) (b k : Nat) (l : List V) : Prop := b < w.heap.size ∧ ∀ j u, (l.flatMap valC)[j]? = some u → w.cell? ⟨b, k + j, none⟩ = some u
theorem VA.below {w w' : World} {b k : Nat} {l : List V} (h : VA w b k l) (hb : Below w.heap.size w w') : VA w' b k l :=
  ⟨Nat.lt_of_lt_of_le h.1 hb.size, fun j u hj => (hb.cell (p := ⟨b, k + j, none⟩) h.1).trans (h.2 j u hj)⟩
theorem flat_dropV (l : List V) (k : Nat) : (l.drop k).flatMap valC = (l.flatMap valC).drop (k * 3) := by
  induction k generalizing l with
  | zero => simp
  | succ k ih =>
    cases l with
    | nil => simp
    | cons v r =>
      have h3 : (valC v).length = 3 := rfl
      rw [List.drop_succ_cons, ih, List.flatMap_cons, show (k + 1) * 3 = 3 + k * 3 by omega, ← List.drop_drop, List.drop_left' h3]
theorem flat3 {l : List V} {j : Nat} {v : V} (h : l[j]? = some v) : (l.flatMap valC)[j * 3]? = some (.int .i64 v.T) ∧ (l.flatMap valC)[j * 3 + 1]? = some (.int .u64 (v.N : Int)) ∧ (l.flatMap valC)[j * 3 + 2]? = some (.string ⟨v.S.toArray⟩) := by
  have e : ∀ r, r < 3 → (l.flatMap valC)[j * 3 + r]? = (valC v)[r]? := by
    intro r hr
    have hj := (List.getElem?_eq_some_iff.1 h).1
    have := flat_dropV l j
    rw [show (l.flatMap valC)[j * 3 + r]? = ((l.flatMap valC).drop (j * 3))[r]? by rw [List.getElem?_drop], ← this, List.drop_eq_getElem_cons hj, List.flatMap_cons, List.getElem?_append_left (by show r < 3; exact hr)]
    have : l[j] = v := by
      have := List.getElem?_eq_getElem hj
      rw [h] at this
      injection this with this
      exact this.symm
    rw [this]
  exact ⟨e 0 (by decide), e 1 (by decide), e 2 (by decide)⟩
theorem valsP_succ {l : List V} {j : Nat} {v : V} (h : l[j]? = some v) : valsP (l.take (j + 1)) = valsP (l.take j) ++ (showV v ++ [44]) := by
  unfold valsP
  rw [List.take_add_one, h]
  simp
set_option maxRecDepth 8000 in
set_option maxHeartbeats 1600000 in
theorem vals_any (w : World) (b k cap : Nat) (l : List V) (hP : VA w b k l) (hv : ∀ v ∈ l, wfB v = true ∧ v.N < 18446744073709551616) (hl : l.length ≤ 2000) :
    Calls Tryz.prog 34 #[.slice (some ⟨b, k, none⟩) l.length cap] w fun e w' => e = .returned (.string ⟨(valsP l).toArray⟩) ∧ Below w.heap.size w w' := by
  have HP : Hid (VA w b k l) := hP
  have HV : Hid (∀ v ∈ l, wfB v = true ∧ v.N < 18446744073709551616) := hv
  clear hP hv
  go_enter Tryz.func34, Tryz.ntmps34
  go_wp2_with fail
  go_loopw [3, 9] (fun s i wr => ∃ (j : Nat) (sj : List UInt8), i = .int .i64 (j : Int) ∧ j ≤ l.length ∧ s = .string ⟨sj.toArray⟩ ∧ sj.length ≤ 64 * j ∧ Hid (sj = valsP (l.take j) ∧ Below w.heap.size w wr)) (fun _ i _ => l.length - (intOf i).toNat)
  case atStart => exact ⟨0, [], rfl, by omega, rfl, by simp, rfl, Below.refl _ _⟩
  case round =>
    obtain ⟨j, sj, rfl, hj, rfl, hsj, HR⟩ := hrel
    obtain ⟨hs, hbel⟩ := HR.out
    by_cases hjl : j < l.length
    · obtain ⟨v, hv⟩ : ∃ v, l[j]? = some v := ⟨_, List.getElem?_eq_getElem hjl⟩
      obtain ⟨g1, g2⟩ := HV.out v (List.mem_of_getElem? hv)
      obtain ⟨f0, f1, f2⟩ := flat3 hv
      have hPr := HP.out.below hbel
      have hb := hPr.1
      have c0 := hPr.2 _ _ f0
      have c1 := hPr.2 _ _ f1
      have c2 := hPr.2 _ _ f2
      rw [← Nat.add_assoc] at c1 c2
      have HS := showVal_any v
      have hl63 := showV_len g1 g2
      have HN : Hid (sj ++ (showV v ++ [44]) = valsP (l.take (j + 1))) := by show _ = _; rw [valsP_succ hv, hs]
      have dl : decide ((j : Int) < (l.length : Int)) = true := decide_eq_true (by omega)
      have HB : Hid (Below w.heap.size w wr) := hbel
      obtain ⟨T, N, S⟩ := v
      rw [valV_mk] at HS
      simp only at c0 c1 c2
      have HSQ := fun W => HS W g1 g2
      generalize showV ⟨T, N, S⟩ = z at *
      clear HR hs hbel g1 g2 f0 f1 f2 hPr hv HS
      generalize l.length = ll at *
      go_wp2_with fail
      refine (HSQ _).mono ?_; rintro e w2 ⟨rfl, hb2⟩
      have HB2 : Hid (Below w.heap.size w w2) := below_two HB.out (below_two (below_one _ _) hb2)
      clear hb2 HSQ HB
      go_wp2_with fail
      go_roundw
      case rel => exact ⟨j + 1, sj ++ (z ++ [44]), by go_num, by omega, by simp [str_append], by simp; omega, HN.out, HB2.out⟩
      case measure => simp [intOf]; omega
    · have hje : j = l.length := by omega
      have dl : decide ((j : Int) < (l.length : Int)) = false := decide_eq_false (by omega)
      have HB : Hid (Below w.heap.size w wr ∧ sj = valsP l) := ⟨hbel, by rw [hs, hje, List.take_length]⟩
      clear HR hs hbel
      generalize l.length = ll at *
      go_wp2_with fail
      go_ret
      exact ⟨by rw [HB.out.2]; rfl, HB.out.1⟩
end Go.Proofs.Qxb6500293aGreatRR
