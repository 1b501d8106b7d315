import Derived.Test.Qxb6500293aGreatRRT26
namespace Go.Proofs.Qxb6500293aGreatRR
open Go.RowKit
open Ieee (double)
set_option linter.unusedVariables false
set_option linter.unusedSimpArgs false

set_option maxRecDepth 8000 in
set_option maxHeartbeats 3200000 in
/-- **Check** holds. -/
theorem check_any (own : Nat → Nat) (x : Nat) (reps : List TabR) (count : Nat) (w : World) (H : RealAt own w x reps count) :
    Calls Tryz.prog 31 #[.pointer (some ⟨x, 0, none⟩)] w fun e w' => e = .returned (.bool true) ∧ Below w.heap.size w w' := by
  obtain ⟨nb, vt, ht, hrow, hvc⟩ := H.tabs
  obtain ⟨adv, cpv, hvt⟩ := row_slice hrow
  obtain ⟨x0, x1, x2, fz, lx⟩ := id ht
  have hlm := H.max
  have hlc := H.cnt
  have hCM := fun h r w (H : RealAt own w x reps count) hr => checkMid_any own x reps count h r w H hr
  have HH : Hid (RealAt own w x reps count) := H
  have HX : Hid (TabsAt w x (.pointer (some ⟨nb, 0, none⟩)) vt count) := ht
  have HROW : Hid (w.ownsRow 0 105 6 vt reps.length (reps.flatMap tabC)) := hrow
  have HVT : Hid (vt = .slice adv reps.length cpv) := hvt
  rw [hvt] at x1
  obtain ⟨rl, hrl⟩ : ∃ rl, rl = reps.length := ⟨_, rfl⟩
  rw [← hrl] at x1 hlm hlc HVT
  have HRL : Hid (rl = reps.length) := hrl
  have d1 : decide ((count : Int) < 0) = false := decide_eq_false (by omega)
  have d2 : decide ((rl : Int) < (count : Int)) = false := decide_eq_false (by omega)
  have d3 : decide ((12 : Int) < (rl : Int)) = false := decide_eq_false (by omega)
  have d4 : decide (rl < count) = false := decide_eq_false (by omega)
  clear H hrow hvc ht hvt fz hrl
  go_enter Tryz.func31, Tryz.ntmps31
  go_wp2_with fail
  go_quiet (fail)
  go_wp2_with fail
  go_loopw [38] (fun j wr => ∃ n : Nat, j = .int .i64 (n : Int) ∧ n ≤ rl ∧ Hid (Below w.heap.size w wr)) (fun j _ => rl - (intOf j).toNat)
  case atStart => exact ⟨0, by go_num, by omega, below_drewN (Below.refl _ _) _⟩
  case round =>
    obtain ⟨n, rfl, hn, HB⟩ := hrel
    by_cases hlt : n < rl
    · obtain ⟨r, hr⟩ : ∃ r, reps[n]? = some r := ⟨_, List.getElem?_eq_getElem (by rw [← HRL.out]; exact hlt)⟩
      have HC := hCM n r wr (HH.out.below HB.out) hr
      have dn : decide ((n : Int) < (rl : Int)) = true := decide_eq_true (by omega)
      have HR : Hid (reps[n]? = some r) := hr
      clear hr
      go_wp2_with fail
      refine HC.mono ?_; rintro e w1 ⟨rfl, hb⟩
      have hB1 := below_two HB.out hb
      obtain ⟨hrep, hcls⟩ := HH.out.rep n r HR.out
      obtain ⟨A, cap, hvt, hta⟩ := tabAt_of HROW.out HR.out hrep
      rw [HVT.out, ← HRL.out] at hvt
      cases hvt
      obtain ⟨x0, x1, x2, _, _⟩ := HX.out.below hB1
      rw [HVT.out] at x1
      have hT1 := hta.below hB1
      obtain ⟨a0, a1, a2, a3, a4, a5, _, lA, rep1⟩ := id hT1
      obtain ⟨ada, ac, hva⟩ := row_slice hrep.arr
      obtain ⟨ado, oc, hvo⟩ := row_slice hrep.ord
      rw [hva] at a1
      rw [hvo] at a0
      have hal : r.a.length ≤ 32 := by have := hrep.sum; have := hrep.inv.len; omega
      have hl32 := hrep.inv.len
      have HFI := fun p w => fromInt_any p ((r.a.length : Int) + 1) w
      have efl : double.nearest (decide ((r.a.length : Int) + 1 < 0)) ((r.a.length : Int) + 1).natAbs 0 = fl (r.a.length + 1) := by
        rw [decide_eq_false (by omega), show ((r.a.length : Int) + 1).natAbs = r.a.length + 1 by omega]; rfl
      rw [efl] at HFI
      have hkey := Maps.keyOf_int_mk Tryz.underlying31 (u64_wf (fl_lt (r.a.length + 1)))
      have hlook := fun m => (rep1.nums.block (w' := w1.drewN m) (by rw [heap_drewN])).look nums_keyed Tryz.underlying102 hkey
      have hcl : idx r.t (numKey (r.a.length + 1)) = none := hcls
      rw [nums_fl (by omega) (by omega), hcl] at hlook
      simp only [Option.getD_none, Option.isSome_none] at hlook
      have hwp := HH.out.wiped n r HR.out
      have HB1 : Hid (Below w.heap.size w w1) := hB1
      have hlast : (count ≤ n ∧ r.t.length = 0) ∨ n < count := by
        by_cases c : count ≤ n
        · exact .inl ⟨c, by rw [(hwp c).1]; rfl⟩
        · exact .inr (by omega)
      generalize fl (r.a.length + 1) = FN at *
      generalize r.a.length = al at *
      generalize r.t.length = tl at *
      clear hb hB1 hrep hcls hta hT1 rep1 hva hvo efl hkey hcl hwp HC HR
      go_wp2_with fail
      go_quiet ((go_at_call 45; exact Calls.quiet_of_same (HFI _ _)))
      rcases hlast with ⟨hc, rfl⟩ | hc
      · have dc : decide ((count : Int) ≤ (n : Int)) = true := decide_eq_true (by omega)
        have dc2 : decide (count ≤ n) = true := decide_eq_true (by omega)
        go_wp2_with fail
        go_roundw
        case rel => exact ⟨n + 1, by go_num, by omega, below_drewN HB1.out _⟩
        case measure => simp [intOf]; omega
      · have dc : decide ((count : Int) ≤ (n : Int)) = false := decide_eq_false (by omega)
        have dc2 : decide (count ≤ n) = false := decide_eq_false (by omega)
        go_wp2_with fail
        go_roundw
        case rel => exact ⟨n + 1, by go_num, by omega, below_drewN HB1.out _⟩
        case measure => simp [intOf]; omega
    · have dn : decide ((n : Int) < (rl : Int)) = false := decide_eq_false (by omega)
      go_wp2
      go_ret
      exact ⟨rfl, HB.out⟩
end Go.Proofs.Qxb6500293aGreatRR
