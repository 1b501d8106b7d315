/-
  KeepsUpTo, Keeps walked.
-/
import Derived.Test.Qxb6500292aK19
namespace Go.Proofs.Qxb6500292a
open Go.RowKit
open Ieee (double)
set_option linter.unusedVariables false
set_option linter.unusedSimpArgs false

theorem knewM_any (w : World) : Calls Try.prog 16 #[] w fun e w' => e = .returned (.pointer (some ⟨w.heap.size, 0, none⟩)) ∧ Below w.heap.size w w' := by
  go_enter Try.func16, Try.ntmps16
  go_wp2
  go_ret
  exact ⟨rfl, below_one _ _⟩
set_option maxHeartbeats 800000 in
theorem kground_any (w : World) : Calls Try.prog 8 #[] w fun e w' => (∃ nb mb, e = .returned (.agg #[.pointer (some ⟨nb, 0, none⟩), .pointer (some ⟨mb, 0, none⟩)])) ∧ Below w.heap.size w w' := by
  go_enter Try.func8, Try.ntmps8
  go_wp2_with fail
  refine (new_any _).mono ?_; rintro e w1 ⟨rfl, -, -, hb1, -⟩
  have HB1 : Hid (Below w.heap.size w w1) := below_two (below_one w _) hb1
  have hc : w1.heap[w.heap.size]? = some (.cells #[.pointer none, .pointer none] 30) := (hb1.block _ (by simp)).trans (World.alloc_heap_new _ _)
  have HC : Hid (w1.heap[w.heap.size]? = some (.cells #[.pointer none, .pointer none] 30)) := hc
  clear hb1 hc
  go_wp2_with fail
  refine (knewM_any _).mono ?_; rintro e w2 ⟨rfl, hb2⟩
  have hc2 := (hb2.block _ (Array.getElem?_eq_some_iff.1 HC.out).1).trans HC.out
  have c0 : w2.cell? ⟨w.heap.size, 0, none⟩ = some (.pointer none) := by simp [World.cell?, hc2]
  have c1 : w2.cell? ⟨w.heap.size, 1, none⟩ = some (.pointer none) := by simp [World.cell?, hc2]
  have f0 : w2.frozen? ⟨w.heap.size, 0, none⟩ = false := by simp [World.frozen?, hc2]
  have f1 : w2.frozen? ⟨w.heap.size, 1, none⟩ = false := by simp [World.frozen?, hc2]
  have HB2 : Hid (Below w.heap.size w w2) := below_two HB1.out hb2
  clear hb2 hc2
  go_wp2
  refine bodyPost_ret (v := .agg #[.pointer (some ⟨w.heap.size + 1 + 1, 0, none⟩), .pointer (some ⟨w1.heap.size, 0, none⟩)]) (by simp [results, go_sem, c0, c1]) rfl ?_
  refine ⟨⟨_, _, rfl⟩, ?_⟩
  repeat (first | refine below_set0 ?_ _ _ | refine Below.setCell ?_ (Nat.le_refl _) _)
  exact HB2.out
theorem ktnew_any (nb : Nat) (w : World) : Calls Try.prog 9 #[.pointer (some ⟨nb, 0, none⟩)] w fun e w' => e = .returned (.pointer (some ⟨w.heap.size, 0, none⟩)) ∧ w' = w.alloc (.cells #[.pointer (some ⟨nb, 0, none⟩), .slice none 0 0, .int .i64 0] 60) := by
  go_enter Try.func9, Try.ntmps9
  go_wp2
  go_ret
  exact ⟨rfl, rfl⟩
abbrev kR (nb : Nat) : Obj := .cells #[.pointer (some ⟨nb, 0, none⟩), .slice none 0 0, .int .i64 0] 60
abbrev kG : Obj := .cells #[.int .i64 0, .int .i64 0, .int .i64 0, .int .i64 0, .int .i64 0, .int .i64 0, .int .i64 0, .int .i64 0, .int .i64 0, .int .i64 0, .int .i64 0, .int .i64 0, .int .i64 0, .slice none 0 0] 38
abbrev kQ : Obj := .cells #[.int .i64 0, .int .u64 0, .string ⟨#[]⟩, .int .i64 0, .int .u64 0, .string ⟨#[]⟩] 44
abbrev kB (nb mb : Nat) : Obj := .cells #[.pointer (some ⟨nb, 0, none⟩), .pointer (some ⟨mb, 0, none⟩)] 30
/-- The law's world at the loop's head. -/
def KL (w : World) (X nb mb : Nat) (W : World) : Prop := ∃ own st gs k v, Ke own W (X + 1) (X + 1 + 1) (X + 1 + 1 + 1) st st gs k v ∧ k.Ok ∧ v.Ok ∧ (∀ b, b < w.heap.size → own b = 0) ∧ own X = 0 ∧ W.heap[X]? = some (kB nb mb) ∧ Below w.heap.size w W
theorem KL.next {w : World} {X nb mb : Nat} {own : Nat → Nat} {W W' : World} (h1 : ∀ b, b < w.heap.size → own b = 0) (h2 : own X = 0) (h3 : W.heap[X]? = some (kB nb mb)) (h4 : Below w.heap.size w W) (hE : KeEnd own W (X + 1) (X + 1 + 1) (X + 1 + 1 + 1) W') : KL w X nb mb W' := by
  obtain ⟨own', st', gs', k', v', ho, hke, hk, hv, hc⟩ := hE
  have hs := h4.size
  have hX := (Array.getElem?_eq_some_iff.1 h3).1
  refine ⟨own', st', gs', k', v', hke, hk, hv, fun b hb => (ho b (by omega)).trans (h1 b hb), (ho X hX).trans h2, (hc.block X hX h2).trans h3, ⟨hc.os.trans h4.os, hc.tape.trans h4.tape, hc.output.trans h4.output, Nat.le_trans hs hc.size, fun b hb => (hc.block b (by omega) (h1 b hb)).trans (h4.block b hb)⟩⟩
theorem kl_start {w w1 : World} (hb : Below w.heap.size w w1) (nb mb : Nat) : ∃ own, Ke own ((((w1.alloc (kB nb mb)).alloc (kR nb)).alloc kG).alloc kQ) (w1.heap.size + 1) (w1.heap.size + 1 + 1) (w1.heap.size + 1 + 1 + 1) [] [] [] nilV nilV ∧ (∀ b, b < w.heap.size → own b = 0) ∧ own w1.heap.size = 0 ∧ ((((w1.alloc (kB nb mb)).alloc (kR nb)).alloc kG).alloc kQ).heap[w1.heap.size]? = some (kB nb mb) ∧ Below w.heap.size w ((((w1.alloc (kB nb mb)).alloc (kR nb)).alloc kG).alloc kQ) := by
  have hs := hb.size
  have hW : Below w.heap.size w ((((w1.alloc (kB nb mb)).alloc (kR nb)).alloc kG).alloc kQ) := below_two hb (below_two (below_two (below_two (below_one _ _) (below_one _ _)) (below_one _ _)) (below_one _ _))
  have e0 : ((((w1.alloc (kB nb mb)).alloc (kR nb)).alloc kG).alloc kQ).heap[w1.heap.size]? = some (kB nb mb) := by
    simp only [alloc_at, World.size_alloc]
    rw [if_neg (show ¬ w1.heap.size = w1.heap.size + 1 + 1 + 1 by omega), if_neg (show ¬ w1.heap.size = w1.heap.size + 1 + 1 by omega), if_neg (show ¬ w1.heap.size = w1.heap.size + 1 by omega), if_pos trivial]
  have e1 : ((((w1.alloc (kB nb mb)).alloc (kR nb)).alloc kG).alloc kQ).heap[w1.heap.size + 1]? = some (kR nb) := by simp only [alloc_at, World.size_alloc]; simp
  have e2 : ((((w1.alloc (kB nb mb)).alloc (kR nb)).alloc kG).alloc kQ).heap[w1.heap.size + 1 + 1]? = some kG := by simp only [alloc_at, World.size_alloc]; simp
  have e3 : ((((w1.alloc (kB nb mb)).alloc (kR nb)).alloc kG).alloc kQ).heap[w1.heap.size + 1 + 1 + 1]? = some kQ := by simp only [alloc_at, World.size_alloc]; simp
  generalize ((((w1.alloc (kB nb mb)).alloc (kR nb)).alloc kG).alloc kQ) = W at *
  generalize w1.heap.size = X at *
  obtain ⟨own, hown⟩ : ∃ own : Nat → Nat, own = fun b => if b = X + 1 then 1 else if b = X + 1 + 1 then 300 else if b = X + 1 + 1 + 1 then 200 else 0 := ⟨_, rfl⟩
  have o1 : own (X + 1) = 1 := by rw [hown]; exact if_pos rfl
  have o2 : own (X + 1 + 1) = 300 := by rw [hown]; exact (if_neg (by omega)).trans (if_pos rfl)
  have o3 : own (X + 1 + 1 + 1) = 200 := by rw [hown]; exact (if_neg (by omega)).trans ((if_neg (by omega)).trans (if_pos rfl))
  have o4 : ∀ b, b ≤ X → own b = 0 := fun b hb => by rw [hown]; exact (if_neg (by omega)).trans ((if_neg (by omega)).trans (if_neg (by omega)))
  clear hown
  have hxl := (Array.getElem?_eq_some_iff.1 e1).1
  have r1 : RS own W (X + 1) [] := ⟨[], 0, ⟨⟨nb, .slice none 0 0, ⟨by simp [World.cell?, e1], by simp [World.cell?, e1], by simp [World.cell?, e1], (fun j => by simp [World.frozen?, e1]), hxl⟩, World.ownsRow_nil _ _ _ _, (fun g hg => by cases hg)⟩, o1, (fun h r hr => by simp at hr), by simp, by simp, (fun h r hr => by simp at hr)⟩, rfl⟩
  have r2 : GhAt own W (X + 1 + 1) [] [] := ⟨⟨.slice none 0 0, e2, World.ownsRow_nil _ _ _ _, (fun g hg => by cases hg)⟩, o2, rel_nil, by simp⟩
  exact ⟨own, ⟨r1, r2, e3, o3⟩, fun b hb => o4 b (by omega), o4 X (Nat.le_refl _), e0, hW⟩
set_option maxRecDepth 8000 in
set_option maxHeartbeats 3200000 in
theorem keepsUpTo_any (a : Option Addr) (len cap : Nat) (w : World) (hs : IsOps w a len) :
    Calls Try.prog 6 #[.slice a len cap] w fun e w' => e = .returned (.int .i64 (-1)) ∧ Below w.heap.size w w' := by
  obtain ⟨hlen, hops⟩ := hs
  go_enter Try.func6, Try.ntmps6
  go_wp2_with fail
  refine (kground_any _).mono ?_; rintro e w1 ⟨⟨nb, mb, rfl⟩, hb1⟩
  have HB1 : Hid (Below w.heap.size w w1) := hb1
  clear hb1
  go_wp2_with fail
  refine (ktnew_any _ _).mono ?_; rintro e w2 ⟨rfl, rfl⟩
  go_wp2_with fail
  obtain ⟨own, hke, z1, z2, z3, z4⟩ := kl_start HB1.out nb mb
  have hn : nilV.Ok := ⟨by decide, by decide, by decide, by decide⟩
  have i0 : I64 0 := ⟨by decide, by decide⟩
  have HKP := kept_any own _ _ _ (.pointer (some ⟨nb, 0, none⟩)) (.pointer (some ⟨mb, 0, none⟩)) [] [] nilV nilV 0 0 0 0 [] [] _ hke hn hn i0 i0 (by simp)
  have HNX : Hid (∀ W', KeEnd own ((((w1.alloc (kB nb mb)).alloc (kR nb)).alloc kG).alloc kQ) (w1.heap.size + 1) (w1.heap.size + 1 + 1) (w1.heap.size + 1 + 1 + 1) W' → KL w w1.heap.size nb mb W') := fun W' hE => KL.next z1 z2 z3 z4 hE
  rw [opV_mk] at HKP
  refine HKP.mono ?_; rintro e w3 ⟨rfl, hE⟩
  have H3 : Hid (KL w w1.heap.size nb mb w3) := HNX.out _ hE
  clear hE HNX HKP hke z1 z2 z3 z4 HB1
  obtain ⟨X, hX⟩ : ∃ X, X = w1.heap.size := ⟨_, rfl⟩
  rw [← hX] at H3 ⊢
  clear hX
  go_wp2_with fail
  go_loopw [7] (fun j wr => ∃ n : Nat, j = .int .i64 (n : Int) ∧ n ≤ len ∧ Hid (KL w X nb mb wr)) (fun j _ => len - (intOf j).toNat)
  case atStart => exact ⟨0, by go_num, by omega, H3⟩
  case round =>
    obtain ⟨n, rfl, hn, HT⟩ := hrel
    by_cases hlt : n < len
    · obtain ⟨own, st, gs, k, v, hke, hk, hv, z1, z2, z3, z4⟩ := HT.out
      rcases hops with h0 | ⟨b, off, rfl, hbw, hall⟩
      · omega
      obtain ⟨K, A, B, C, S, T, hop⟩ := hall n hlt
      have hop2 := hop.below z4 hbw
      obtain ⟨c0, c1, c2, c3, c4, c5, iK, iA, iB, iC, lS, lT⟩ := hop2
      obtain ⟨b0, b1⟩ := b_cells z3
      have HKP := kept_any own _ _ _ (.pointer (some ⟨nb, 0, none⟩)) (.pointer (some ⟨mb, 0, none⟩)) st gs k v K A B C S T wr.drew (hke.below (Below.drew (Below.refl _ _))) hk hv iA iB lS
      rw [opV_mk] at HKP
      have HNX : Hid (∀ W', KeEnd own wr.drew (X + 1) (X + 1 + 1) (X + 1 + 1 + 1) W' → KL w X nb mb W') := fun W' hE => KL.next (W := wr.drew) z1 z2 z3 (below_two z4 (Below.drew (Below.refl _ _))) hE
      have d1 : decide ((n : Int) < (len : Int)) = true := decide_eq_true (by omega)
      have d2 : decide ((n : Int) < 4398046511104) = true := decide_eq_true (by omega)
      clear hop hall hke HT iK iA iB iC lS lT z1 z2 z3 z4 hk hv
      go_upto_region 10 with fail
      go_cut [42] from 33 to 42 (fun c wx => c = .bool false ∧ Hid (KL w X nb mb wx))
      case first =>
        go_region_with (go_at_call 10; refine HKP.mono ?_; rintro e w4 ⟨rfl, hE⟩; have H4 : Hid (KL w X nb mb w4) := HNX.out _ hE; clear hE)
        all_goals
          go_wp2_with fail
          go_meet
          case rel => exact ⟨rfl, H4⟩
      case rest =>
        obtain ⟨rfl, HC⟩ := hcut
        go_wp2_with fail
        go_roundw
        case rel => exact ⟨n + 1, by go_num, by omega, HC⟩
        case measure => simp [intOf]; omega
    · obtain ⟨own, st, gs, k, v, hke, hk, hv, z1, z2, z3, z4⟩ := HT.out
      have HBW : Hid (Below w.heap.size w wr) := z4
      clear HT hops hke hk hv z1 z2 z3 z4
      have : n = len := by omega
      subst this
      go_wp2
      go_ret
      exact ⟨rfl, HBW.out⟩
theorem keeps_walk (a : Option Addr) (len cap : Nat) (w : World) (hs : IsOps w a len) :
    Calls Try.prog 3 #[.slice a len cap] w fun e w' => e = .returned (.bool true) ∧ Below w.heap.size w w' := by
  have H := keepsUpTo_any a len cap w hs
  clear hs
  go_enter Try.func3, Try.ntmps3
  go_wp2_with fail
  refine H.mono ?_; rintro e w1 ⟨rfl, hb⟩
  go_wp2
  go_ret
  exact ⟨rfl, hb⟩
end Go.Proofs.Qxb6500292a
