import Derived.Test.Qxb6500290aM17
namespace Go.Proofs.Qxb6500290a
open Go.RowKit
open Ieee (double)
set_option linter.unusedVariables false

/-- An answer's block. -/
abbrev oAns (E N M : Int) (Z : List UInt8) : Obj := .cells #[.int .i64 E, .int .i64 N, .int .i64 M, .string ⟨Z.toArray⟩, .string ⟨#[]⟩] 49
theorem ans_cells {E N M : Int} {Z : List UInt8} {w4 w5 : World} (h : Below (w4.alloc (oAns E N M Z)).heap.size (w4.alloc (oAns E N M Z)) w5) :
    w5.cell? ⟨w4.heap.size, 0, none⟩ = some (.int .i64 E) ∧ w5.cell? ⟨w4.heap.size, 1, none⟩ = some (.int .i64 N) ∧ w5.cell? ⟨w4.heap.size, 2, none⟩ = some (.int .i64 M) ∧
    w5.cell? ⟨w4.heap.size, 3, none⟩ = some (.string ⟨Z.toArray⟩) ∧ w5.cell? ⟨w4.heap.size, 4, none⟩ = some (.string ⟨#[]⟩) := by
  have h1 : w5.heap[w4.heap.size]? = some (oAns E N M Z) := by
    rw [h.block _ (by simp)]
    show (w4.heap.push _)[_]? = _
    simp
  simp [World.cell?, h1]

/-- What the walk of the two sides answers. -/
def WalkEnd (len : Nat) (w : World) (e : Ending) (w' : World) : Prop := e = .returned (.tuple #[.int .i64 (-1), .int .i64 (len : Int)]) ∧ Below w.heap.size w w'

set_option maxRecDepth 8000 in
set_option maxHeartbeats 3200000 in
theorem walk_any (a : Option Addr) (len cap : Nat) (q : Bool) (w : World) (hs : IsOps w a len) :
    Calls Try.prog 13 #[.slice a len cap, .bool q] w (WalkEnd len w) := by
  obtain ⟨hlen, hops⟩ := hs
  cases q
  case true =>
    go_enter Try.func13, Try.ntmps13
    go_wp2_with fail
    refine (new_any _).mono ?_; rintro e w1 ⟨rfl, hb1, hn1, hbl1, hsz1⟩
    have HN : Hid (NumW (w.heap.size + 1) w.heap.size w1) := ⟨hn1, by omega, _, hb1, by simp⟩
    clear hb1 hn1
    go_wp2_with fail
    refine (newM_any _).mono ?_; rintro e w2 ⟨rfl, hbl2⟩
    have HN2 : Hid (NumW (w.heap.size + 1) w.heap.size w2) := HN.out.below hbl2
    have HB : Hid (Below w.heap.size w w2) := hbl1.trans (hbl2.mono (by have := hbl1.size; omega))
    have hsz2 := hbl2.size
    clear HN hbl1 hbl2
    go_wp2_with fail
    go_loopw [8] (fun i w3 => ∃ k : Nat, i = .int .i64 (k : Int) ∧ k ≤ len ∧ NumW (w.heap.size + 1) w.heap.size w3 ∧ Below w.heap.size w w3) (fun i _ => len - (intOf i).toNat)
    case atStart => exact ⟨0, rfl, by omega, HN2.out, HB.out⟩
    case round =>
      obtain ⟨k, rfl, hk, hnw, hbl⟩ := hrel
      by_cases hlt : k < len
      · rcases hops with h0 | ⟨b, off, rfl, hbw, hall⟩
        · omega
        obtain ⟨K, A, B, C, S, T, hop⟩ := hall k hlt
        have HOP : Hid (OpAt w b off k K A B C S T) := hop
        have hop2 := hop.below hbl hbw
        obtain ⟨c0, c1, c2, c3, c4, c5, iK, iA, iB, iC, lS, lT⟩ := hop2
        clear hop hall
        have d1 : decide ((k : Int) < (len : Int)) = true := decide_eq_true (by omega)
        have d2 : decide ((k : Int) < 4398046511104) = true := decide_eq_true (by omega)
        go_wp2_with fail
        refine (do_R _ _ K A B C S T _ hnw iA lS).mono ?_; rintro e w4 ⟨rfl, hok⟩
        have hbl4 : Below w.heap.size w w4 := hbl.trans (hok.stp.below (Nat.le_refl _) hbl.size)
        obtain ⟨x0, x1, x2, x3, x4, x5, -⟩ := HOP.out.below hbl4 hbw
        have HOK : Hid (Ok _ _ _ _) := hok
        have HBL4 : Hid (Below w.heap.size w w4) := hbl4
        have H2 := fun p w => do_M p K A B C S T w iA lS
        clear hok hbl4 c0 c1 c2 c3 c4 c5
        generalize doP K A B C S = v at *
        obtain ⟨E, N, M, Z⟩ := v
        unfold DoEndM at H2
        simp only [ansV] at H2 ⊢
        clear iK iA iB iC lS lT HN2 HB hsz2 hsz1 hnw hbl d1 d2
        have hb4 : b < w4.heap.size := by have := HBL4.out.size; omega
        have hb5 : ¬ b = w4.heap.size := by omega
        go_wp2_with fail
        refine (H2 _ _).mono ?_; rintro e w5 ⟨rfl, hbl5⟩
        obtain ⟨y0, y1, y2, y3, y4⟩ := ans_cells hbl5
        have HBL5 : Hid (Below (w4.alloc (oAns E N M Z)).heap.size (w4.alloc (oAns E N M Z)) w5) := hbl5
        have s5 : w4.heap.size < w5.heap.size := by have := hbl5.size; simp at this; omega
        have s6 : ¬ w4.heap.size = w5.heap.size := by omega
        have HNF : Hid (NumW (w.heap.size + 1) w.heap.size (w5.alloc (oAns E N M Z))) := (((HOK.out.alloc (oAns E N M Z)).num.below HBL5.out).below ((Below.refl _ _).alloc (Nat.le_refl _) _))
        have HBF : Hid (Below w.heap.size w (w5.alloc (oAns E N M Z))) := (((HBL4.out.alloc HBL4.out.size _).trans (HBL5.out.mono (by have := HBL4.out.size; simp; omega))).alloc (by have := HBL4.out.size; omega) _)
        clear hbl5 x0 x1 x2 x3 x4 x5
        go_wp2_with fail
        go_roundw
        case rel => exact ⟨k + 1, by go_num, by omega, HNF.out, HBF.out⟩
        case measure => simp [intOf]; omega
      · go_wp2
        go_ret2
        have : k = len := by omega
        subst this
        exact ⟨rfl, hbl⟩
  case false =>
    go_enter Try.func13, Try.ntmps13
    go_wp2_with fail
    refine (new_any _).mono ?_; rintro e w1 ⟨rfl, hb1, hn1, hbl1, hsz1⟩
    have HN : Hid (NumW (w.heap.size + 1) w.heap.size w1) := ⟨hn1, by omega, _, hb1, by simp⟩
    clear hb1 hn1
    go_wp2_with fail
    refine (newM_any _).mono ?_; rintro e w2 ⟨rfl, hbl2⟩
    have HN2 : Hid (NumW (w.heap.size + 1) w.heap.size w2) := HN.out.below hbl2
    have HB : Hid (Below w.heap.size w w2) := hbl1.trans (hbl2.mono (by have := hbl1.size; omega))
    have hsz2 := hbl2.size
    clear HN hbl1 hbl2
    go_wp2_with fail
    refine (seen_any _ _ _ _ HN2.out).mono ?_; rintro e w' ⟨rfl, rfl⟩
    go_wp2_with fail
    go_loopw [8] (fun i w3 => ∃ k : Nat, i = .int .i64 (k : Int) ∧ k ≤ len ∧ NumW (w.heap.size + 1) w.heap.size w3 ∧ Below w.heap.size w w3) (fun i _ => len - (intOf i).toNat)
    case atStart => exact ⟨0, rfl, by omega, HN2.out, HB.out⟩
    case round =>
      obtain ⟨k, rfl, hk, hnw, hbl⟩ := hrel
      by_cases hlt : k < len
      · rcases hops with h0 | ⟨b, off, rfl, hbw, hall⟩
        · omega
        obtain ⟨K, A, B, C, S, T, hop⟩ := hall k hlt
        have HOP : Hid (OpAt w b off k K A B C S T) := hop
        have hop2 := hop.below hbl hbw
        obtain ⟨c0, c1, c2, c3, c4, c5, iK, iA, iB, iC, lS, lT⟩ := hop2
        clear hop hall
        have d1 : decide ((k : Int) < (len : Int)) = true := decide_eq_true (by omega)
        have d2 : decide ((k : Int) < 4398046511104) = true := decide_eq_true (by omega)
        go_wp2_with fail
        refine (do_R _ _ K A B C S T _ hnw iA lS).mono ?_; rintro e w4 ⟨rfl, hok⟩
        have hbl4 : Below w.heap.size w w4 := hbl.trans (hok.stp.below (Nat.le_refl _) hbl.size)
        obtain ⟨x0, x1, x2, x3, x4, x5, -⟩ := HOP.out.below hbl4 hbw
        have HOK : Hid (Ok _ _ _ _) := hok
        have HBL4 : Hid (Below w.heap.size w w4) := hbl4
        have H2 := fun p w => do_M p K A B C S T w iA lS
        clear hok hbl4 c0 c1 c2 c3 c4 c5
        generalize doP K A B C S = v at *
        obtain ⟨E, N, M, Z⟩ := v
        unfold DoEndM at H2
        simp only [ansV] at H2 ⊢
        clear iK iA iB iC lS lT HN2 HB hsz2 hsz1 hnw hbl d1 d2
        have hb4 : b < w4.heap.size := by have := HBL4.out.size; omega
        have hb5 : ¬ b = w4.heap.size := by omega
        go_wp2_with fail
        refine (H2 _ _).mono ?_; rintro e w5 ⟨rfl, hbl5⟩
        obtain ⟨y0, y1, y2, y3, y4⟩ := ans_cells hbl5
        have HBL5 : Hid (Below (w4.alloc (oAns E N M Z)).heap.size (w4.alloc (oAns E N M Z)) w5) := hbl5
        have s5 : w4.heap.size < w5.heap.size := by have := hbl5.size; simp at this; omega
        have s6 : ¬ w4.heap.size = w5.heap.size := by omega
        have HNF : Hid (NumW (w.heap.size + 1) w.heap.size (w5.alloc (oAns E N M Z))) := (((HOK.out.alloc (oAns E N M Z)).num.below HBL5.out).below ((Below.refl _ _).alloc (Nat.le_refl _) _))
        have HBF : Hid (Below w.heap.size w (w5.alloc (oAns E N M Z))) := (((HBL4.out.alloc HBL4.out.size _).trans (HBL5.out.mono (by have := HBL4.out.size; simp; omega))).alloc (by have := HBL4.out.size; omega) _)
        clear hbl5 x0 x1 x2 x3 x4 x5
        go_wp2_with fail
        refine (seen_any _ _ _ _ HNF.out).mono ?_; rintro e w' ⟨rfl, rfl⟩
        go_wp2_with fail
        go_roundw
        case rel => exact ⟨k + 1, by go_num, by omega, HNF.out, HBF.out⟩
        case measure => simp [intOf]; omega
      · go_wp2
        go_ret2
        have : k = len := by omega
        subst this
        exact ⟨rfl, hbl⟩

theorem refinesUpTo_any (a : Option Addr) (len cap : Nat) (w : World) (hs : IsOps w a len) :
    Calls Try.prog 8 #[.slice a len cap] w fun e w' => e = .returned (.int .i64 (-1)) ∧ Below w.heap.size w w' := by
  have H := walk_any a len cap false w hs
  clear hs
  go_enter Try.func8, Try.ntmps8
  go_wp2_with fail
  refine H.mono ?_; rintro e w1 ⟨rfl, hb⟩
  go_wp2
  go_ret
  exact ⟨rfl, hb⟩
theorem refinesQuietUpTo_any (a : Option Addr) (len cap : Nat) (w : World) (hs : IsOps w a len) :
    Calls Try.prog 9 #[.slice a len cap] w fun e w' => e = .returned (.int .i64 (-1)) ∧ Below w.heap.size w w' := by
  have H := walk_any a len cap true w hs
  clear hs
  go_enter Try.func9, Try.ntmps9
  go_wp2_with fail
  refine H.mono ?_; rintro e w1 ⟨rfl, hb⟩
  go_wp2
  go_ret
  exact ⟨rfl, hb⟩
theorem refines_walk (a : Option Addr) (len cap : Nat) (w : World) (hs : IsOps w a len) :
    Calls Try.prog 4 #[.slice a len cap] w fun e w' => e = .returned (.bool true) ∧ Below w.heap.size w w' := by
  have H := refinesUpTo_any a len cap w hs
  clear hs
  go_enter Try.func4, Try.ntmps4
  go_wp2_with fail
  refine H.mono ?_; rintro e w1 ⟨rfl, hb⟩
  go_wp2
  go_ret
  exact ⟨rfl, hb⟩
theorem refinesQuiet_walk (a : Option Addr) (len cap : Nat) (w : World) (hs : IsOps w a len) :
    Calls Try.prog 5 #[.slice a len cap] w fun e w' => e = .returned (.bool true) ∧ Below w.heap.size w w' := by
  have H := refinesQuietUpTo_any a len cap w hs
  clear hs
  go_enter Try.func5, Try.ntmps5
  go_wp2_with fail
  refine H.mono ?_; rintro e w1 ⟨rfl, hb⟩
  go_wp2
  go_ret
  exact ⟨rfl, hb⟩
end Go.Proofs.Qxb6500290a
