import Derived.Test.Qxb6500292aR6
namespace Go.Proofs.Qxb6500292a
open Go.RowKit
open Ieee (double)
set_option linter.unusedVariables false
set_option linter.unusedSimpArgs false

/-- An answer's block. -/
abbrev oAns (E N : Int) (Z : List UInt8) : Obj := .cells #[.int .i64 E, .int .i64 N, .int .i64 0, .string ⟨Z.toArray⟩, .string ⟨#[]⟩] 53
/-- What the walk of the two sides answers. -/
def WalkEnd (len : Nat) (w : World) (e : Ending) (w' : World) : Prop := e = .returned (.tuple #[.int .i64 (-1), .int .i64 (len : Int)]) ∧ Below w.heap.size w w'
abbrev oR (nb : Nat) : Obj := .cells #[.pointer (some ⟨nb, 0, none⟩), .slice none 0 0, .int .i64 0] 60
abbrev oM (mb : Nat) : Obj := .cells #[.pointer (some ⟨mb, 0, none⟩), .slice none 0 0] 73
abbrev oG : Obj := .cells #[.int .i64 0, .int .u64 0, .string ⟨#[]⟩, .int .i64 0, .int .u64 0, .string ⟨#[]⟩] 44
/-- The world at the loop's start. -/
theorem two_new4 {w W1 : World} (hb : Below w.heap.size w W1) (nb mb : Nat) (W : World) (hW : (((W1.alloc (oR nb)).alloc (oM mb)).alloc oG).alloc oG = W) :
    ∃ own, Two own w W W1.heap.size (W1.heap.size + 1) (W1.heap.size + 1 + 1) (W1.heap.size + 1 + 1 + 1) [] nilV nilV := by
  have hp := push4 (w := W1.heap) (oR nb) (oM mb) oG oG
  have hh : W.heap = (((W1.heap.push (oR nb)).push (oM mb)).push oG).push oG := by rw [← hW]; rfl
  have hbW : Below w.heap.size w W := by
    rw [← hW]
    exact ((((hb.alloc hb.size _).alloc (by have := hb.size; simp; omega) _).alloc (by have := hb.size; simp; omega) _).alloc (by have := hb.size; simp; omega) _)
  refine ⟨_, two_start w W nb mb _ _ _ _ hbW ?_ ?_ ?_ ?_ hb.size (by omega) (by omega) (by omega)⟩
  · rw [hh]; exact hp.1
  · rw [hh]; exact hp.2.1
  · unfold RegAt; rw [hh]; exact hp.2.2.1
  · unfold RegAt; rw [hh]; exact hp.2.2.2

set_option maxRecDepth 8000 in
set_option maxHeartbeats 3200000 in
theorem walk_any (a : Option Addr) (len cap : Nat) (q : Bool) (w : World) (hs : IsOps w a len) :
    Calls Try.prog 7 #[.slice a len cap, .bool q] w (WalkEnd len w) := by
  obtain ⟨hlen, hops⟩ := hs
  cases q
  case true =>
    go_enter Try.func7, Try.ntmps7
    go_wp2_with fail
    refine (ground_any _).mono ?_; rintro e w1 ⟨⟨nb, mb, rfl⟩, hb1⟩
    have HB1 : Hid (Below w.heap.size w w1) := hb1
    clear hb1
    go_wp2_with fail
    refine (tnew_any _ _).mono ?_; rintro e w2 ⟨rfl, rfl⟩
    go_wp2_with fail
    refine (mnew_any _ _).mono ?_; rintro e w3 ⟨rfl, rfl⟩
    go_wp2_with fail
    obtain ⟨W1, hW1⟩ : ∃ W1, w1.alloc (.cells #[.pointer (some ⟨nb, 0, none⟩), .pointer (some ⟨mb, 0, none⟩)] 30) = W1 := ⟨_, rfl⟩
    have hs1 : W1.heap.size = w1.heap.size + 1 := by rw [← hW1]; simp
    have hbW1 : Below w.heap.size w W1 := by rw [← hW1]; exact HB1.out.alloc HB1.out.size _
    obtain ⟨W, hW⟩ : ∃ W, (((W1.alloc (oR nb)).alloc (oM mb)).alloc oG).alloc oG = W := ⟨_, rfl⟩
    obtain ⟨own, h2⟩ := two_new4 hbW1 nb mb W hW
    rw [hW1, hW]
    rw [hs1] at h2
    obtain ⟨X, hX⟩ : ∃ X, X = w1.heap.size + 1 := ⟨_, rfl⟩
    rw [← hX] at h2 ⊢
    clear hW1 hs1 hbW1 hW hX HB1
    have H0 : Hid (∃ own st k v, Two own w W X (X + 1) (X + 1 + 1) (X + 1 + 1 + 1) st k v) := ⟨own, [], nilV, nilV, h2⟩
    clear h2
    go_loopw [11] (fun j wr => ∃ n : Nat, j = .int .i64 (n : Int) ∧ n ≤ len ∧ Hid (∃ own st k v, Two own w wr X (X + 1) (X + 1 + 1) (X + 1 + 1 + 1) st k v)) (fun j _ => len - (intOf j).toNat)
    case atStart => exact ⟨0, by go_num, by omega, H0⟩
    case round =>
      obtain ⟨n, rfl, hn, HT⟩ := hrel
      by_cases hlt : n < len
      · obtain ⟨own, st, k, v, ht⟩ := HT.out
        rcases hops with h0 | ⟨b, off, rfl, hbw, hall⟩
        · omega
        obtain ⟨K, A, B, C, S, T, hop⟩ := hall n hlt
        have HOP : Hid (OpAt w b off n K A B C S T) := hop
        have hop2 := hop.below ht.below hbw
        obtain ⟨c0, c1, c2, c3, c4, c5, iK, iA, iB, iC, lS, lT⟩ := hop2
        have C1 := do_R own X (X + 1 + 1) st k v K A B C S T wr ht.real ht.real.good ht.rr ht.cr ht.kok ht.vok iA iB lS
        have C2 := fun own1 W hM hR hc => do_M own1 (X + 1) (X + 1 + 1 + 1) st k v K A B C S T W hM ht.real.good hR hc ht.kok ht.vok iA iB lS
        rw [opV_mk] at C1 C2
        have hok := doP_ok ht.real.good ht.kok ht.vok K iA lS (B := B)
        generalize doP st k v K A B S = o at *
        unfold ansV at C1 C2
        have HTW : Hid (Two own w wr X (X + 1) (X + 1 + 1) (X + 1 + 1 + 1) st k v) := ht
        have HOK : Hid (o.k.Ok ∧ o.v.Ok) := hok
        have d1 : decide ((n : Int) < (len : Int)) = true := decide_eq_true (by omega)
        have d2 : decide ((n : Int) < 4398046511104) = true := decide_eq_true (by omega)
        clear hop hall ht HT hok iK iA iB iC lS lT
        go_wp2_with fail
        refine C1.mono ?_; rintro e w4 ⟨rfl, hE⟩
        obtain ⟨own1, m1, m2, m3, m4, m5, m6, m7, m8, m9⟩ := two_mid HTW.out hE (oAns o.E o.N o.Z)
        have hs4 : wr.heap.size ≤ w4.heap.size := by obtain ⟨_, _, _, _, _, _, _, e4, _⟩ := hE; exact e4
        have C2 := C2 own1 _ m4 m6 m9
        obtain ⟨x0, x1, x2, x3, x4, x5, -⟩ := HOP.out.below m7 hbw
        have HMID : Hid ((∀ b, b < wr.heap.size → own1 b = own b) ∧ own1 w4.heap.size = 0 ∧ RS own1 (w4.alloc (oAns o.E o.N o.Z)) X o.st ∧ RegAt (w4.alloc (oAns o.E o.N o.Z)) (X + 1 + 1) o.k o.v ∧ Below w.heap.size w (w4.alloc (oAns o.E o.N o.Z)) ∧ own1 (X + 1 + 1) = 200) := ⟨m1, m2, m3, m5, m7, m8⟩
        clear hE m1 m2 m3 m4 m5 m6 m7 m8 m9 c0 c1 c2 c3 c4 c5 d1 d2 C1
        go_wp2_with fail
        refine C2.mono ?_; rintro e w5 ⟨rfl, hE⟩
        obtain ⟨hT2, hA2⟩ := two_end HTW.out HOK.out HMID.out.1 HMID.out.2.1 hs4 HMID.out.2.2.1 HMID.out.2.2.2.1 HMID.out.2.2.2.2.1 HMID.out.2.2.2.2.2 hE (oAns o.E o.N o.Z)
        have hlt5 : w4.heap.size < w5.heap.size := (Array.getElem?_eq_some_iff.1 hA2).1
        have s6 : ¬ w4.heap.size = w5.heap.size := by omega
        obtain ⟨y0, y1, y2, y3, y4⟩ : w5.cell? ⟨w4.heap.size, 0, none⟩ = some (.int .i64 o.E) ∧ w5.cell? ⟨w4.heap.size, 1, none⟩ = some (.int .i64 o.N) ∧ w5.cell? ⟨w4.heap.size, 2, none⟩ = some (.int .i64 0) ∧ w5.cell? ⟨w4.heap.size, 3, none⟩ = some (.string ⟨o.Z.toArray⟩) ∧ w5.cell? ⟨w4.heap.size, 4, none⟩ = some (.string ⟨#[]⟩) := by
          simp [World.cell?, hA2]
        have HT2 : Hid (∃ own2, Two own2 w (w5.alloc (oAns o.E o.N o.Z)) X (X + 1) (X + 1 + 1) (X + 1 + 1 + 1) o.st o.k o.v) := hT2
        clear hE hT2 hA2 C2 x0 x1 x2 x3 x4 x5 HMID hs4
        go_wp2_with fail
        go_roundw
        case rel =>
          obtain ⟨own2, ht2⟩ := HT2.out
          exact ⟨n + 1, by go_num, by omega, ⟨own2, o.st, o.k, o.v, ht2⟩⟩
        case measure => simp [intOf]; omega
      · obtain ⟨own, st, k, v, ht⟩ := HT.out
        have HBW : Hid (Below w.heap.size w wr) := ht.below
        clear ht HT hops
        have : n = len := by omega
        subst this
        go_wp2
        go_ret2
        exact ⟨rfl, HBW.out⟩
  case false =>
    go_enter Try.func7, Try.ntmps7
    go_wp2_with fail
    refine (ground_any _).mono ?_; rintro e w1 ⟨⟨nb, mb, rfl⟩, hb1⟩
    have HB1 : Hid (Below w.heap.size w w1) := hb1
    clear hb1
    go_wp2_with fail
    refine (tnew_any _ _).mono ?_; rintro e w2 ⟨rfl, rfl⟩
    go_wp2_with fail
    refine (mnew_any _ _).mono ?_; rintro e w3 ⟨rfl, rfl⟩
    go_wp2_with fail
    obtain ⟨W1, hW1⟩ : ∃ W1, w1.alloc (.cells #[.pointer (some ⟨nb, 0, none⟩), .pointer (some ⟨mb, 0, none⟩)] 30) = W1 := ⟨_, rfl⟩
    have hs1 : W1.heap.size = w1.heap.size + 1 := by rw [← hW1]; simp
    have hbW1 : Below w.heap.size w W1 := by rw [← hW1]; exact HB1.out.alloc HB1.out.size _
    obtain ⟨W, hW⟩ : ∃ W, (((W1.alloc (oR nb)).alloc (oM mb)).alloc oG).alloc oG = W := ⟨_, rfl⟩
    obtain ⟨own, h2⟩ := two_new4 hbW1 nb mb W hW
    rw [hW1, hW]
    rw [hs1] at h2
    obtain ⟨X, hX⟩ : ∃ X, X = w1.heap.size + 1 := ⟨_, rfl⟩
    rw [← hX] at h2 ⊢
    clear hW1 hs1 hbW1 hW hX HB1
    have HTT : Hid (Two own w W X (X + 1) (X + 1 + 1) (X + 1 + 1 + 1) [] nilV nilV) := h2
    refine (seen_any own X (X + 1) [] _ h2.real h2.mod).mono ?_; rintro e w6 ⟨rfl, hb6⟩
    have H0 : Hid (∃ own st k v, Two own w w6 X (X + 1) (X + 1 + 1) (X + 1 + 1 + 1) st k v) := ⟨own, [], nilV, nilV, HTT.out.next hb6⟩
    clear h2 HTT hb6
    go_wp2_with fail
    go_loopw [11] (fun j wr => ∃ n : Nat, j = .int .i64 (n : Int) ∧ n ≤ len ∧ Hid (∃ own st k v, Two own w wr X (X + 1) (X + 1 + 1) (X + 1 + 1 + 1) st k v)) (fun j _ => len - (intOf j).toNat)
    case atStart => exact ⟨0, by go_num, by omega, H0⟩
    case round =>
      obtain ⟨n, rfl, hn, HT⟩ := hrel
      by_cases hlt : n < len
      · obtain ⟨own, st, k, v, ht⟩ := HT.out
        rcases hops with h0 | ⟨b, off, rfl, hbw, hall⟩
        · omega
        obtain ⟨K, A, B, C, S, T, hop⟩ := hall n hlt
        have HOP : Hid (OpAt w b off n K A B C S T) := hop
        have hop2 := hop.below ht.below hbw
        obtain ⟨c0, c1, c2, c3, c4, c5, iK, iA, iB, iC, lS, lT⟩ := hop2
        have C1 := do_R own X (X + 1 + 1) st k v K A B C S T wr ht.real ht.real.good ht.rr ht.cr ht.kok ht.vok iA iB lS
        have C2 := fun own1 W hM hR hc => do_M own1 (X + 1) (X + 1 + 1 + 1) st k v K A B C S T W hM ht.real.good hR hc ht.kok ht.vok iA iB lS
        rw [opV_mk] at C1 C2
        have hok := doP_ok ht.real.good ht.kok ht.vok K iA lS (B := B)
        generalize doP st k v K A B S = o at *
        unfold ansV at C1 C2
        have HTW : Hid (Two own w wr X (X + 1) (X + 1 + 1) (X + 1 + 1 + 1) st k v) := ht
        have HOK : Hid (o.k.Ok ∧ o.v.Ok) := hok
        have d1 : decide ((n : Int) < (len : Int)) = true := decide_eq_true (by omega)
        have d2 : decide ((n : Int) < 4398046511104) = true := decide_eq_true (by omega)
        clear hop hall ht HT hok iK iA iB iC lS lT
        go_wp2_with fail
        refine C1.mono ?_; rintro e w4 ⟨rfl, hE⟩
        obtain ⟨own1, m1, m2, m3, m4, m5, m6, m7, m8, m9⟩ := two_mid HTW.out hE (oAns o.E o.N o.Z)
        have hs4 : wr.heap.size ≤ w4.heap.size := by obtain ⟨_, _, _, _, _, _, _, e4, _⟩ := hE; exact e4
        have C2 := C2 own1 _ m4 m6 m9
        obtain ⟨x0, x1, x2, x3, x4, x5, -⟩ := HOP.out.below m7 hbw
        have HMID : Hid ((∀ b, b < wr.heap.size → own1 b = own b) ∧ own1 w4.heap.size = 0 ∧ RS own1 (w4.alloc (oAns o.E o.N o.Z)) X o.st ∧ RegAt (w4.alloc (oAns o.E o.N o.Z)) (X + 1 + 1) o.k o.v ∧ Below w.heap.size w (w4.alloc (oAns o.E o.N o.Z)) ∧ own1 (X + 1 + 1) = 200) := ⟨m1, m2, m3, m5, m7, m8⟩
        clear hE m1 m2 m3 m4 m5 m6 m7 m8 m9 c0 c1 c2 c3 c4 c5 d1 d2 C1
        go_wp2_with fail
        refine C2.mono ?_; rintro e w5 ⟨rfl, hE⟩
        obtain ⟨hT2, hA2⟩ := two_end HTW.out HOK.out HMID.out.1 HMID.out.2.1 hs4 HMID.out.2.2.1 HMID.out.2.2.2.1 HMID.out.2.2.2.2.1 HMID.out.2.2.2.2.2 hE (oAns o.E o.N o.Z)
        have hlt5 : w4.heap.size < w5.heap.size := (Array.getElem?_eq_some_iff.1 hA2).1
        have s6 : ¬ w4.heap.size = w5.heap.size := by omega
        obtain ⟨y0, y1, y2, y3, y4⟩ : w5.cell? ⟨w4.heap.size, 0, none⟩ = some (.int .i64 o.E) ∧ w5.cell? ⟨w4.heap.size, 1, none⟩ = some (.int .i64 o.N) ∧ w5.cell? ⟨w4.heap.size, 2, none⟩ = some (.int .i64 0) ∧ w5.cell? ⟨w4.heap.size, 3, none⟩ = some (.string ⟨o.Z.toArray⟩) ∧ w5.cell? ⟨w4.heap.size, 4, none⟩ = some (.string ⟨#[]⟩) := by
          simp [World.cell?, hA2]
        have HT2 : Hid (∃ own2, Two own2 w (w5.alloc (oAns o.E o.N o.Z)) X (X + 1) (X + 1 + 1) (X + 1 + 1 + 1) o.st o.k o.v) := hT2
        clear hE hT2 hA2 C2 x0 x1 x2 x3 x4 x5 HMID hs4
        go_wp2_with fail
        obtain ⟨own2, ht2⟩ := HT2.out
        have HTT : Hid (Two own2 w (w5.alloc (oAns o.E o.N o.Z)) X (X + 1) (X + 1 + 1) (X + 1 + 1 + 1) o.st o.k o.v) := ht2
        refine (seen_any own2 X (X + 1) o.st _ ht2.real ht2.mod).mono ?_; rintro e w6 ⟨rfl, hb6⟩
        have HT6 : Hid (Two own2 w w6 X (X + 1) (X + 1 + 1) (X + 1 + 1 + 1) o.st o.k o.v) := HTT.out.next hb6
        clear hb6 ht2 HT2 HTT
        go_wp2_with fail
        go_roundw
        case rel => exact ⟨n + 1, by go_num, by omega, ⟨own2, o.st, o.k, o.v, HT6.out⟩⟩
        case measure => simp [intOf]; omega
      · obtain ⟨own, st, k, v, ht⟩ := HT.out
        have HBW : Hid (Below w.heap.size w wr) := ht.below
        clear ht HT hops
        have : n = len := by omega
        subst this
        go_wp2
        go_ret2
        exact ⟨rfl, HBW.out⟩
theorem refines_walk (a : Option Addr) (len cap : Nat) (w : World) (hs : IsOps w a len) :
    Calls Try.prog 4 #[.slice a len cap] w fun e w' => e = .returned (.bool true) ∧ Below w.heap.size w w' := by
  have H := walk_any a len cap false w hs
  clear hs
  go_enter Try.func4, Try.ntmps4
  go_wp2_with fail
  refine H.mono ?_; rintro e w1 ⟨rfl, hb⟩
  go_wp2
  go_ret
  exact ⟨rfl, hb⟩
theorem refinesQuiet_walk (a : Option Addr) (len cap : Nat) (w : World) (hs : IsOps w a len) :
    Calls Try.prog 5 #[.slice a len cap] w fun e w' => e = .returned (.bool true) ∧ Below w.heap.size w w' := by
  have H := walk_any a len cap true w hs
  clear hs
  go_enter Try.func5, Try.ntmps5
  go_wp2_with fail
  refine H.mono ?_; rintro e w1 ⟨rfl, hb⟩
  go_wp2
  go_ret
  exact ⟨rfl, hb⟩
end Go.Proofs.Qxb6500292a
