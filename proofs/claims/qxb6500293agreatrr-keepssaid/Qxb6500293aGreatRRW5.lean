import Derived.Test.Qxb6500293aGreatRRW3
import Derived.Test.Qxb6500293aGreatRRW4
import Derived.Test.Qxb6500293aGreatRRLw2
namespace Go.Proofs.Qxb6500293aGreatRR
open Go.RowKit
open Ieee (double)
attribute [local go_sem] run_frombits run_tobits run_negf

/-- A sound Num. -/
def NumW (n b : Nat) (w : World) : Prop := NumAt n b w ∧ n ≠ b ∧ ∃ bs, BB 5 b bs w ∧ bs.length = 24
theorem NumW.step {n b : Nat} {w w' : World} (h : NumW n b w) (hs : Stp b w w') (hb : ∃ bs', BB 5 b bs' w' ∧ bs'.length = 24) : NumW n b w' := by
  obtain ⟨h1, h2, _⟩ := h
  refine ⟨?_, h2, hb⟩
  unfold NumAt at *
  rw [hs.block n (Array.getElem?_eq_some_iff.1 h1).1 h2]; exact h1
theorem NumW.below {n b : Nat} {w w' : World} (h : NumW n b w) (hb : Below w.heap.size w w') : NumW n b w' := by
  obtain ⟨h1, h2, bs, h3, h4⟩ := h
  refine ⟨?_, h2, bs, ?_, h4⟩
  · unfold NumAt at *
    rw [hb.block n (Array.getElem?_eq_some_iff.1 h1).1]; exact h1
  · have := h3.lt
    unfold BB at *
    rw [hb.block b this]; exact h3

/-- Format, over a sound Num. -/
theorem format_num (n b : Nat) (x : Nat) (w : World) (hn : NumW n b w) (hx : x < 18446744073709551616) :
    Calls Tryz.prog 122 #[.pointer (some ⟨n, 0, none⟩), .int .u64 x] w fun e w' => e = .returned (.string ⟨(fmtP x).toArray⟩) ∧ Stp b w w' ∧ NumW n b w' := by
  obtain ⟨h1, h2, bs, h3, h4⟩ := hn
  refine (format_any n b bs x w h1 h3 h4 hx).mono ?_
  rintro e w' ⟨rfl, h5, h6⟩
  exact ⟨rfl, h6, NumW.step ⟨h1, h2, bs, h3, h4⟩ h6 h5⟩

/-- What a law's step leaves. -/
def Kp (n b : Nat) (w : World) (e : Ending) (w' : World) : Prop := e = .returned (.bool true) ∧ Stp b w w' ∧ NumW n b w'
theorem kp_mk {n b : Nat} {w w' : World} {t : Bool} (ht : t = true) (h1 : Stp b w w') (h2 : NumW n b w') : Kp n b w (.returned (.bool t)) w' := ⟨by rw [ht], h1, h2⟩

theorem cnt_take {s : List UInt8} {k : Nat} (h1 : ∀ c ∈ s.take k, (c != 112) = true) (h2 : s.drop k = [] ∨ ∃ r, s.drop k = 112 :: r) : cnt s = ((s.take k).filter isDigit).length := by
  unfold cnt
  have := List.takeWhile_append_of_pos (p := fun c => c != 112) (l₁ := s.take k) (l₂ := s.drop k) h1
  rw [List.take_append_drop] at this
  rw [this]
  rcases h2 with h2 | ⟨r, h2⟩
  · rw [h2]; simp
  · rw [h2, List.takeWhile_cons_of_neg (by decide)]; simp

end Go.Proofs.Qxb6500293aGreatRR
