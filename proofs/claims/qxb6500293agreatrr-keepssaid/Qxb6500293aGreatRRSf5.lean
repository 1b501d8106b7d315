/-
  THE PLAIN MATHEMATICS OF THE SOFT FLOAT, MORE (no Go in sight): floor.
-/
import Derived.Test.Qxb6500293aGreatRRSf4
namespace Go.Proofs.Qxb6500293aGreatRR
open Ieee (double Datum signed Toward)

theorem cut_down (s : Bool) (n d : Nat) : Toward.down.cut s n d = n / 2 ^ d + (s && n % 2 ^ d != 0).toNat := by
  unfold Toward.cut
  simp only [Nat.shiftLeft_eq, Nat.one_mul]
  by_cases hd : d ≤ n.log2 + 2
  · rw [show min d (n.log2 + 2) = d from by omega]
  · rw [show min d (n.log2 + 2) = n.log2 + 2 from by omega]
    have h2 : n < 2 ^ (n.log2 + 1) := Nat.lt_log2_self
    have h3 : (2 : Nat) ^ (n.log2 + 1) ≤ 2 ^ (n.log2 + 2) := Nat.pow_le_pow_right (by omega) (by omega)
    have h4 : (2 : Nat) ^ (n.log2 + 2) ≤ 2 ^ d := Nat.pow_le_pow_right (by omega) (by omega)
    rw [Nat.div_eq_of_lt (by omega), Nat.div_eq_of_lt (by omega), Nat.mod_eq_of_lt (by omega), Nat.mod_eq_of_lt (by omega)]

/-- The floor's word. -/
def floorW (x : Nat) : Nat := if 2047 * 2 ^ 52 < x % 2 ^ 63 then nanV else double.write ((double.read x).integral .down)
theorem floorW_nan {x : Nat} (h : 2047 * 2 ^ 52 < x % 2 ^ 63) : floorW x = nanV := if_pos h
theorem floorW_real {x : Nat} (h : x % 2 ^ 63 ≤ 2047 * 2 ^ 52) : floorW x = double.write ((double.read x).integral .down) := if_neg (by omega)
theorem floorW_inf {x : Nat} (hx : x < 2 ^ 64) (h : x % 2 ^ 63 = 2047 * 2 ^ 52) : floorW x = x := by
  rw [floorW_real (by omega), read_infx hx h]
  show double.word (neg x) double.infRung = x
  rw [Fl.infRung_eq, ← h]; exact (word_neg hx).symm
theorem floorW_fin {x : Nat} (hx : x < 2 ^ 64) (h : x % 2 ^ 63 < 2047 * 2 ^ 52) :
    floorW x = double.nearest (neg x) (Toward.down.cut (neg x) (magM (x % 2 ^ 63) <<< (magE (x % 2 ^ 63)).toNat) (-magE (x % 2 ^ 63)).toNat) 0 := by
  rw [floorW_real (by omega), read_fin hx h]; rfl
theorem floorW_zero {x : Nat} (hx : x < 2 ^ 64) (h : x % 2 ^ 63 = 0) : floorW x = x := by
  rw [floorW_fin hx (by omega), h]
  have e : magM 0 = 0 := magM_zero.2 rfl
  rw [e, cut_down]
  simp only [Nat.zero_shiftLeft, Nat.zero_div, Nat.zero_mod]
  simp [Fl.nearest_zero]
  have := word_neg hx
  rw [h] at this; exact this.symm
theorem floorW_whole {x : Nat} (hx : x < 2 ^ 64) (h : x % 2 ^ 63 < 2047 * 2 ^ 52) (he : 0 ≤ magE (x % 2 ^ 63)) : floorW x = x := by
  have hs := nearest_self hx h
  rw [floorW_fin hx h, cut_down]
  generalize magM (x % 2 ^ 63) = m at *
  generalize magE (x % 2 ^ 63) = e at *
  rw [show (-e).toNat = 0 from by omega, Nat.pow_zero, Nat.div_one, Nat.mod_one, Nat.shiftLeft_eq]
  simp only [bne_self_eq_false, Bool.and_false, Bool.toNat_false, Nat.add_zero]
  rw [Fl.nearest_shift]
  have : (0 : Int) + (e.toNat : Int) = e := by omega
  rw [this]; exact hs
/-- Below the point: k bits are dropped. -/
theorem floorW_cut {x : Nat} (hx : x < 2 ^ 64) (h : x % 2 ^ 63 < 2047 * 2 ^ 52) (k : Nat) (he : magE (x % 2 ^ 63) = -(k : Int)) :
    floorW x = double.nearest (neg x) (magM (x % 2 ^ 63) / 2 ^ k + (neg x && magM (x % 2 ^ 63) % 2 ^ k != 0).toNat) 0 := by
  rw [floorW_fin hx h, cut_down, he, show (-(k : Int)).toNat = 0 from by omega, show (- -(k : Int)).toNat = k from by omega, Nat.shiftLeft_zero]
theorem nearest_one : double.nearest true 1 0 = 13830554455654793216 := by decide +kernel
theorem nearest_nil : double.nearest false 0 0 = 0 := by decide +kernel
theorem floorW_far {x : Nat} (hx : x < 2 ^ 64) (h : x % 2 ^ 63 < 2047 * 2 ^ 52) (h0 : 0 < x % 2 ^ 63) (k : Nat) (hk : 53 ≤ k) (he : magE (x % 2 ^ 63) = -(k : Int)) : floorW x = if neg x then 13830554455654793216 else 0 := by
  have l := magM_lt (x % 2 ^ 63)
  have p := magM_pos h0
  rw [floorW_cut hx h k he]
  have : magM (x % 2 ^ 63) < 2 ^ k := Nat.lt_of_lt_of_le l (Nat.pow_le_pow_right (by omega) hk)
  rw [Nat.div_eq_of_lt this, Nat.mod_eq_of_lt this]
  generalize magM (x % 2 ^ 63) = m at *
  rw [show (m != 0) = true from by simp; omega]
  cases neg x
  · exact nearest_nil
  · exact nearest_one
theorem floorW_same {x : Nat} (hx : x < 2 ^ 64) (h : x % 2 ^ 63 < 2047 * 2 ^ 52) (k : Nat) (he : magE (x % 2 ^ 63) = -(k : Int)) (hm : magM (x % 2 ^ 63) % 2 ^ k = 0) : floorW x = x := by
  have hs := nearest_self hx h
  rw [floorW_cut hx h k he, hm]
  rw [he] at hs
  generalize magM (x % 2 ^ 63) = m at *
  simp only [bne_self_eq_false, Bool.and_false, Bool.toNat_false, Nat.add_zero]
  have := Fl.nearest_shift (neg x) (m / 2 ^ k) k (-(k : Int))
  rw [Nat.div_mul_cancel (Nat.dvd_of_mod_eq_zero hm), hs, show -(k : Int) + (k : Int) = 0 from by omega] at this
  exact this.symm
theorem floorW_part {x : Nat} (hx : x < 2 ^ 64) (h : x % 2 ^ 63 < 2047 * 2 ^ 52) (k : Nat) (he : magE (x % 2 ^ 63) = -(k : Int)) (hm : magM (x % 2 ^ 63) % 2 ^ k ≠ 0) :
    floorW x = double.nearest (neg x) ((magM (x % 2 ^ 63) / 2 ^ k + (neg x).toNat) * 2 ^ k) (-(k : Int)) := by
  rw [floorW_cut hx h k he, Fl.nearest_shift, show -(k : Int) + (k : Int) = 0 from by omega]
  generalize magM (x % 2 ^ 63) = m at *
  rw [show (m % 2 ^ k != 0) = true from by simp [hm], Bool.and_true]
end Go.Proofs.Qxb6500293aGreatRR
