/-
  The reader walked: take 79, u8 68, u16 80.
-/
import Derived.Test.Qxb6500293aGreatRRZ6
import Derived.Test.Qxb6500293aGreatRRX3
import Derived.BigQuiet
namespace Go.Proofs.Qxb6500293aGreatRR
open Go.RowKit
open Ieee (double)
set_option linter.unusedVariables false
set_option linter.unusedSimpArgs false

def rdO (bb cap : Nat) (r : Rd) : Obj := .cells #[.slice (some ⟨bb, 0, none⟩) r.bs.length cap, i64 r.i, .bool r.bad] 146
/-- The image's bytes lie in block bb. -/
def ByAt (w : World) (bb : Nat) (bs : List UInt8) : Prop := bb < w.heap.size ∧ ∀ j, j < bs.length → w.cell? ⟨bb, j, none⟩ = some (.int .u8 (byte bs j : Int))
/-- The reader in its box rb. -/
structure RdAt (w : World) (rb bb cap : Nat) (r : Rd) : Prop where
  box : w.heap[rb]? = some (rdO bb cap r)
  by' : ByAt w bb r.bs
  ne : bb ≠ rb
  cap : r.bs.length ≤ cap
  i : r.i ≤ r.bs.length
  n : r.bs.length ≤ 32768
section
variable {w w' : World} {rb bb cap : Nat} {r : Rd}
theorem byte_lt (l : List UInt8) (j : Nat) : byte l j < 256 := UInt8.toNat_lt _
theorem take_bs (r : Rd) (n : Nat) : (takeP r n).1.bs = r.bs := by unfold takeP; split <;> rfl
theorem RdAt.lt (h : RdAt w rb bb cap r) : rb < w.heap.size := (Array.getElem?_eq_some_iff.1 h.box).1
theorem RdAt.c (h : RdAt w rb bb cap r) : w.cell? ⟨rb, 0, none⟩ = some (.slice (some ⟨bb, 0, none⟩) r.bs.length cap) ∧ w.cell? ⟨rb, 1, none⟩ = some (i64 r.i) ∧ w.cell? ⟨rb, 2, none⟩ = some (.bool r.bad) ∧ ∀ k, w.frozen? ⟨rb, k, none⟩ = false := by
  have hb := h.box
  unfold rdO at hb
  refine ⟨?_, ?_, ?_, fun k => by simp [World.frozen?, hb]⟩
  · simp [World.cell?, hb]
  · simp [World.cell?, hb]
  · simp [World.cell?, hb]
theorem ByAt.kept {bs : List UInt8} (h : ByAt w bb bs) (hs : w.heap.size ≤ w'.heap.size) (hk : w'.heap[bb]? = w.heap[bb]?) : ByAt w' bb bs :=
  ⟨Nat.lt_of_lt_of_le h.1 hs, fun j hj => (World.cell?_of_block (a := ⟨bb, j, none⟩) hk).trans (h.2 j hj)⟩
/-- Neither the box nor the bytes have turned. -/
theorem RdAt.kept (h : RdAt w rb bb cap r) (hs : w.heap.size ≤ w'.heap.size) (hk : ∀ k, k = rb ∨ k = bb → w'.heap[k]? = w.heap[k]?) : RdAt w' rb bb cap r :=
  ⟨(hk rb (.inl rfl)).trans h.box, h.by'.kept hs (hk bb (.inr rfl)), h.ne, h.cap, h.i, h.n⟩
theorem RdAt.below (h : RdAt w rb bb cap r) (hb : Below w.heap.size w w') : RdAt w' rb bb cap r := h.kept hb.size (fun k hk => hb.block k (by rcases hk with rfl | rfl; exact h.lt; exact h.by'.1))
/-- The reader's box turned. -/
theorem RdAt.turn (h : RdAt w rb bb cap r) (hs : Stp rb w w') {r' : Rd} (hr : w'.heap[rb]? = some (rdO bb cap r')) (hbs : r'.bs = r.bs) (hi : r'.i ≤ r.bs.length) : RdAt w' rb bb cap r' :=
  ⟨hr, by rw [hbs]; exact h.by'.kept hs.size (hs.block bb h.by'.1 h.ne), h.ne, by rw [hbs]; exact h.cap, by rw [hbs]; exact hi, by rw [hbs]; exact h.n⟩
theorem RdAt.setBad (h : RdAt w rb bb cap r) : (w.setCell ⟨rb, 2, none⟩ (.bool true)).heap[rb]? = some (rdO bb cap r.spoil) := by
  have hb := h.box
  unfold rdO at hb ⊢
  have hl := h.lt
  simp [World.setCell, Array.getElem?_modify, hb, Rd.spoil]
theorem RdAt.setI (h : RdAt w rb bb cap r) (i : Nat) : (w.setCell ⟨rb, 1, none⟩ (i64 i)).heap[rb]? = some (rdO bb cap { r with i := i }) := by
  have hb := h.box
  unfold rdO at hb ⊢
  have hl := h.lt
  simp [World.setCell, Array.getElem?_modify, hb]
theorem Stp.setR (w : World) (rb k : Nat) (v : Value) : Stp rb w (w.setCell ⟨rb, k, none⟩ v) := (Stp.refl rb w).setCell (.inl rfl) v
theorem RdAt.spoilt (h : RdAt w rb bb cap r) : RdAt (w.setCell ⟨rb, 2, none⟩ (.bool true)) rb bb cap r.spoil := h.turn (Stp.setR _ _ _ _) h.setBad rfl h.i
theorem RdAt.moved (h : RdAt w rb bb cap r) (i : Nat) (hi : i ≤ r.bs.length) : RdAt (w.setCell ⟨rb, 1, none⟩ (i64 i)) rb bb cap { r with i := i } := h.turn (Stp.setR _ _ _ _) (h.setI i) rfl hi
theorem RdAt.drewN (h : RdAt w rb bb cap r) (n : Nat) : RdAt (w.drewN n) rb bb cap r := h.below (below_drewN (Below.refl _ _) n)
end
theorem or_u16 (x y : Nat) (hx : x < 256) (hy : y < 256) : bits .or .u16 (x : Int) ((y : Int) * 256) = ((x + 256 * y : Nat) : Int) := by
  show IntKind.u16.wrap ((BitVec.ofInt 16 (x : Int) ||| BitVec.ofInt 16 ((y : Int) * 256)).toNat : Int) = _
  have e1 : (BitVec.ofInt 16 (x : Int)).toNat = x := by rw [BitVec.toNat_ofInt]; omega
  have e2 : (BitVec.ofInt 16 ((y : Int) * 256)).toNat = y * 2 ^ 8 := by rw [BitVec.toNat_ofInt]; omega
  rw [BitVec.toNat_or, e1, e2, Nat.or_comm, nat_join 8 _ _ (by omega) hx, IntWalk.u16_in _ ⟨by omega, by omega⟩]
  omega
/-- What take answers. -/
def TkV (bb : Nat) (r : Rd) (n : Nat) (e : Ending) : Prop :=
  ((takeP r n).1.bad = true ∧ e = .returned (.slice none 0 0)) ∨ ((takeP r n).1.bad = false ∧ ∃ k0 c, e = .returned (.slice (some ⟨bb, k0, none⟩) n c) ∧ n ≤ c ∧ (0 < n → k0 = r.i))
theorem take_bad {r : Rd} {n : Nat} (h : r.bad = true ∨ r.bs.length - r.i < n) : takeP r n = (r.spoil, []) := by unfold takeP; rw [if_pos h]
theorem take_good {r : Rd} {n : Nat} (h1 : r.bad = false) (h2 : ¬ r.bs.length - r.i < n) : takeP r n = ({ r with i := r.i + n }, (r.bs.drop r.i).take n) := by
  unfold takeP; rw [if_neg]; rintro (h | h); · rw [h1] at h; cases h
  · exact h2 h
set_option maxRecDepth 8000 in
set_option maxHeartbeats 1000000 in
theorem take_any {w : World} {rb bb cap : Nat} {r : Rd} (H : RdAt w rb bb cap r) (n : Nat) (hn : n ≤ 300) :
    Calls Tryz.prog 79 #[.pointer (some ⟨rb, 0, none⟩), i64 n] w fun e w' => TkV bb r n e ∧ RdAt w' rb bb cap (takeP r n).1 ∧ Stp rb w w' := by
  obtain ⟨c0, c1, c2, cz⟩ := H.c
  have hi := H.i
  have hcap := H.cap
  have hn9 := H.n
  have hlt := H.lt
  obtain ⟨bs, i, bad⟩ := r
  simp only at c0 c1 c2 hi hcap hn9
  have hw0 : IntKind.i64.wrap ((bs.length : Int) - (i : Int)) = ((bs.length - i : Nat) : Int) := by rw [IntWalk.i64_in _ ⟨by omega, by omega⟩]; omega
  by_cases hb : bad = true
  · subst hb
    have HT : Hid (takeP ⟨bs, i, true⟩ n = ((⟨bs, i, true⟩ : Rd).spoil, [])) := take_bad (.inl rfl)
    have HR : Hid (∀ q, RdAt ((w.drewN q).setCell ⟨rb, 2, none⟩ (.bool true)) rb bb cap (⟨bs, i, true⟩ : Rd).spoil) := fun q => (H.drewN q).spoilt
    clear H
    go_enter Tryz.func79, Tryz.ntmps79
    go_wp2_with fail
    go_quiet (fail)
    go_wp2_with fail
    go_ret
    refine ⟨?_, ?_, ?_⟩
    · left; rw [HT.out]; exact ⟨rfl, rfl⟩
    · rw [HT.out]; exact HR.out nq
    · exact (Stp.of_below (below_drewN (Below.refl _ _) nq)).trans (Stp.setR _ _ _ _)
  have hb : bad = false := by simpa using hb
  subst hb
  by_cases hlen : bs.length - i < n
  · have HT : Hid (takeP ⟨bs, i, false⟩ n = ((⟨bs, i, false⟩ : Rd).spoil, [])) := take_bad (.inr hlen)
    have HR : Hid (∀ q, RdAt ((w.drewN q).setCell ⟨rb, 2, none⟩ (.bool true)) rb bb cap (⟨bs, i, false⟩ : Rd).spoil) := fun q => (H.drewN q).spoilt
    have hd : decide (((bs.length - i : Nat) : Int) < (n : Int)) = true := decide_eq_true (by omega)
    clear H
    generalize bs.length - i = le at *
    generalize hbl : bs.length = bl at *
    go_enter Tryz.func79, Tryz.ntmps79
    go_wp2_with fail
    go_quiet (fail)
    go_wp2_with fail
    go_ret
    refine ⟨?_, ?_, ?_⟩
    · left; rw [HT.out]; exact ⟨rfl, rfl⟩
    · rw [HT.out]; exact HR.out nq
    · exact (Stp.of_below (below_drewN (Below.refl _ _) nq)).trans (Stp.setR _ _ _ _)
  · have HT : Hid (takeP ⟨bs, i, false⟩ n = (⟨bs, i + n, false⟩, (bs.drop i).take n)) := take_good rfl hlen
    have HR : Hid (∀ q, RdAt ((w.drewN q).setCell ⟨rb, 1, none⟩ (i64 (i + n))) rb bb cap (⟨bs, i + n, false⟩ : Rd)) := fun q => (H.drewN q).moved (i + n) (by show i + n ≤ bs.length; omega)
    have hd : decide (((bs.length - i : Nat) : Int) < (n : Int)) = false := decide_eq_false (by omega)
    have hw1 : IntKind.i64.wrap ((i : Int) + (n : Int)) = ((i + n : Nat) : Int) := by rw [IntWalk.i64_in _ ⟨by omega, by omega⟩]; omega
    have hin : i + n ≤ bs.length := by omega
    clear H
    generalize bs.length - i = le at *
    generalize hbl : bs.length = bl at *
    generalize hk : i + n = k at *
    go_enter Tryz.func79, Tryz.ntmps79
    go_wp2_with fail
    go_quiet (fail)
    revert nq; intro nq1
    go_wp2_with fail
    go_quiet (fail)
    go_wp2_with fail
    · go_ret
      have hkn : k - i = n := by omega
      have hn0 : n = 0 := by omega
      have hR := HR.out (nq1 + nq)
      rw [h] at hR
      refine ⟨.inr ⟨by rw [HT.out], 0, 0, by rw [hkn]; rfl, by omega, by omega⟩, ?_, ?_⟩
      · rw [HT.out]; exact hR
      · exact (Stp.of_below (below_drewN (Below.refl _ _) (nq1 + nq))).trans (Stp.setR _ _ _ _)
    · go_ret
      have hkn : k - i = n := by omega
      refine ⟨.inr ⟨by rw [HT.out], i, cap - i, by rw [hkn]; rfl, by omega, fun _ => rfl⟩, ?_, ?_⟩
      · rw [HT.out]; exact HR.out (nq1 + nq)
      · exact (Stp.of_below (below_drewN (Below.refl _ _) (nq1 + nq))).trans (Stp.setR _ _ _ _)
/-- What take's window bears. -/
theorem RdAt.win {w : World} {rb bb cap : Nat} {r r' : Rd} (h : RdAt w rb bb cap r') (hb : r'.bs = r.bs) {n : Nat} (hg : (takeP r n).1.bad = false) (hi : r.i ≤ r.bs.length) {j : Nat} (hj : j < n) : w.cell? ⟨bb, r.i + j, none⟩ = some (.int .u8 (byte (takeP r n).2 j : Int)) := by
  have hgood : ¬ (r.bad = true ∨ r.bs.length - r.i < n) := by
    intro c
    rw [take_bad c] at hg
    cases hg
  have e : (takeP r n).2 = (r.bs.drop r.i).take n := by unfold takeP; rw [if_neg hgood]
  rw [h.by'.2 (r.i + j) (by rw [hb]; omega), hb, e]
  unfold byte
  rw [List.getElem?_take, if_pos hj, List.getElem?_drop]
set_option maxRecDepth 8000 in
set_option maxHeartbeats 1000000 in
theorem u8_any {w : World} {rb bb cap : Nat} {r : Rd} (H : RdAt w rb bb cap r) :
    Calls Tryz.prog 68 #[.pointer (some ⟨rb, 0, none⟩)] w fun e w' => e = .returned (.int .u8 ((u8P r).2 : Int)) ∧ RdAt w' rb bb cap (u8P r).1 ∧ Stp rb w w' := by
  have HT := take_any H 1 (by omega)
  have HI : Hid (r.i ≤ r.bs.length) := H.i
  have HU : Hid (u8P r = ((takeP r 1).1, if (takeP r 1).1.bad then 0 else byte (takeP r 1).2 0)) := rfl
  clear H
  go_enter Tryz.func68, Tryz.ntmps68
  go_wp2_with fail
  refine HT.mono ?_; rintro e w1 ⟨hv, hR, hS⟩
  obtain ⟨c0, c1, c2, _⟩ := hR.c
  have hl := hR.lt
  have HR : Hid (RdAt w1 rb bb cap (takeP r 1).1 ∧ Stp rb w w1) := ⟨hR, hS⟩
  rcases hv with ⟨hb, rfl⟩ | ⟨hb, k0, c, rfl, hc, hk⟩
  · rw [hb] at c2
    clear hR hS HT
    go_wp2_with fail
    go_ret
    refine ⟨?_, ?_, HR.out.2⟩
    · rw [HU.out, hb]; rfl
    · rw [HU.out]; exact HR.out.1
  · rw [hb] at c2
    have hk := hk (by omega)
    subst hk
    have hw := hR.win (r := r) (take_bs r 1) hb HI.out (j := 0) (by omega)
    have hbl := hR.by'.1
    have hby := byte_lt (takeP r 1).2 0
    have HB : Hid ((u8P r).2 = byte (takeP r 1).2 0) := by show _ = _; rw [HU.out, hb]; rfl
    clear hR hS HT
    generalize byte (takeP r 1).2 0 = x at *
    rw [Nat.add_zero] at hw
    go_wp2_with fail
    go_ret
    refine ⟨?_, ?_, HR.out.2⟩
    · rw [HB.out]; rfl
    · rw [HU.out]; exact HR.out.1
set_option maxRecDepth 8000 in
set_option maxHeartbeats 1000000 in
theorem u16_any {w : World} {rb bb cap : Nat} {r : Rd} (H : RdAt w rb bb cap r) :
    Calls Tryz.prog 80 #[.pointer (some ⟨rb, 0, none⟩)] w fun e w' => e = .returned (.int .u16 ((u16P r).2 : Int)) ∧ RdAt w' rb bb cap (u16P r).1 ∧ Stp rb w w' := by
  have HT := take_any H 2 (by omega)
  have HI : Hid (r.i ≤ r.bs.length) := H.i
  have HU : Hid (u16P r = ((takeP r 2).1, if (takeP r 2).1.bad then 0 else byte (takeP r 2).2 0 + 256 * byte (takeP r 2).2 1)) := rfl
  clear H
  go_enter Tryz.func80, Tryz.ntmps80
  go_wp2_with fail
  refine HT.mono ?_; rintro e w1 ⟨hv, hR, hS⟩
  obtain ⟨c0, c1, c2, _⟩ := hR.c
  have hl := hR.lt
  have HR : Hid (RdAt w1 rb bb cap (takeP r 2).1 ∧ Stp rb w w1) := ⟨hR, hS⟩
  rcases hv with ⟨hb, rfl⟩ | ⟨hb, k0, c, rfl, hc, hk⟩
  · rw [hb] at c2
    clear hR hS HT
    go_wp2_with fail
    go_ret
    refine ⟨?_, ?_, HR.out.2⟩
    · rw [HU.out, hb]; rfl
    · rw [HU.out]; exact HR.out.1
  · rw [hb] at c2
    have hk := hk (by omega)
    subst hk
    have hw := hR.win (r := r) (take_bs r 2) hb HI.out (j := 0) (by omega)
    have hw1 := hR.win (r := r) (take_bs r 2) hb HI.out (j := 1) (by omega)
    have hbl := hR.by'.1
    have hx := byte_lt (takeP r 2).2 0
    have hy := byte_lt (takeP r 2).2 1
    have HB : Hid ((u16P r).2 = byte (takeP r 2).2 0 + 256 * byte (takeP r 2).2 1) := by show _ = _; rw [HU.out, hb]; rfl
    clear hR hS HT
    generalize byte (takeP r 2).2 0 = x at *
    generalize byte (takeP r 2).2 1 = y at *
    rw [Nat.add_zero] at hw
    have hor := or_u16 x y hx hy
    go_wp2_with fail
    go_quiet (fail)
    go_wp2_with fail
    go_ret
    refine ⟨?_, ?_, ?_⟩
    · rw [HB.out]; rfl
    · rw [HU.out]; exact HR.out.1.drewN nq
    · exact HR.out.2.trans (Stp.of_below (below_drewN (Below.refl _ _) nq))
end Go.Proofs.Qxb6500293aGreatRR
