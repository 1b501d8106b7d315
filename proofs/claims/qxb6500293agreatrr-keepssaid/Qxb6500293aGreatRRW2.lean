import Derived.Test.Qxb6500293aGreatRRW1
import Derived.Test.Qxb6500293aGreatRRPp
namespace Go.Proofs.Qxb6500293aGreatRR
open Go.RowKit
open Ieee (double)

theorem ret_int {k : IntKind} {a b : Int} (h : a = b) : Ending.returned (.int k a) = .returned (.int k b) := by rw [h]
theorem ret_str {a b : ByteArray} (h : a = b) : Ending.returned (.string a) = .returned (.string b) := by rw [h]

set_option maxHeartbeats 400000 in
theorem new_any (w : World)  :
    Calls Tryz.prog 19 #[] w fun e w' => e = .returned (.pointer (some ⟨w.heap.size + 1, 0, none⟩)) ∧ BB 5 w.heap.size (List.replicate 24 0) w' ∧ w'.heap[w.heap.size + 1]? = some (.cells #[.slice (some ⟨w.heap.size, 0, none⟩) 24 24] 110) ∧ Below w.heap.size w w' ∧ w'.heap.size = w.heap.size + 2 := by
  have hm := fun w => run_make (P := Tryz.prog) w 59 5 Tryz.t5 (.int .u8 0) Tryz.underlying59 (by kernel_rfl) (by kernel_rfl) .i64 .i64 24 24 (by omega) (by omega) (by show ((1 : Nat) : Int) * 24 ≤ _; omega) (by omega)
  have ht : madeCells #[Value.int IntKind.u8 0] (24 * Tryz.t5.size) = ((List.replicate 24 (0 : UInt8)).map cel).toArray := by
    rw [show Tryz.t5.size = 1 from by kernel_rfl]; kernel_rfl
  have HT : Hid (madeCells #[Value.int IntKind.u8 0] (24 * Tryz.t5.size) = ((List.replicate 24 (0 : UInt8)).map cel).toArray) := ht
  clear ht
  go_enter Tryz.func19, Tryz.ntmps19
  go_wp2
  go_ret
  refine ⟨rfl, ?_, ?_, ?_, ?_⟩
  · unfold BB
    rw [HT.out, Below.heap_alloc _ _ _ (by simp)]
    exact (MapKept.heap_alloc w _).1
  · have := (MapKept.heap_alloc (w.alloc (Obj.cells (madeCells #[Value.int IntKind.u8 0] (24 * Tryz.t5.size)) 5)) (Obj.cells #[Value.slice (some { block := w.heap.size, off := 0 }) 24 24] 110)).1
    simpa using this
  · exact ((Below.refl _ _).alloc (Nat.le_refl _) _).alloc (by simp) _
  · simp

theorem BB.conv {t : TypeId} {b : Nat} {bs : List UInt8} {w : World} (h : BB t b bs w) {i n c : Nat} (hi : i + n ≤ bs.length) :
    (convert 59 9 (.slice (some ⟨b, i, none⟩) n c)).run Tryz.prog w = .ok (.string ⟨((bs.drop i).take n).toArray⟩) w := by
  rw [run_convert_bytes_string w 59 9 5 _ _ _ Tryz.underlying59 Tryz.underlying5 Tryz.underlying9]
  exact h.str hi

theorem sliceAt132 (b t : Nat) (h1 : 1 ≤ t) (h2 : t ≤ 20) (w : World) : (Instr.sliceAt 123 (.pointer (some ⟨b, 0, none⟩)) (some (.int .i64 ((20 - t : Nat) : Int))) none none).run Tryz.prog w = .ok (.slice (some ⟨b, 20 - t, none⟩) t t) w := by
  have e1 : Tryz.prog.arrayLen 123 = 20 := by kernel_rfl
  have e2 : Tryz.prog.elem 123 = 5 := by kernel_rfl
  have e3 : (sizeOf 5).run Tryz.prog w = .ok 1 w := by kernel_rfl
  rw [run_sliceAt_array_l w 123 ⟨b, 0, none⟩ (by kernel_rfl) .i64 _ (by omega) (by rw [e1]; omega), e1, e2, e3]
  simp only [Result.andThen, slicedAt, Int.toNat_natCast]
  rw [if_neg (by omega)]
  simp [Addr.add]
  omega

set_option maxHeartbeats 400000 in
theorem utoa_any (u : Nat) (w : World) (hu : u < 18446744073709551616) :
    Calls Tryz.prog 33 #[.int .u64 u] w fun e w' => e = .returned (.string ⟨(dec u).toArray⟩) ∧ Below w.heap.size w w' := by
  rcases Nat.eq_zero_or_pos u with h0 | h0
  · subst h0
    have hd : dec 0 = [48] := by decide +kernel
    rw [hd]
    go_enter Tryz.func33, Tryz.ntmps33
    go_wp2
    go_ret
    exact ⟨rfl, Below.refl _ _⟩
  · have HD : Hid (u < 10 ^ nd u ∧ 1 ≤ nd u ∧ nd u ≤ 20 ∧ (nd u = 1 ∨ 10 ^ (nd u - 1) ≤ u)) := nd_spec u hu
    have hn20 : nd u ≤ 20 := HD.out.2.2.1
    go_enter Tryz.func33, Tryz.ntmps33
    go_wp2
    go_loopw [0, 4] (fun u2 i2 w2 => ∃ (t v : Nat) (suf : List UInt8), i2 = .int .i64 ((20 - t : Nat) : Int) ∧ u2 = .int .u64 (v : Int) ∧ suf.length = t ∧ t ≤ nd u ∧ v ≤ u ∧ Hid (v < 10 ^ (nd u - t) ∧ dec u = fx (nd u - t) v ++ suf ∧ v = u / 10 ^ t) ∧ BB 123 w.heap.size (put (List.replicate 20 0) (20 - t) suf) w2 ∧ Below w.heap.size w w2) (fun u2 _ _ => (intOf u2).toNat)
    case atStart =>
      refine ⟨0, u, [], rfl, rfl, rfl, by omega, by omega, ⟨HD.out.1, by simp [dec], by simp⟩, ?_, ?_⟩
      · rw [put_nil]
        exact (MapKept.heap_alloc w _).1
      · exact (Below.refl _ _).alloc (Nat.le_refl _) _
    case round =>
      obtain ⟨t, v, suf, rfl, rfl, hsl, htn, hvu, HV, hbb, hbl⟩ := hrel
      rcases Nat.eq_zero_or_pos v with hv | hv
      · subst hv
        have ht : nd u = t := by
          obtain ⟨_, _, h3⟩ := HV.out
          have : u < 10 ^ t := by
            have hp : 0 < 10 ^ t := Nat.pow_pos (by omega)
            exact (Nat.div_eq_zero_iff_lt hp).1 h3.symm
          obtain ⟨_, g1, _, g2⟩ := HD.out
          by_cases lt : t < nd u
          · rcases g2 with g2 | g2
            · have : t = 0 := by omega
              subst this; omega
            · have : 10 ^ t ≤ 10 ^ (nd u - 1) := Nat.pow_le_pow_right (by omega) (by omega)
              omega
          · omega
        have hdec : dec u = suf := by
          have := HV.out.2.1
          rw [ht, Nat.sub_self] at this
          simpa [fx] using this
        have hlen : (put (List.replicate 20 (0 : UInt8)) (20 - t) suf).length = 20 := by rw [put_length (by simp; omega)]; simp
        have hstr := fun c => hbb.conv (i := 20 - t) (n := t) (c := c) (by omega)
        have hdr : (put (List.replicate 20 (0 : UInt8)) (20 - t) suf).drop (20 - t) = suf := put_drop (by simp; omega)
        rw [hdr, List.take_of_length_le (by omega), ← hdec] at hstr
        have ht20 : t ≤ 20 := by omega
        have ht1 : 1 ≤ t := by have := HD.out.2.1; omega
        have hsl2 := fun w' => sliceAt132 w.heap.size t ht1 ht20 w'
        have HDd : Hid (suf.length = t) := hsl
        clear HV hdec hdr hlen hsl ht
        go_wp2
        go_ret
        exact ⟨rfl, hbl⟩
      · have htlt : t < nd u := by
          by_cases c : t < nd u
          · exact c
          · have := HV.out.1
            rw [show nd u - t = 0 from by omega] at this
            simp at this; omega
        have hcell := hbb.cell (i := 20 - t - 1) (by rw [put_length (by simp; omega)]; simp; omega)
        have hfr := hbb.frozen (20 - t - 1)
        go_wp2
        go_roundw
        case rel =>
          obtain ⟨h1, h2, h3⟩ := HV.out
          obtain ⟨j, hj⟩ : ∃ j, nd u - t = j + 1 := ⟨nd u - t - 1, by omega⟩
          refine ⟨t + 1, v / 10, UInt8.ofNat (48 + v % 10) :: suf, ?_, ?_, ?_, ?_, ?_, ⟨?_, ?_, ?_⟩, ?_, ?_⟩
          · congr 1; omega
          · congr 1
          · simp [hsl]
          · omega
          · omega
          · rw [hj, Nat.pow_succ] at h1
            rw [show nd u - (t + 1) = j from by omega]
            omega
          · rw [h2, hj, show nd u - (t + 1) = j from by omega, fx_last j v (by rw [← hj]; exact h1)]
            simp
          · rw [Nat.pow_succ, ← Nat.div_div_eq_div_mul, ← h3]
          · rw [show 20 - (t + 1) = 20 - t - 1 from by omega, put_cons _ (by simp; omega), show 20 - t - 1 + 1 = 20 - t from by omega]
            have := hbb.set (20 - t - 1) (n := 48 + (v : Int) % 10) (by omega) (by omega)
            rw [show (48 + (v : Int) % 10).toNat = 48 + v % 10 from by omega] at this
            exact this
          · exact hbl.setCell (Nat.le_refl _) _
        case measure => simp [intOf]; omega

/-! ### num.run -/
theorem val_snoc (m : Nat) (l : List UInt8) (c : UInt8) : val m (l ++ [c]) = val m l * 10 + (c.toNat - 48) := by
  unfold val; rw [List.foldl_append]; rfl
theorem digs_eq {l : List UInt8} {k : Nat} (h1 : ∀ c ∈ l.take k, isDigit c = true) (h2 : l.drop k = [] ∨ ∃ c r, l.drop k = c :: r ∧ isDigit c = false) : digs l = l.take k := by
  unfold digs
  have := List.takeWhile_append_of_pos (l₁ := l.take k) (l₂ := l.drop k) h1
  rw [List.take_append_drop] at this
  rw [this]
  rcases h2 with h2 | ⟨c, r, h2, h3⟩
  · rw [h2]; simp
  · rw [h2, List.takeWhile_cons_of_neg (by simp [h3])]; simp

theorem ret3 {k1 k2 k3 : IntKind} {a a' b b' c c' : Int} (h1 : a = a') (h2 : b = b') (h3 : c = c') : Ending.returned (.tuple #[.int k1 a, .int k2 b, .int k3 c]) = .returned (.tuple #[.int k1 a', .int k2 b', .int k3 c']) := by rw [h1, h2, h3]

/-! ### num.lay -/
/-! ### api.Itoa -/
theorem str_append (a b : List UInt8) : (⟨a.toArray⟩ : ByteArray) ++ ⟨b.toArray⟩ = ⟨(a ++ b).toArray⟩ := by
  apply ByteArray.ext
  rw [ByteArray.data_append]; simp

set_option maxHeartbeats 400000 in
theorem itoa_any (i : Int) (w : World) (h1 : -9223372036854775808 ≤ i) (h2 : i ≤ 9223372036854775807) :
    Calls Tryz.prog 13 #[.int .i64 i] w fun e w' => e = .returned (.string ⟨(itoaL i).toArray⟩) ∧ Below w.heap.size w w' := by
  have hl : (dec i.natAbs).length ≤ 20 := by rw [dec_length]; exact (nd_spec _ (by omega)).2.2.1
  by_cases h : i < 0
  · have e1 : IntKind.u64.wrap (wrap64 (-i)) = (i.natAbs : Int) := by
      unfold wrap64; rw [IntKind.wrap_u64]; omega
    have hi : itoaL i = [45] ++ dec i.natAbs := by simp [itoaL, h]
    rw [hi, ← str_append]
    clear hi
    go_enter Tryz.func13, Tryz.ntmps13
    go_wp2_with (go_at_call 33; refine (utoa_any i.natAbs _ (by omega)).mono ?_; rintro e w' ⟨rfl, hb⟩)
    go_ret
    exact ⟨rfl, hb⟩
  · have e1 : IntKind.u64.wrap i = (i.natAbs : Int) := by
      rw [IntKind.wrap_u64]; omega
    have hi : itoaL i = dec i.natAbs := by simp [itoaL, h]
    rw [hi]
    clear hi
    go_enter Tryz.func13, Tryz.ntmps13
    go_wp2_with (go_at_call 33; refine (utoa_any i.natAbs _ (by omega)).mono ?_; rintro e w' ⟨rfl, hb⟩)
    go_ret
    exact ⟨rfl, hb⟩

end Go.Proofs.Qxb6500293aGreatRR
