import Derived.Test.Qxb6500290aW1
import Derived.Test.Qxb6500290aPp
namespace Go.Proofs.Qxb6500290a
open Go.RowKit
open Ieee (double)

theorem ret_int {k : IntKind} {a b : Int} (h : a = b) : Ending.returned (.int k a) = .returned (.int k b) := by rw [h]
theorem ret_str {a b : ByteArray} (h : a = b) : Ending.returned (.string a) = .returned (.string b) := by rw [h]

set_option maxHeartbeats 400000 in
theorem new_any (w : World)  :
    Calls Try.prog 11 #[] w fun e w' => e = .returned (.pointer (some ⟨w.heap.size + 1, 0, none⟩)) ∧ BB 5 w.heap.size (List.replicate 24 0) w' ∧ w'.heap[w.heap.size + 1]? = some (.cells #[.slice (some ⟨w.heap.size, 0, none⟩) 24 24] 34) ∧ Below w.heap.size w w' ∧ w'.heap.size = w.heap.size + 2 := by
  have hm := fun w => run_make (P := Try.prog) w 32 5 Try.t5 (.int .u8 0) Try.underlying32 (by kernel_rfl) (by kernel_rfl) .i64 .i64 24 24 (by omega) (by omega) (by show ((1 : Nat) : Int) * 24 ≤ _; omega) (by omega)
  have ht : madeCells #[Value.int IntKind.u8 0] (24 * Try.t5.size) = ((List.replicate 24 (0 : UInt8)).map cel).toArray := by
    rw [show Try.t5.size = 1 from by kernel_rfl]; kernel_rfl
  have HT : Hid (madeCells #[Value.int IntKind.u8 0] (24 * Try.t5.size) = ((List.replicate 24 (0 : UInt8)).map cel).toArray) := ht
  clear ht
  go_enter Try.func11, Try.ntmps11
  go_wp2
  go_ret
  refine ⟨rfl, ?_, ?_, ?_, ?_⟩
  · unfold BB
    rw [HT.out, Below.heap_alloc _ _ _ (by simp)]
    exact (MapKept.heap_alloc w _).1
  · have := (MapKept.heap_alloc (w.alloc (Obj.cells (madeCells #[Value.int IntKind.u8 0] (24 * Try.t5.size)) 5)) (Obj.cells #[Value.slice (some { block := w.heap.size, off := 0 }) 24 24] 34)).1
    simpa using this
  · exact ((Below.refl _ _).alloc (Nat.le_refl _) _).alloc (by simp) _
  · simp

theorem BB.conv {t : TypeId} {b : Nat} {bs : List UInt8} {w : World} (h : BB t b bs w) {i n c : Nat} (hi : i + n ≤ bs.length) :
    (convert 32 9 (.slice (some ⟨b, i, none⟩) n c)).run Try.prog w = .ok (.string ⟨((bs.drop i).take n).toArray⟩) w := by
  rw [run_convert_bytes_string w 32 9 5 _ _ _ Try.underlying32 Try.underlying5 Try.underlying9]
  exact h.str hi

theorem sliceAt84 (b t : Nat) (h1 : 1 ≤ t) (h2 : t ≤ 20) (w : World) : (Instr.sliceAt 84 (.pointer (some ⟨b, 0, none⟩)) (some (.int .i64 ((20 - t : Nat) : Int))) none none).run Try.prog w = .ok (.slice (some ⟨b, 20 - t, none⟩) t t) w := by
  have e1 : Try.prog.arrayLen 84 = 20 := by kernel_rfl
  have e2 : Try.prog.elem 84 = 5 := by kernel_rfl
  have e3 : (sizeOf 5).run Try.prog w = .ok 1 w := by kernel_rfl
  rw [run_sliceAt_array_l w 84 ⟨b, 0, none⟩ (by kernel_rfl) .i64 _ (by omega) (by rw [e1]; omega), e1, e2, e3]
  simp only [Result.andThen, slicedAt, Int.toNat_natCast]
  rw [if_neg (by omega)]
  simp [Addr.add]
  omega

set_option maxHeartbeats 400000 in
theorem utoa_any (u : Nat) (w : World) (hu : u < 18446744073709551616) :
    Calls Try.prog 68 #[.int .u64 u] w fun e w' => e = .returned (.string ⟨(dec u).toArray⟩) ∧ Below w.heap.size w w' := by
  rcases Nat.eq_zero_or_pos u with h0 | h0
  · subst h0
    have hd : dec 0 = [48] := by decide +kernel
    rw [hd]
    go_enter Try.func68, Try.ntmps68
    go_wp2
    go_ret
    exact ⟨rfl, Below.refl _ _⟩
  · have HD : Hid (u < 10 ^ nd u ∧ 1 ≤ nd u ∧ nd u ≤ 20 ∧ (nd u = 1 ∨ 10 ^ (nd u - 1) ≤ u)) := nd_spec u hu
    have hn20 : nd u ≤ 20 := HD.out.2.2.1
    go_enter Try.func68, Try.ntmps68
    go_wp2
    go_loopw [0, 4] (fun u2 i2 w2 => ∃ (t v : Nat) (suf : List UInt8), i2 = .int .i64 ((20 - t : Nat) : Int) ∧ u2 = .int .u64 (v : Int) ∧ suf.length = t ∧ t ≤ nd u ∧ v ≤ u ∧ Hid (v < 10 ^ (nd u - t) ∧ dec u = fx (nd u - t) v ++ suf ∧ v = u / 10 ^ t) ∧ BB 84 w.heap.size (put (List.replicate 20 0) (20 - t) suf) w2 ∧ Below w.heap.size w w2) (fun u2 _ _ => (intOf u2).toNat)
    case atStart =>
      refine ⟨0, u, [], rfl, rfl, rfl, by omega, by omega, ⟨HD.out.1, by simp [dec], by simp⟩, ?_, ?_⟩
      · rw [put_nil]
        exact (MapKept.heap_alloc w _).1
      · exact (Below.refl _ _).alloc (Nat.le_refl _) _
    case round =>
      obtain ⟨t, v, suf, rfl, rfl, hsl, htn, hvu, HV, hbb, hbl⟩ := hrel
      rcases Nat.eq_zero_or_pos v with hv | hv
      · subst hv
        have ht : nd u = t := by
          obtain ⟨_, _, h3⟩ := HV.out
          have : u < 10 ^ t := by
            have hp : 0 < 10 ^ t := Nat.pow_pos (by omega)
            exact (Nat.div_eq_zero_iff_lt hp).1 h3.symm
          obtain ⟨_, g1, _, g2⟩ := HD.out
          by_cases lt : t < nd u
          · rcases g2 with g2 | g2
            · have : t = 0 := by omega
              subst this; omega
            · have : 10 ^ t ≤ 10 ^ (nd u - 1) := Nat.pow_le_pow_right (by omega) (by omega)
              omega
          · omega
        have hdec : dec u = suf := by
          have := HV.out.2.1
          rw [ht, Nat.sub_self] at this
          simpa [fx] using this
        have hlen : (put (List.replicate 20 (0 : UInt8)) (20 - t) suf).length = 20 := by rw [put_length (by simp; omega)]; simp
        have hstr := fun c => hbb.conv (i := 20 - t) (n := t) (c := c) (by omega)
        have hdr : (put (List.replicate 20 (0 : UInt8)) (20 - t) suf).drop (20 - t) = suf := put_drop (by simp; omega)
        rw [hdr, List.take_of_length_le (by omega), ← hdec] at hstr
        have ht20 : t ≤ 20 := by omega
        have ht1 : 1 ≤ t := by have := HD.out.2.1; omega
        have hsl2 := fun w' => sliceAt84 w.heap.size t ht1 ht20 w'
        have HDd : Hid (suf.length = t) := hsl
        clear HV hdec hdr hlen hsl ht
        go_wp2
        go_ret
        exact ⟨rfl, hbl⟩
      · have htlt : t < nd u := by
          by_cases c : t < nd u
          · exact c
          · have := HV.out.1
            rw [show nd u - t = 0 from by omega] at this
            simp at this; omega
        have hcell := hbb.cell (i := 20 - t - 1) (by rw [put_length (by simp; omega)]; simp; omega)
        have hfr := hbb.frozen (20 - t - 1)
        go_wp2
        go_roundw
        case rel =>
          obtain ⟨h1, h2, h3⟩ := HV.out
          obtain ⟨j, hj⟩ : ∃ j, nd u - t = j + 1 := ⟨nd u - t - 1, by omega⟩
          refine ⟨t + 1, v / 10, UInt8.ofNat (48 + v % 10) :: suf, ?_, ?_, ?_, ?_, ?_, ⟨?_, ?_, ?_⟩, ?_, ?_⟩
          · congr 1; omega
          · congr 1
          · simp [hsl]
          · omega
          · omega
          · rw [hj, Nat.pow_succ] at h1
            rw [show nd u - (t + 1) = j from by omega]
            omega
          · rw [h2, hj, show nd u - (t + 1) = j from by omega, fx_last j v (by rw [← hj]; exact h1)]
            simp
          · rw [Nat.pow_succ, ← Nat.div_div_eq_div_mul, ← h3]
          · rw [show 20 - (t + 1) = 20 - t - 1 from by omega, put_cons _ (by simp; omega), show 20 - t - 1 + 1 = 20 - t from by omega]
            have := hbb.set (20 - t - 1) (n := 48 + (v : Int) % 10) (by omega) (by omega)
            rw [show (48 + (v : Int) % 10).toNat = 48 + v % 10 from by omega] at this
            exact this
          · exact hbl.setCell (Nat.le_refl _) _
        case measure => simp [intOf]; omega

/-! ### num.run -/
theorem val_snoc (m : Nat) (l : List UInt8) (c : UInt8) : val m (l ++ [c]) = val m l * 10 + (c.toNat - 48) := by
  unfold val; rw [List.foldl_append]; rfl
theorem digs_eq {l : List UInt8} {k : Nat} (h1 : ∀ c ∈ l.take k, isDigit c = true) (h2 : l.drop k = [] ∨ ∃ c r, l.drop k = c :: r ∧ isDigit c = false) : digs l = l.take k := by
  unfold digs
  have := List.takeWhile_append_of_pos (l₁ := l.take k) (l₂ := l.drop k) h1
  rw [List.take_append_drop] at this
  rw [this]
  rcases h2 with h2 | ⟨c, r, h2, h3⟩
  · rw [h2]; simp
  · rw [h2, List.takeWhile_cons_of_neg (by simp [h3])]; simp

theorem ret3 {k1 k2 k3 : IntKind} {a a' b b' c c' : Int} (h1 : a = a') (h2 : b = b') (h3 : c = c') : Ending.returned (.tuple #[.int k1 a, .int k2 b, .int k3 c]) = .returned (.tuple #[.int k1 a', .int k2 b', .int k3 c']) := by rw [h1, h2, h3]

set_option maxHeartbeats 400000 in
theorem run_any (l : List UInt8) (i m : Nat) (w : World) (hl : l.length ≤ 9223372036854775807) (hm : m < 18446744073709551616) (hi : i ≤ l.length) :
    Calls Try.prog 72 #[.string ⟨l.toArray⟩, .int .i64 i, .int .u64 m] w fun e w' => e = .returned (.tuple #[.int .u64 ((val m (digs (l.drop i)) % 18446744073709551616 : Nat) : Int), .int .i64 ((digs (l.drop i)).length : Int), .int .i64 ((i + (digs (l.drop i)).length : Nat) : Int)]) ∧ w' = w := by
  go_enter Try.func72, Try.ntmps72
  go_wp2
  go_loop [1,2,9] (fun i2 m2 n2 => ∃ k q : Nat, i2 = .int .i64 ((i + k : Nat) : Int) ∧ n2 = .int .i64 (k : Int) ∧ m2 = .int .u64 (q : Int) ∧ q < 18446744073709551616 ∧ i + k ≤ l.length ∧ Hid (q = val m ((l.drop i).take k) % 18446744073709551616 ∧ ∀ c ∈ (l.drop i).take k, isDigit c = true)) (fun i2 _ _ => l.length - (intOf i2).toNat)
  case atStart => exact ⟨0, m, by simp, rfl, rfl, hm, hi, by simp [val, Nat.mod_eq_of_lt hm], by simp⟩
  case round =>
    obtain ⟨k, q, rfl, rfl, rfl, hq, hik, HQ⟩ := hrel
    by_cases hlt : i + k < l.length
    · have hc : ({ data := l.toArray } : ByteArray)[i + k] = l[i + k] := rfl
      have hdr : (l.drop i).drop k = l[i + k] :: l.drop (i + k + 1) := by rw [List.drop_drop]; exact List.drop_eq_getElem_cons hlt
      have htk : (l.drop i).take (k + 1) = (l.drop i).take k ++ [l[i + k]] := by
        rw [List.take_succ_eq_append_getElem (by simp; omega)]; simp
      have HC : Hid (({ data := l.toArray } : ByteArray)[i + k] = l[i + k] ∧ (l.drop i).drop k = l[i + k] :: l.drop (i + k + 1) ∧ (l.drop i).take (k + 1) = (l.drop i).take k ++ [l[i + k]]) := ⟨hc, hdr, htk⟩
      clear hc hdr htk
      by_cases hd : isDigit l[i + k] = true
      · have h48 : 48 ≤ (({ data := l.toArray } : ByteArray)[i + k].toNat : Int) := by
          rw [HC.out.1]; simp [isDigit] at hd; omega
        have h57 : (({ data := l.toArray } : ByteArray)[i + k].toNat : Int) ≤ 57 := by
          rw [HC.out.1]; simp [isDigit] at hd; omega
        have HD : Hid (isDigit l[i + k] = true) := hd
        clear hd
        go_wp2
        go_round
        case rel =>
          obtain ⟨hc, hdr, htk⟩ := HC.out
          obtain ⟨hq1, hq2⟩ := HQ.out
          rw [hc] at h48 h57 ⊢
          refine ⟨k + 1, (q * 10 + (l[i + k].toNat - 48)) % 18446744073709551616, by go_num, by go_num, ?_, by omega, by omega, ?_, ?_⟩
          · congr 1
            simp only [IntKind.wrap_u64]
            omega
          · rw [htk, val_snoc]; omega
          · rw [htk]
            intro c hc'
            rcases List.mem_append.1 hc' with h | h
            · exact hq2 c h
            · rw [List.mem_singleton.1 h]; exact HD.out
        case measure => simp [intOf]; omega
      · have hfin : digs (l.drop i) = (l.drop i).take k := digs_eq HQ.out.2 (.inr ⟨_, _, HC.out.2.1, by simpa using hd⟩)
        have hlen : ((l.drop i).take k).length = k := by simp; omega
        have hnd : (({ data := l.toArray } : ByteArray)[i + k].toNat : Int) < 48 ∨ 57 < (({ data := l.toArray } : ByteArray)[i + k].toNat : Int) := by
          rw [HC.out.1]
          simp [isDigit] at hd; omega
        have HF := HQ.out.1
        rw [← hfin] at HF hlen
        have HF2 : Hid (q = val m (digs (l.drop i)) % 18446744073709551616 ∧ (digs (l.drop i)).length = k) := ⟨HF, hlen⟩
        clear HF hlen hfin hd HQ HC
        rcases hnd with hnd | hnd
        all_goals
          go_wp2
          go_ret3
          exact ⟨ret3 (by have := HF2.out.1; omega) (by have := HF2.out.2; omega) (by have := HF2.out.2; omega), rfl⟩
    · have hfin : digs (l.drop i) = (l.drop i).take k := digs_eq HQ.out.2 (.inl (by simp; omega))
      have hlen : ((l.drop i).take k).length = k := by simp; omega
      have HF := HQ.out.1
      rw [← hfin] at HF hlen
      have HF2 : Hid (q = val m (digs (l.drop i)) % 18446744073709551616 ∧ (digs (l.drop i)).length = k) := ⟨HF, hlen⟩
      clear HF hlen hfin HQ
      go_wp2
      go_ret3
      exact ⟨ret3 (by have := HF2.out.1; omega) (by have := HF2.out.2; omega) (by have := HF2.out.2; omega), rfl⟩

theorem run_at (t : List UInt8) (i : Int) (I m : Nat) (w : World) (hi : i = (I : Int)) (hl : t.length ≤ 24) (hm : m < 18446744073709551616) (hI : I ≤ t.length) :
    Calls Try.prog 72 #[.string ⟨t.toArray⟩, .int .i64 i, .int .u64 m] w fun e w' => e = .returned (.tuple #[.int .u64 (nm t I m : Int), .int .i64 (dg t I : Int), .int .i64 ((I + dg t I : Nat) : Int)]) ∧ w' = w := by
  subst hi
  exact run_any t I m w (by omega) hm hI

/-! ### num.lay -/
set_option maxHeartbeats 400000 in
theorem lay_any (b : Nat) (bs : List UInt8) (i u : Nat) (w : World) (hu : u < 18446744073709551616) (hb : BB 5 b bs w) (hlen : bs.length = 24) (hi : i + nd u ≤ 24) :
    Calls Try.prog 54 #[.slice (some ⟨b, 0, none⟩) 24 24, .int .i64 i, .int .u64 u] w fun e w' => e = .returned (.int .i64 ((i + nd u : Nat) : Int)) ∧ BB 5 b (put bs i (dec u)) w' ∧ Stp b w w' := by
  go_enter Try.func54, Try.ntmps54
  go_wp2
  go_loop [7] (fun p => ∃ k : Nat, p = .int .u64 (k : Int) ∧ 1 ≤ k ∧ (∃ j, k = 10 ^ j) ∧ (k = 1 ∨ k ≤ u)) (fun p => u - (intOf p).toNat)
  case atStart => exact ⟨1, rfl, by omega, ⟨0, rfl⟩, .inl rfl⟩
  case round =>
    obtain ⟨k, rfl, h1, hj, hk⟩ := hrel
    have HJ : Hid (∃ j, k = 10 ^ j) := hj
    clear hj
    have hd : (u : Int) / (k : Int) ≤ u := Int.ediv_le_self _ (by omega)
    have hd0 : 0 ≤ (u : Int) / (k : Int) := Int.ediv_nonneg (by omega) (by omega)
    by_cases hlt : 10 ≤ (u : Int) / (k : Int)
    · have hk10 : (k : Int) * 10 ≤ u := by 
        have := Int.mul_le_of_le_ediv (c := (k : Int)) (by omega) hlt
        omega
      go_wp2
      go_round
      case rel => exact ⟨k * 10, by go_num, by omega, by obtain ⟨j, rfl⟩ := HJ.out; exact ⟨j + 1, by rw [Nat.pow_succ]⟩, by omega⟩
      case measure => simp [intOf]; omega
    · have HN : ∃ j, k = 10 ^ j ∧ nd u = j + 1 ∧ u < 10 ^ (j + 1) := by
        obtain ⟨j, hj⟩ := HJ.out
        have h3 : u < k * 10 := by
          have : u / k < 10 := by
            have e : ((u / k : Nat) : Int) = (u : Int) / (k : Int) := Int.natCast_ediv u k
            omega
          rw [Nat.mul_comm]
          exact (Nat.div_lt_iff_lt_mul (by omega)).1 this
        have h4 : u < 10 ^ (j + 1) := by rw [Nat.pow_succ, ← hj]; exact h3
        refine ⟨j, hj, nd_eq hu h4 ?_, h4⟩
        rcases hk with hk | hk
        · left
          rcases Nat.eq_zero_or_pos j with h | h
          · exact h
          · have : 10 ^ 1 ≤ 10 ^ j := Nat.pow_le_pow_right (by omega) h
            omega
        · right; omega
      have HN' : Hid (∃ j, k = 10 ^ j ∧ nd u = j + 1 ∧ u < 10 ^ (j + 1)) := HN
      clear HN HJ
      go_wp2
      go_loopw [1,2,7] (fun i2 u2 p w2 => ∃ (t v q : Nat) (pre : List UInt8), i2 = .int .i64 ((i + t : Nat) : Int) ∧ u2 = .int .u64 (v : Int) ∧ p = .int .u64 (q : Int) ∧ pre.length = t ∧ t ≤ nd u ∧ v ≤ u ∧ q ≤ k ∧ Hid (∃ r, t + r = nd u ∧ v < 10 ^ r ∧ dec u = pre ++ fx r v ∧ (match r with | 0 => q = 0 | r + 1 => q = 10 ^ r)) ∧ BB 5 b (put bs i pre) w2 ∧ Stp b w w2) (fun _ _ p _ => (intOf p).toNat)
      case atStart => 
        obtain ⟨j, h2, h3, h4⟩ := HN'.out
        exact ⟨0, u, k, [], by simp, rfl, rfl, rfl, by omega, by omega, by omega, ⟨j + 1, by omega, h4, by unfold dec; rw [h3]; simp, h2⟩, by rw [put_nil]; exact hb, Stp.refl _ _⟩
      case round =>
        obtain ⟨t, v, q, pre, rfl, rfl, rfl, hpl, htn, hvu, hqk, HR, hbb, hst⟩ := hrel
        have hku : k ≤ u ∨ k = 1 := by omega
        rcases Nat.eq_zero_or_pos q with hq | hq
        · subst hq
          have hfin : t = nd u ∧ pre = dec u := by
            obtain ⟨r, hr1, hr2, hr3, hr4⟩ := HR.out
            cases r with
            | zero => exact ⟨by omega, by simpa [fx] using hr3.symm⟩
            | succ r => simp only at hr4; have := Nat.pow_pos (n := r) (show 0 < 10 by omega); omega
          have HF : Hid (t = nd u ∧ pre = dec u) := hfin
          clear hfin HR
          go_wp2
          go_ret
          obtain ⟨e1, e2⟩ := HF.out
          exact ⟨ret_int (by rw [e1]), by rw [← e2]; exact hbb, hst⟩
        · have HR2 : ∃ r, t + (r + 1) = nd u ∧ v < 10 ^ (r + 1) ∧ dec u = pre ++ fx (r + 1) v ∧ q = 10 ^ r := by
            obtain ⟨r, hr1, hr2, hr3, hr4⟩ := HR.out
            cases r with
            | zero => simp only at hr4; omega
            | succ r => exact ⟨r, hr1, hr2, hr3, hr4⟩
          have hti : i + t < 24 := by obtain ⟨r, hr, _⟩ := HR2; omega
          have hvq : v / q < 10 := by
            obtain ⟨r, _, hr2, _, hr4⟩ := HR2
            rw [Nat.div_lt_iff_lt_mul hq, Nat.mul_comm, hr4, ← Nat.pow_succ]; exact hr2
          have hvm : v % q < q := Nat.mod_lt _ hq
          have hvl : v % q ≤ v := Nat.mod_le _ _
          have HN3 : Hid (∃ r, t + (r + 1) = nd u ∧ v < 10 ^ (r + 1) ∧ dec u = pre ++ fx (r + 1) v ∧ q = 10 ^ r) := HR2
          clear HR HR2
          have hq1 : (v : Int) / (q : Int) < 10 := by
            have e : ((v / q : Nat) : Int) = (v : Int) / (q : Int) := Int.natCast_ediv v q
            omega
          have hq0 : 0 ≤ (v : Int) / (q : Int) := Int.ediv_nonneg (by omega) (by omega)
          have hm0 : 0 ≤ (v : Int) % (q : Int) := Int.emod_nonneg _ (by omega)
          have hm1 : (v : Int) % (q : Int) ≤ v := by
            have e : ((v % q : Nat) : Int) = (v : Int) % (q : Int) := Int.natCast_emod v q
            omega
          have hcell := hbb.cell (i := i + t) (by rw [put_length (by omega)]; omega)
          have hfr := hbb.frozen (i + t)
          go_wp2
          go_roundw
          case rel =>
            obtain ⟨r, hr1, hr2, hr3, hr4⟩ := HN3.out
            have e1 : ((v / q : Nat) : Int) = (v : Int) / (q : Int) := Int.natCast_ediv v q
            have e2 : ((v % q : Nat) : Int) = (v : Int) % (q : Int) := Int.natCast_emod v q
            refine ⟨t + 1, v % q, q / 10, pre ++ [UInt8.ofNat (48 + v / q)], ?_, ?_, ?_, ?_, ?_, ?_, ?_, ?_, ?_, ?_⟩
            · rw [show ((i + (t + 1) : Nat) : Int) = ↑i + ↑t + 1 from by omega]
            · rw [e2]
            · rw [show ((q / 10 : Nat) : Int) = ↑q / 10 from by omega]
            · simp [hpl]
            · omega
            · omega
            · omega
            · refine ⟨r, by omega, ?_, ?_, ?_⟩
              · rw [← hr4]; exact hvm
              · rw [hr3, fx_succ, ← hr4]; simp
              · cases r with
                | zero => simp only; rw [hr4]
                | succ r => simp only; rw [hr4, Nat.pow_succ, Nat.mul_div_cancel _ (by omega)]
            · rw [put_snoc _ (by omega), hpl]
              have := hbb.set (i + t) (n := 48 + (v : Int) / (q : Int)) (by omega) (by omega)
              rw [show (48 + (v : Int) / (q : Int)).toNat = 48 + v / q from by omega] at this
              exact this
            · exact hst.setCell (.inl rfl) _
          case measure => simp [intOf]; omega
/-- The same, its numbers as they come. -/
theorem lay_int (b : Nat) (bs : List UInt8) (i u : Int) (I U : Nat) (w : World) (hi : i = (I : Int)) (hu : u = (U : Int)) (hU : U < 18446744073709551616) (hb : BB 5 b bs w) (hlen : bs.length = 24) (hI : I + nd U ≤ 24) :
    Calls Try.prog 54 #[.slice (some ⟨b, 0, none⟩) 24 24, .int .i64 i, .int .u64 u] w fun e w' => e = .returned (.int .i64 ((I + nd U : Nat) : Int)) ∧ BB 5 b (put bs I (dec U)) w' ∧ Stp b w w' := by
  subst hi; subst hu
  exact lay_any b bs I U w hU hb hlen hI

/-! ### api.Itoa -/
theorem str_append (a b : List UInt8) : (⟨a.toArray⟩ : ByteArray) ++ ⟨b.toArray⟩ = ⟨(a ++ b).toArray⟩ := by
  apply ByteArray.ext
  rw [ByteArray.data_append]; simp

set_option maxHeartbeats 400000 in
theorem itoa_any (i : Int) (w : World) (h1 : -9223372036854775808 ≤ i) (h2 : i ≤ 9223372036854775807) :
    Calls Try.prog 51 #[.int .i64 i] w fun e w' => e = .returned (.string ⟨(itoaL i).toArray⟩) ∧ Below w.heap.size w w' := by
  have hl : (dec i.natAbs).length ≤ 20 := by rw [dec_length]; exact (nd_spec _ (by omega)).2.2.1
  by_cases h : i < 0
  · have e1 : IntKind.u64.wrap (wrap64 (-i)) = (i.natAbs : Int) := by
      unfold wrap64; rw [IntKind.wrap_u64]; omega
    have hi : itoaL i = [45] ++ dec i.natAbs := by simp [itoaL, h]
    rw [hi, ← str_append]
    clear hi
    go_enter Try.func51, Try.ntmps51
    go_wp2_with (go_at_call 68; refine (utoa_any i.natAbs _ (by omega)).mono ?_; rintro e w' ⟨rfl, hb⟩)
    go_ret
    exact ⟨rfl, hb⟩
  · have e1 : IntKind.u64.wrap i = (i.natAbs : Int) := by
      rw [IntKind.wrap_u64]; omega
    have hi : itoaL i = dec i.natAbs := by simp [itoaL, h]
    rw [hi]
    clear hi
    go_enter Try.func51, Try.ntmps51
    go_wp2_with (go_at_call 68; refine (utoa_any i.natAbs _ (by omega)).mono ?_; rintro e w' ⟨rfl, hb⟩)
    go_ret
    exact ⟨rfl, hb⟩

end Go.Proofs.Qxb6500290a
