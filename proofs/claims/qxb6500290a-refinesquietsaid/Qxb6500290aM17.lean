import Derived.Test.Qxb6500290aM16
import Derived.Test.Qxb6500290aW8
namespace Go.Proofs.Qxb6500290a
open Go.RowKit
open Ieee (double)
set_option linter.unusedSimpArgs false
set_option linter.unusedVariables false

theorem show_R (p : Value) (w : World) : Calls Try.prog 38 #[p] w fun e w' => e = .returned (.string ⟨#[]⟩) ∧ w' = w := by
  go_enter Try.func38, Try.ntmps38
  go_wp2
  go_ret
  exact ⟨rfl, rfl⟩
theorem show_M (p : Value) (w : World) : Calls Try.prog 39 #[p] w fun e w' => e = .returned (.string ⟨#[]⟩) ∧ w' = w := by
  go_enter Try.func39, Try.ntmps39
  go_wp2
  go_ret
  exact ⟨rfl, rfl⟩
theorem check_M (p : Value) (w : World) : Calls Try.prog 40 #[p] w fun e w' => e = .returned (.bool true) ∧ w' = w := by
  go_enter Try.func40, Try.ntmps40
  go_wp2
  go_ret
  exact ⟨rfl, rfl⟩
theorem check_R (n b : Nat) (w : World) (hn : NumW n b w) : Calls Try.prog 21 #[.pointer (some ⟨n, 0, none⟩)] w fun e w' => e = .returned (.bool true) ∧ w' = w := by
  have h := hn.1.cell
  clear hn
  go_enter Try.func21, Try.ntmps21
  go_wp2
  go_ret
  exact ⟨rfl, rfl⟩
def bitI (b : Bool) : Int := if b then 1 else 0
theorem bit_any (b : Bool) (w : World) : Calls Try.prog 41 #[.bool b] w fun e w' => e = .returned (.int .i64 (bitI b)) ∧ w' = w := by
  cases b
  all_goals
    go_enter Try.func41, Try.ntmps41
    go_wp2
    go_ret
    exact ⟨rfl, rfl⟩
theorem newM_any (w : World) : Calls Try.prog 22 #[] w fun e w' => e = .returned (.pointer (some ⟨w.heap.size, 0, none⟩)) ∧ Below w.heap.size w w' := by
  go_enter Try.func22, Try.ntmps22
  go_wp2
  go_ret
  exact ⟨rfl, (Below.refl _ _).alloc (Nat.le_refl _) _⟩
theorem seen_any (n b : Nat) (p : Value) (w : World) (hn : NumW n b w) : Calls Try.prog 23 #[.pointer (some ⟨n, 0, none⟩), p] w fun e w' => e = .returned (.bool true) ∧ w' = w := by
  have s1 := fun w => show_R (.pointer (some ⟨n, 0, none⟩)) w
  have s2 := fun w => show_M p w
  have s3 := check_R n b w hn
  have s4 := fun w => check_M p w
  clear hn
  go_enter Try.func23, Try.ntmps23
  go_wp2_with fail
  refine (s1 _).mono ?_; rintro e w' ⟨rfl, rfl⟩
  go_wp2_with fail
  refine (s2 _).mono ?_; rintro e w' ⟨rfl, rfl⟩
  go_wp2_with fail
  refine s3.mono ?_; rintro e w' ⟨rfl, rfl⟩
  go_wp2_with fail
  refine (s4 _).mono ?_; rintro e w' ⟨rfl, rfl⟩
  go_wp2
  go_ret
  exact ⟨rfl, rfl⟩

def wr (x : Nat) : Int := IntKind.i64.wrap (x : Int)
def ansV (a : Int × Int × Int × List UInt8) : Value := .agg #[.int .i64 a.1, .int .i64 a.2.1, .int .i64 a.2.2.1, .string ⟨a.2.2.2.toArray⟩, .string ⟨#[]⟩]
/-- What one step answers: error, two numbers, a text. -/
def doP (K A B C : Int) (S : List UInt8) : Int × Int × Int × List UInt8 :=
  if K = 1 then (0, wr (arithW A (wordOf B) (wordOf C)), 0, [])
  else if K = 2 then (0, wr (negW (wordOf B)), 0, [])
  else if K = 3 then (0, bitI (cmpW A (double.order (wordOf B) (wordOf C))), 0, [])
  else if K = 4 then (0, wr (double.nearest (decide (A < 0)) A.natAbs 0), 0, [])
  else if K = 5 then (0, toIntV (wordOf B), bitI (toIntB (wordOf B)), [])
  else if K = 6 then (0, 0, 0, fmtP (wordOf B))
  else if K = 7 then ((parseP S).2, wr (parseP S).1, 0, [])
  else if K = 8 then (0, 0, 0, [])
  else if K = 9 then (0, 1, 0, [])
  else (0, 0, 0, [])
structure Ok (n b : Nat) (w w' : World) : Prop where
  stp : Stp b w w'
  num : NumW n b w'
def DoEnd (n b : Nat) (v : Int × Int × Int × List UInt8) (w : World) (e : Ending) (w' : World) : Prop := e = .returned (ansV v) ∧ Ok n b w w'


/-- A fresh answer's block. -/
abbrev zAns : Obj := .cells #[.int .i64 0, .int .i64 0, .int .i64 0, .string ⟨#[]⟩, .string ⟨#[]⟩] 49
def Fresh (k : Nat) (w : World) : Prop := w.heap[k]? = some zAns
theorem Fresh.cells {k : Nat} {w : World} (h : Fresh k w) :
    w.cell? ⟨k, 0, none⟩ = some (.int .i64 0) ∧ w.cell? ⟨k, 1, none⟩ = some (.int .i64 0) ∧ w.cell? ⟨k, 2, none⟩ = some (.int .i64 0) ∧ w.cell? ⟨k, 3, none⟩ = some (.string ⟨#[]⟩) ∧ w.cell? ⟨k, 4, none⟩ = some (.string ⟨#[]⟩) ∧
    w.frozen? ⟨k, 0, none⟩ = false ∧ w.frozen? ⟨k, 1, none⟩ = false ∧ w.frozen? ⟨k, 2, none⟩ = false ∧ w.frozen? ⟨k, 3, none⟩ = false ∧ w.frozen? ⟨k, 4, none⟩ = false := by
  unfold Fresh at h
  simp [World.cell?, World.frozen?, h]
theorem fresh_at {w w' : World} {o : Obj} {b : Nat} (h : Stp b (((w.alloc o).alloc zAns).alloc zAns) w') (hb : b ≤ w.heap.size) : Fresh (w.heap.size + 1) w' ∧ Fresh (w.heap.size + 1 + 1) w' := by
  unfold Fresh
  constructor
  · rw [h.block _ (by show _ < (((w.heap.push o).push zAns).push zAns).size; simp) (by omega)]
    show (((w.heap.push o).push zAns).push zAns)[_]? = _
    simp [Array.getElem_push]
  · rw [h.block _ (by show _ < (((w.heap.push o).push zAns).push zAns).size; simp) (by omega)]
    show (((w.heap.push o).push zAns).push zAns)[_]? = _
    simp [Array.getElem_push]
theorem NumW.setCell {n b : Nat} {w : World} (h : NumW n b w) {p : Addr} (h1 : p.block ≠ n) (h2 : p.block ≠ b) (v : Value) : NumW n b (w.setCell p v) := by
  obtain ⟨a1, a2, bs, a3, a4⟩ := h
  have e : ∀ k, p.block ≠ k → (w.setCell p v).heap[k]? = w.heap[k]? := fun k hk => Below.heap_setCell _ _ _ _ (Ne.symm hk)
  refine ⟨?_, a2, bs, ?_, a4⟩
  · unfold NumAt; rw [e n h1]; exact a1
  · unfold BB; rw [e b h2]; exact a3
theorem NumW.lt {n b : Nat} {w : World} (h : NumW n b w) : n < w.heap.size ∧ b < w.heap.size := by
  obtain ⟨a1, a2, bs, a3, a4⟩ := h
  refine ⟨?_, a3.lt⟩
  unfold NumAt at a1
  rcases Nat.lt_or_ge n w.heap.size with c | c
  · exact c
  · rw [Array.getElem?_eq_none c] at a1; cases a1
theorem Ok.refl {n b : Nat} {w : World} (h : NumW n b w) : Ok n b w w := ⟨Stp.refl _ _, h⟩
theorem Ok.set {n b : Nat} {w w1 : World} (h : Ok n b w w1) (hl : n < w.heap.size ∧ b < w.heap.size) {p : Addr} (hp : w.heap.size ≤ p.block) (v : Value) : Ok n b w (w1.setCell p v) :=
  ⟨h.stp.setCell (.inr hp) v, h.num.setCell (by omega) (by omega) v⟩
theorem Ok.alloc {n b : Nat} {w w1 : World} (h : Ok n b w w1) (o : Obj) : Ok n b w (w1.alloc o) := ⟨h.stp.alloc o, h.num.below ((Below.refl _ _).alloc (Nat.le_refl _) _)⟩
theorem Ok.trans {n b : Nat} {x y z : World} (h : Ok n b x y) (k : Ok n b y z) : Ok n b x z := ⟨h.stp.trans k.stp, k.num⟩
theorem Ok.of_eq {n b : Nat} {w w' : World} (h : NumW n b w) (e : w' = w) : Ok n b w w' := by subst e; exact Ok.refl h
theorem Ok.of_dr {n b : Nat} {w w' : World} (h : NumW n b w) (e : Dr w w') : Ok n b w w' := by
  refine ⟨e.stp b, ?_⟩
  obtain ⟨a1, a2, bs, a3, a4⟩ := h
  refine ⟨?_, a2, bs, ?_, a4⟩
  · unfold NumAt; rw [e.heap]; exact a1
  · unfold BB; rw [e.heap]; exact a3

set_option maxRecDepth 8000 in
set_option maxHeartbeats 3200000 in
theorem do_R (n b : Nat) (K A B C : Int) (S T : List UInt8) (w : World) (hn : NumW n b w) (hA : I64 A) (hS : S.length ≤ 9223372036854775807) :
    Calls Try.prog 24 #[.pointer (some ⟨n, 0, none⟩), opVal K A B C S T] w (DoEnd n b (doP K A B C S) w) := by
  unfold opVal
  have hB := wordOf_eq B
  have hC := wordOf_eq C
  have lB := wordOf_lt B
  have lC := wordOf_lt C
  have hlt := hn.lt
  by_cases k1 : K = 1
  · subst k1
    have H1 : ∀ w, Calls Try.prog 30 #[.pointer (some ⟨n, 0, none⟩), .int .i64 A, .int .u64 (wordOf B : Int), .int .u64 (wordOf C : Int)] w fun e w' => e = .returned (.int .u64 (arithW A (wordOf B) (wordOf C) : Nat)) ∧ (NumW n b w → Ok n b w w') := fun w => (arith_R _ A (wordOf B) (wordOf C) w lB lC).mono fun e w' h => ⟨h.1, fun hn => Ok.of_dr hn h.2⟩
    obtain ⟨R, hR⟩ : ∃ R, R = wr (arithW A (wordOf B) (wordOf C)) := ⟨_, rfl⟩
    have HV : Hid (doP 1 A B C S = (0, R, 0, [])) := by rw [hR]; exact if_pos rfl
    have hR2 : IntKind.i64.wrap (arithW A (wordOf B) (wordOf C) : Int) = R := hR.symm
    clear hR
    generalize arithW A (wordOf B) (wordOf C) = X at *
    generalize wordOf B = B' at *
    generalize wordOf C = C' at *
    go_enter Try.func24, Try.ntmps24
    go_wp2_with fail
    refine (H1 _).mono ?_; rintro e w1 ⟨rfl, hok⟩
    have hok2 := hok ((Ok.refl hn).alloc _ |>.alloc _ |>.alloc _).num
    obtain ⟨f1, f2⟩ := fresh_at hok2.stp (Nat.le_of_lt hlt.2)
    obtain ⟨c0, c1, c2, c3, c4, z0, z1, z2, z3, z4⟩ := f1.cells
    obtain ⟨c0', c1', c2', c3', c4', z0', z1', z2', z3', z4'⟩ := f2.cells
    have HOK : Hid (Ok n b w w1) := ((Ok.refl hn).alloc _ |>.alloc _ |>.alloc _).trans hok2
    clear f1 f2 hok2 hok
    go_wp2
    refine bodyPost_ret (v := ansV (0, R, 0, [])) (by simp [results, go_sem, c0, c1, c2, c3, c4, ansV]) rfl ?_
    rw [← HV.out]
    refine ⟨rfl, ?_⟩
    repeat (first | refine Ok.set ?_ hlt (Nat.le_add_right _ _) _ | refine Ok.set ?_ hlt (Nat.le_trans (Nat.le_add_right _ _) (Nat.le_add_right _ _)) _)
    exact HOK.out
  by_cases k2 : K = 2
  · subst k2
    have H1 : ∀ w, Calls Try.prog 17 #[.pointer (some ⟨n, 0, none⟩), .int .u64 (wordOf B : Int)] w fun e w' => e = .returned (.int .u64 (negW (wordOf B) : Nat)) ∧ (NumW n b w → Ok n b w w') := fun w => (neg_R _ (wordOf B) w lB).mono fun e w' h => ⟨h.1, fun hn => Ok.of_eq hn h.2⟩
    obtain ⟨R, hR⟩ : ∃ R, R = wr (negW (wordOf B)) := ⟨_, rfl⟩
    have HV : Hid (doP 2 A B C S = (0, R, 0, [])) := by show _ = _; rw [hR]; simp only [doP, reduceIte, Int.reduceEq]
    have hR2 : IntKind.i64.wrap ((negW (wordOf B) : Nat) : Int) = R := hR.symm
    clear hR
    generalize negW (wordOf B) = X at *
    generalize wordOf B = B' at *
    generalize wordOf C = C' at *
    go_enter Try.func24, Try.ntmps24
    go_wp2_with fail
    refine (H1 _).mono ?_; rintro e w1 ⟨rfl, hok⟩
    have hok2 := hok ((Ok.refl hn).alloc _ |>.alloc _ |>.alloc _).num
    obtain ⟨f1, f2⟩ := fresh_at hok2.stp (Nat.le_of_lt hlt.2)
    obtain ⟨c0, c1, c2, c3, c4, z0, z1, z2, z3, z4⟩ := f1.cells
    obtain ⟨c0', c1', c2', c3', c4', z0', z1', z2', z3', z4'⟩ := f2.cells
    have HOK : Hid (Ok n b w w1) := ((Ok.refl hn).alloc _ |>.alloc _ |>.alloc _).trans hok2
    clear f1 f2 hok2 hok
    go_wp2
    refine bodyPost_ret (v := ansV (0, R, 0, [])) (by simp [results, go_sem, c0, c1, c2, c3, c4, ansV]) rfl ?_
    rw [← HV.out]
    refine ⟨rfl, ?_⟩
    repeat (first | refine Ok.set ?_ hlt (Nat.le_add_right _ _) _ | refine Ok.set ?_ hlt (Nat.le_trans (Nat.le_add_right _ _) (Nat.le_add_right _ _)) _)
    exact HOK.out
  by_cases k3 : K = 3
  · subst k3
    have H1 : ∀ w, Calls Try.prog 33 #[.pointer (some ⟨n, 0, none⟩), .int .i64 A, .int .u64 (wordOf B : Int), .int .u64 (wordOf C : Int)] w fun e w' => e = .returned (.bool (cmpW A (double.order (wordOf B) (wordOf C)))) ∧ (NumW n b w → Ok n b w w') := fun w => (cmp_R _ A (wordOf B) (wordOf C) w).mono fun e w' h => ⟨h.1, fun hn => Ok.of_eq hn h.2⟩
    have HV : Hid (doP 3 A B C S = (0, bitI (cmpW A (double.order (wordOf B) (wordOf C))), 0, [])) := by show _ = _; simp only [doP, reduceIte, Int.reduceEq]
    have H2 := fun w => bit_any (cmpW A (double.order (wordOf B) (wordOf C))) w
    generalize cmpW A (double.order (wordOf B) (wordOf C)) = X at *
    generalize bitI X = R at *
    generalize wordOf B = B' at *
    generalize wordOf C = C' at *
    go_enter Try.func24, Try.ntmps24
    go_wp2_with fail
    refine (H1 _).mono ?_; rintro e w1 ⟨rfl, hok⟩
    have hok2 := hok ((Ok.refl hn).alloc _ |>.alloc _ |>.alloc _).num
    obtain ⟨f1, f2⟩ := fresh_at hok2.stp (Nat.le_of_lt hlt.2)
    obtain ⟨c0, c1, c2, c3, c4, z0, z1, z2, z3, z4⟩ := f1.cells
    obtain ⟨c0', c1', c2', c3', c4', z0', z1', z2', z3', z4'⟩ := f2.cells
    have HOK : Hid (Ok n b w w1) := ((Ok.refl hn).alloc _ |>.alloc _ |>.alloc _).trans hok2
    clear f1 f2 hok2 hok
    go_wp2_with fail
    refine (H2 _).mono ?_; rintro e w2 ⟨rfl, rfl⟩
    go_wp2
    refine bodyPost_ret (v := ansV (0, R, 0, [])) (by simp [results, go_sem, c0, c1, c2, c3, c4, ansV]) rfl ?_
    rw [← HV.out]
    refine ⟨rfl, ?_⟩
    repeat (first | refine Ok.set ?_ hlt (Nat.le_add_right _ _) _ | refine Ok.set ?_ hlt (Nat.le_trans (Nat.le_add_right _ _) (Nat.le_add_right _ _)) _)
    exact HOK.out
  by_cases k4 : K = 4
  · subst k4
    have H1 : ∀ w, Calls Try.prog 18 #[.pointer (some ⟨n, 0, none⟩), .int .i64 A] w fun e w' => e = .returned (.int .u64 (double.nearest (decide (A < 0)) A.natAbs 0 : Nat)) ∧ (NumW n b w → Ok n b w w') := fun w => (fromInt_any _ A w).mono fun e w' h => ⟨h.1, fun hn => Ok.of_eq hn h.2⟩
    obtain ⟨R, hR⟩ : ∃ R, R = wr (double.nearest (decide (A < 0)) A.natAbs 0) := ⟨_, rfl⟩
    have HV : Hid (doP 4 A B C S = (0, R, 0, [])) := by show _ = _; rw [hR]; simp only [doP, reduceIte, Int.reduceEq]
    have hR2 : IntKind.i64.wrap ((double.nearest (decide (A < 0)) A.natAbs 0 : Nat) : Int) = R := hR.symm
    clear hR
    generalize double.nearest (decide (A < 0)) A.natAbs 0 = X at *
    generalize wordOf B = B' at *
    generalize wordOf C = C' at *
    go_enter Try.func24, Try.ntmps24
    go_wp2_with fail
    refine (H1 _).mono ?_; rintro e w1 ⟨rfl, hok⟩
    have hok2 := hok ((Ok.refl hn).alloc _ |>.alloc _ |>.alloc _).num
    obtain ⟨f1, f2⟩ := fresh_at hok2.stp (Nat.le_of_lt hlt.2)
    obtain ⟨c0, c1, c2, c3, c4, z0, z1, z2, z3, z4⟩ := f1.cells
    obtain ⟨c0', c1', c2', c3', c4', z0', z1', z2', z3', z4'⟩ := f2.cells
    have HOK : Hid (Ok n b w w1) := ((Ok.refl hn).alloc _ |>.alloc _ |>.alloc _).trans hok2
    clear f1 f2 hok2 hok
    go_wp2
    refine bodyPost_ret (v := ansV (0, R, 0, [])) (by simp [results, go_sem, c0, c1, c2, c3, c4, ansV]) rfl ?_
    rw [← HV.out]
    refine ⟨rfl, ?_⟩
    repeat (first | refine Ok.set ?_ hlt (Nat.le_add_right _ _) _ | refine Ok.set ?_ hlt (Nat.le_trans (Nat.le_add_right _ _) (Nat.le_add_right _ _)) _)
    exact HOK.out
  by_cases k5 : K = 5
  · subst k5
    have H1 : ∀ w, Calls Try.prog 19 #[.pointer (some ⟨n, 0, none⟩), .int .u64 (wordOf B : Int)] w fun e w' => e = .returned (.tuple #[.int .i64 (toIntV (wordOf B)), .bool (toIntB (wordOf B))]) ∧ (NumW n b w → Ok n b w w') := fun w => (toInt_R _ (wordOf B) w lB).mono fun e w' h => ⟨h.1, fun hn => Ok.of_eq hn h.2⟩
    have HV : Hid (doP 5 A B C S = (0, toIntV (wordOf B), bitI (toIntB (wordOf B)), [])) := by show _ = _; simp only [doP, reduceIte, Int.reduceEq]
    have H2 := fun w => bit_any (toIntB (wordOf B)) w
    generalize toIntV (wordOf B) = X at *
    generalize toIntB (wordOf B) = Y at *
    generalize bitI Y = R at *
    generalize wordOf B = B' at *
    generalize wordOf C = C' at *
    go_enter Try.func24, Try.ntmps24
    go_wp2_with fail
    refine (H1 _).mono ?_; rintro e w1 ⟨rfl, hok⟩
    have hok2 := hok ((Ok.refl hn).alloc _ |>.alloc _ |>.alloc _).num
    obtain ⟨f1, f2⟩ := fresh_at hok2.stp (Nat.le_of_lt hlt.2)
    obtain ⟨c0, c1, c2, c3, c4, z0, z1, z2, z3, z4⟩ := f1.cells
    obtain ⟨c0', c1', c2', c3', c4', z0', z1', z2', z3', z4'⟩ := f2.cells
    have HOK : Hid (Ok n b w w1) := ((Ok.refl hn).alloc _ |>.alloc _ |>.alloc _).trans hok2
    clear f1 f2 hok2 hok
    go_wp2_with fail
    refine (H2 _).mono ?_; rintro e w2 ⟨rfl, rfl⟩
    go_wp2
    refine bodyPost_ret (v := ansV (0, X, R, [])) (by simp [results, go_sem, c0, c1, c2, c3, c4, ansV]) rfl ?_
    rw [← HV.out]
    refine ⟨rfl, ?_⟩
    repeat (first | refine Ok.set ?_ hlt (Nat.le_add_right _ _) _ | refine Ok.set ?_ hlt (Nat.le_trans (Nat.le_add_right _ _) (Nat.le_add_right _ _)) _)
    exact HOK.out
  by_cases k6 : K = 6
  · subst k6
    have H1 : Calls Try.prog 42 #[.pointer (some ⟨n, 0, none⟩), .int .u64 (wordOf B : Int)] (((w.alloc (.cells #[.int .i64 6, .int .i64 A, .int .i64 B, .int .i64 C, .string ⟨S.toArray⟩, .string ⟨T.toArray⟩] 29)).alloc zAns).alloc zAns) fun e w' => e = .returned (.string ⟨(fmtP (wordOf B)).toArray⟩) ∧ (NumW n b (((w.alloc (.cells #[.int .i64 6, .int .i64 A, .int .i64 B, .int .i64 C, .string ⟨S.toArray⟩, .string ⟨T.toArray⟩] 29)).alloc zAns).alloc zAns) → Ok n b (((w.alloc (.cells #[.int .i64 6, .int .i64 A, .int .i64 B, .int .i64 C, .string ⟨S.toArray⟩, .string ⟨T.toArray⟩] 29)).alloc zAns).alloc zAns) w') := (format_num n b (wordOf B) _ ((Ok.refl hn).alloc _ |>.alloc _ |>.alloc _).num lB).mono fun e w' h => ⟨h.1, fun _ => ⟨h.2.1, h.2.2⟩⟩
    have HV : Hid (doP 6 A B C S = (0, 0, 0, fmtP (wordOf B))) := by show _ = _; simp only [doP, reduceIte, Int.reduceEq]
    generalize fmtP (wordOf B) = X at *
    generalize wordOf B = B' at *
    generalize wordOf C = C' at *
    go_enter Try.func24, Try.ntmps24
    go_wp2_with fail
    refine H1.mono ?_; rintro e w1 ⟨rfl, hok⟩
    have hok2 := hok ((Ok.refl hn).alloc _ |>.alloc _ |>.alloc _).num
    obtain ⟨f1, f2⟩ := fresh_at hok2.stp (Nat.le_of_lt hlt.2)
    obtain ⟨c0, c1, c2, c3, c4, z0, z1, z2, z3, z4⟩ := f1.cells
    obtain ⟨c0', c1', c2', c3', c4', z0', z1', z2', z3', z4'⟩ := f2.cells
    have HOK : Hid (Ok n b w w1) := ((Ok.refl hn).alloc _ |>.alloc _ |>.alloc _).trans hok2
    clear f1 f2 hok2 hok
    go_wp2
    refine bodyPost_ret (v := ansV (0, 0, 0, X)) (by simp [results, go_sem, c0, c1, c2, c3, c4, ansV]) rfl ?_
    rw [← HV.out]
    refine ⟨rfl, ?_⟩
    repeat (first | refine Ok.set ?_ hlt (Nat.le_add_right _ _) _ | refine Ok.set ?_ hlt (Nat.le_trans (Nat.le_add_right _ _) (Nat.le_add_right _ _)) _)
    exact HOK.out
  by_cases k7 : K = 7
  · subst k7
    have H1 : ∀ w, Calls Try.prog 43 #[.pointer (some ⟨n, 0, none⟩), .string ⟨S.toArray⟩] w fun e w' => e = .returned (.tuple #[.int .u64 ((parseP S).1 : Int), .int .i64 (parseP S).2]) ∧ (NumW n b w → Ok n b w w') := fun w => (parse_any _ S w hS).mono fun e w' h => ⟨h.1, fun hn => Ok.of_eq hn h.2⟩
    obtain ⟨R, hR⟩ : ∃ R, R = wr (parseP S).1 := ⟨_, rfl⟩
    have HV : Hid (doP 7 A B C S = ((parseP S).2, R, 0, [])) := by show _ = _; rw [hR]; simp only [doP, reduceIte, Int.reduceEq]
    have hR2 : IntKind.i64.wrap ((parseP S).1 : Int) = R := hR.symm
    clear hR
    generalize (parseP S).1 = X at *
    generalize (parseP S).2 = Y at *
    generalize wordOf B = B' at *
    generalize wordOf C = C' at *
    go_enter Try.func24, Try.ntmps24
    go_wp2_with fail
    refine (H1 _).mono ?_; rintro e w1 ⟨rfl, hok⟩
    have hok2 := hok ((Ok.refl hn).alloc _ |>.alloc _ |>.alloc _).num
    obtain ⟨f1, f2⟩ := fresh_at hok2.stp (Nat.le_of_lt hlt.2)
    obtain ⟨c0, c1, c2, c3, c4, z0, z1, z2, z3, z4⟩ := f1.cells
    obtain ⟨c0', c1', c2', c3', c4', z0', z1', z2', z3', z4'⟩ := f2.cells
    have HOK : Hid (Ok n b w w1) := ((Ok.refl hn).alloc _ |>.alloc _ |>.alloc _).trans hok2
    clear f1 f2 hok2 hok
    go_wp2
    refine bodyPost_ret (v := ansV (Y, R, 0, [])) (by simp [results, go_sem, c0, c1, c2, c3, c4, ansV]) rfl ?_
    rw [← HV.out]
    refine ⟨rfl, ?_⟩
    repeat (first | refine Ok.set ?_ hlt (Nat.le_add_right _ _) _ | refine Ok.set ?_ hlt (Nat.le_trans (Nat.le_add_right _ _) (Nat.le_add_right _ _)) _)
    exact HOK.out
  by_cases k8 : K = 8
  · subst k8
    have H1 : ∀ w, Calls Try.prog 38 #[.pointer (some ⟨n, 0, none⟩)] w fun e w' => e = .returned (.string ⟨#[]⟩) ∧ (NumW n b w → Ok n b w w') := fun w => (show_R _ w).mono fun e w' h => ⟨h.1, fun hn => Ok.of_eq hn h.2⟩
    have HV : Hid (doP 8 A B C S = (0, 0, 0, [])) := by show _ = _; simp only [doP, reduceIte, Int.reduceEq]
    go_enter Try.func24, Try.ntmps24
    go_wp2_with fail
    refine (H1 _).mono ?_; rintro e w1 ⟨rfl, hok⟩
    have hok2 := hok ((Ok.refl hn).alloc _ |>.alloc _ |>.alloc _).num
    obtain ⟨f1, f2⟩ := fresh_at hok2.stp (Nat.le_of_lt hlt.2)
    obtain ⟨c0, c1, c2, c3, c4, z0, z1, z2, z3, z4⟩ := f1.cells
    obtain ⟨c0', c1', c2', c3', c4', z0', z1', z2', z3', z4'⟩ := f2.cells
    have HOK : Hid (Ok n b w w1) := ((Ok.refl hn).alloc _ |>.alloc _ |>.alloc _).trans hok2
    clear f1 f2 hok2 hok
    go_wp2
    refine bodyPost_ret (v := ansV (0, 0, 0, [])) (by simp [results, go_sem, c0, c1, c2, c3, c4, ansV]) rfl ?_
    rw [← HV.out]
    refine ⟨rfl, ?_⟩
    repeat (first | refine Ok.set ?_ hlt (Nat.le_add_right _ _) _ | refine Ok.set ?_ hlt (Nat.le_trans (Nat.le_add_right _ _) (Nat.le_add_right _ _)) _)
    exact HOK.out
  by_cases k9 : K = 9
  · subst k9
    have H1 : Calls Try.prog 21 #[.pointer (some ⟨n, 0, none⟩)] (((w.alloc (.cells #[.int .i64 9, .int .i64 A, .int .i64 B, .int .i64 C, .string ⟨S.toArray⟩, .string ⟨T.toArray⟩] 29)).alloc zAns).alloc zAns) fun e w' => e = .returned (.bool true) ∧ (NumW n b (((w.alloc (.cells #[.int .i64 9, .int .i64 A, .int .i64 B, .int .i64 C, .string ⟨S.toArray⟩, .string ⟨T.toArray⟩] 29)).alloc zAns).alloc zAns) → Ok n b (((w.alloc (.cells #[.int .i64 9, .int .i64 A, .int .i64 B, .int .i64 C, .string ⟨S.toArray⟩, .string ⟨T.toArray⟩] 29)).alloc zAns).alloc zAns) w') := (check_R n b _ ((Ok.refl hn).alloc _ |>.alloc _ |>.alloc _).num).mono fun e w' h => ⟨h.1, fun hn => Ok.of_eq hn h.2⟩
    have HV : Hid (doP 9 A B C S = (0, 1, 0, [])) := by show _ = _; simp only [doP, reduceIte, Int.reduceEq]
    have H2 := fun w => bit_any true w
    rw [show bitI true = 1 from rfl] at H2
    go_enter Try.func24, Try.ntmps24
    go_wp2_with fail
    refine H1.mono ?_; rintro e w1 ⟨rfl, hok⟩
    have hok2 := hok ((Ok.refl hn).alloc _ |>.alloc _ |>.alloc _).num
    obtain ⟨f1, f2⟩ := fresh_at hok2.stp (Nat.le_of_lt hlt.2)
    obtain ⟨c0, c1, c2, c3, c4, z0, z1, z2, z3, z4⟩ := f1.cells
    obtain ⟨c0', c1', c2', c3', c4', z0', z1', z2', z3', z4'⟩ := f2.cells
    have HOK : Hid (Ok n b w w1) := ((Ok.refl hn).alloc _ |>.alloc _ |>.alloc _).trans hok2
    clear f1 f2 hok2 hok
    go_wp2_with fail
    refine (H2 _).mono ?_; rintro e w2 ⟨rfl, rfl⟩
    go_wp2
    refine bodyPost_ret (v := ansV (0, 1, 0, [])) (by simp [results, go_sem, c0, c1, c2, c3, c4, ansV]) rfl ?_
    rw [← HV.out]
    refine ⟨rfl, ?_⟩
    repeat (first | refine Ok.set ?_ hlt (Nat.le_add_right _ _) _ | refine Ok.set ?_ hlt (Nat.le_trans (Nat.le_add_right _ _) (Nat.le_add_right _ _)) _)
    exact HOK.out
  have HV : Hid (doP K A B C S = (0, 0, 0, [])) := by show _ = _; simp only [doP, if_neg k1, if_neg k2, if_neg k3, if_neg k4, if_neg k5, if_neg k6, if_neg k7, if_neg k8, if_neg k9]
  have e1 : (K == 1) = false := by simpa using k1
  have e2 : (K == 2) = false := by simpa using k2
  have e3 : (K == 3) = false := by simpa using k3
  have e4 : (K == 4) = false := by simpa using k4
  have e5 : (K == 5) = false := by simpa using k5
  have e6 : (K == 6) = false := by simpa using k6
  have e7 : (K == 7) = false := by simpa using k7
  have e8 : (K == 8) = false := by simpa using k8
  have e9 : (K == 9) = false := by simpa using k9
  clear k1 k2 k3 k4 k5 k6 k7 k8 k9 hB hC lB lC
  go_enter Try.func24, Try.ntmps24
  go_wp2
  refine bodyPost_ret (v := ansV (0, 0, 0, [])) (by simp [results, go_sem, ansV]) rfl ?_
  rw [← HV.out]
  refine ⟨rfl, ?_⟩
  repeat (first | refine Ok.alloc ?_ _ | refine Ok.set ?_ hlt (Nat.le_add_right _ _) _)
  exact Ok.refl hn

def DoEndM (v : Int × Int × Int × List UInt8) (w : World) (e : Ending) (w' : World) : Prop := e = .returned (ansV v) ∧ Below w.heap.size w w'
theorem below_eq {w w' : World} (h : w' = w) : Below w.heap.size w w' := by subst h; exact Below.refl _ _

set_option maxRecDepth 8000 in
set_option maxHeartbeats 3200000 in
theorem do_M (p : Value) (K A B C : Int) (S T : List UInt8) (w : World) (hA : I64 A) (hS : S.length ≤ 9223372036854775807) :
    Calls Try.prog 25 #[p, opVal K A B C S T] w (DoEndM (doP K A B C S) w) := by
  unfold opVal
  have hB := wordOf_eq B
  have hC := wordOf_eq C
  have lB := wordOf_lt B
  have lC := wordOf_lt C
  by_cases k1 : K = 1
  · subst k1
    have H1 : ∀ w, Calls Try.prog 44 #[p, .int .i64 A, .int .u64 (wordOf B : Int), .int .u64 (wordOf C : Int)] w fun e w' => e = .returned (.int .u64 (arithW A (wordOf B) (wordOf C) : Nat)) ∧ (Below w.heap.size w w') := fun w => (arith_M _ A (wordOf B) (wordOf C) w lB lC).mono fun e w' h => ⟨h.1, below_eq h.2⟩
    obtain ⟨R, hR⟩ : ∃ R, R = wr (arithW A (wordOf B) (wordOf C)) := ⟨_, rfl⟩
    have HV : Hid (doP 1 A B C S = (0, R, 0, [])) := by rw [hR]; exact if_pos rfl
    have hR2 : IntKind.i64.wrap (arithW A (wordOf B) (wordOf C) : Int) = R := hR.symm
    clear hR
    generalize arithW A (wordOf B) (wordOf C) = X at *
    generalize wordOf B = B' at *
    generalize wordOf C = C' at *
    go_enter Try.func25, Try.ntmps25
    go_wp2_with fail
    refine (H1 _).mono ?_; rintro e w1 ⟨rfl, hok⟩
    have hok2 : Stp w.heap.size _ _ := Stp.of_below hok
    obtain ⟨f1, f2⟩ := fresh_at hok2 (Nat.le_refl _)
    obtain ⟨c0, c1, c2, c3, c4, z0, z1, z2, z3, z4⟩ := f1.cells
    obtain ⟨c0', c1', c2', c3', c4', z0', z1', z2', z3', z4'⟩ := f2.cells
    have HOK : Hid (Stp w.heap.size w w1) := ((Stp.refl w.heap.size w).alloc _ |>.alloc _ |>.alloc _).trans hok2
    clear f1 f2 hok2 hok
    go_wp2
    refine bodyPost_ret (v := ansV (0, R, 0, [])) (by simp [results, go_sem, c0, c1, c2, c3, c4, ansV]) rfl ?_
    rw [← HV.out]
    refine ⟨rfl, ?_⟩
    refine Stp.below ?_ (Nat.le_refl _) (Nat.le_refl _)
    repeat (first | refine Stp.setCell ?_ (.inr (Nat.le_add_right _ _)) _ | refine Stp.setCell ?_ (.inr (Nat.le_trans (Nat.le_add_right _ _) (Nat.le_add_right _ _))) _)
    exact HOK.out
  by_cases k2 : K = 2
  · subst k2
    have H1 : ∀ w, Calls Try.prog 45 #[p, .int .u64 (wordOf B : Int)] w fun e w' => e = .returned (.int .u64 (negW (wordOf B) : Nat)) ∧ (Below w.heap.size w w') := fun w => (neg_M _ (wordOf B) w lB).mono fun e w' h => ⟨h.1, below_eq h.2⟩
    obtain ⟨R, hR⟩ : ∃ R, R = wr (negW (wordOf B)) := ⟨_, rfl⟩
    have HV : Hid (doP 2 A B C S = (0, R, 0, [])) := by show _ = _; rw [hR]; simp only [doP, reduceIte, Int.reduceEq]
    have hR2 : IntKind.i64.wrap ((negW (wordOf B) : Nat) : Int) = R := hR.symm
    clear hR
    generalize negW (wordOf B) = X at *
    generalize wordOf B = B' at *
    generalize wordOf C = C' at *
    go_enter Try.func25, Try.ntmps25
    go_wp2_with fail
    refine (H1 _).mono ?_; rintro e w1 ⟨rfl, hok⟩
    have hok2 : Stp w.heap.size _ _ := Stp.of_below hok
    obtain ⟨f1, f2⟩ := fresh_at hok2 (Nat.le_refl _)
    obtain ⟨c0, c1, c2, c3, c4, z0, z1, z2, z3, z4⟩ := f1.cells
    obtain ⟨c0', c1', c2', c3', c4', z0', z1', z2', z3', z4'⟩ := f2.cells
    have HOK : Hid (Stp w.heap.size w w1) := ((Stp.refl w.heap.size w).alloc _ |>.alloc _ |>.alloc _).trans hok2
    clear f1 f2 hok2 hok
    go_wp2
    refine bodyPost_ret (v := ansV (0, R, 0, [])) (by simp [results, go_sem, c0, c1, c2, c3, c4, ansV]) rfl ?_
    rw [← HV.out]
    refine ⟨rfl, ?_⟩
    refine Stp.below ?_ (Nat.le_refl _) (Nat.le_refl _)
    repeat (first | refine Stp.setCell ?_ (.inr (Nat.le_add_right _ _)) _ | refine Stp.setCell ?_ (.inr (Nat.le_trans (Nat.le_add_right _ _) (Nat.le_add_right _ _))) _)
    exact HOK.out
  by_cases k3 : K = 3
  · subst k3
    have H1 : ∀ w, Calls Try.prog 46 #[p, .int .i64 A, .int .u64 (wordOf B : Int), .int .u64 (wordOf C : Int)] w fun e w' => e = .returned (.bool (cmpW A (double.order (wordOf B) (wordOf C)))) ∧ (Below w.heap.size w w') := fun w => (cmp_M _ A (wordOf B) (wordOf C) w lB lC).mono fun e w' h => ⟨h.1, below_eq h.2⟩
    have HV : Hid (doP 3 A B C S = (0, bitI (cmpW A (double.order (wordOf B) (wordOf C))), 0, [])) := by show _ = _; simp only [doP, reduceIte, Int.reduceEq]
    have H2 := fun w => bit_any (cmpW A (double.order (wordOf B) (wordOf C))) w
    generalize cmpW A (double.order (wordOf B) (wordOf C)) = X at *
    generalize bitI X = R at *
    generalize wordOf B = B' at *
    generalize wordOf C = C' at *
    go_enter Try.func25, Try.ntmps25
    go_wp2_with fail
    refine (H1 _).mono ?_; rintro e w1 ⟨rfl, hok⟩
    have hok2 : Stp w.heap.size _ _ := Stp.of_below hok
    obtain ⟨f1, f2⟩ := fresh_at hok2 (Nat.le_refl _)
    obtain ⟨c0, c1, c2, c3, c4, z0, z1, z2, z3, z4⟩ := f1.cells
    obtain ⟨c0', c1', c2', c3', c4', z0', z1', z2', z3', z4'⟩ := f2.cells
    have HOK : Hid (Stp w.heap.size w w1) := ((Stp.refl w.heap.size w).alloc _ |>.alloc _ |>.alloc _).trans hok2
    clear f1 f2 hok2 hok
    go_wp2_with fail
    refine (H2 _).mono ?_; rintro e w2 ⟨rfl, rfl⟩
    go_wp2
    refine bodyPost_ret (v := ansV (0, R, 0, [])) (by simp [results, go_sem, c0, c1, c2, c3, c4, ansV]) rfl ?_
    rw [← HV.out]
    refine ⟨rfl, ?_⟩
    refine Stp.below ?_ (Nat.le_refl _) (Nat.le_refl _)
    repeat (first | refine Stp.setCell ?_ (.inr (Nat.le_add_right _ _)) _ | refine Stp.setCell ?_ (.inr (Nat.le_trans (Nat.le_add_right _ _) (Nat.le_add_right _ _))) _)
    exact HOK.out
  by_cases k4 : K = 4
  · subst k4
    have H1 : ∀ w, Calls Try.prog 47 #[p, .int .i64 A] w fun e w' => e = .returned (.int .u64 (double.nearest (decide (A < 0)) A.natAbs 0 : Nat)) ∧ (Below w.heap.size w w') := fun w => (fromInt_M _ A w hA.1 (by have := hA.2; omega)).mono fun e w' h => ⟨h.1, below_eq h.2⟩
    obtain ⟨R, hR⟩ : ∃ R, R = wr (double.nearest (decide (A < 0)) A.natAbs 0) := ⟨_, rfl⟩
    have HV : Hid (doP 4 A B C S = (0, R, 0, [])) := by show _ = _; rw [hR]; simp only [doP, reduceIte, Int.reduceEq]
    have hR2 : IntKind.i64.wrap ((double.nearest (decide (A < 0)) A.natAbs 0 : Nat) : Int) = R := hR.symm
    clear hR
    generalize double.nearest (decide (A < 0)) A.natAbs 0 = X at *
    generalize wordOf B = B' at *
    generalize wordOf C = C' at *
    go_enter Try.func25, Try.ntmps25
    go_wp2_with fail
    refine (H1 _).mono ?_; rintro e w1 ⟨rfl, hok⟩
    have hok2 : Stp w.heap.size _ _ := Stp.of_below hok
    obtain ⟨f1, f2⟩ := fresh_at hok2 (Nat.le_refl _)
    obtain ⟨c0, c1, c2, c3, c4, z0, z1, z2, z3, z4⟩ := f1.cells
    obtain ⟨c0', c1', c2', c3', c4', z0', z1', z2', z3', z4'⟩ := f2.cells
    have HOK : Hid (Stp w.heap.size w w1) := ((Stp.refl w.heap.size w).alloc _ |>.alloc _ |>.alloc _).trans hok2
    clear f1 f2 hok2 hok
    go_wp2
    refine bodyPost_ret (v := ansV (0, R, 0, [])) (by simp [results, go_sem, c0, c1, c2, c3, c4, ansV]) rfl ?_
    rw [← HV.out]
    refine ⟨rfl, ?_⟩
    refine Stp.below ?_ (Nat.le_refl _) (Nat.le_refl _)
    repeat (first | refine Stp.setCell ?_ (.inr (Nat.le_add_right _ _)) _ | refine Stp.setCell ?_ (.inr (Nat.le_trans (Nat.le_add_right _ _) (Nat.le_add_right _ _))) _)
    exact HOK.out
  by_cases k5 : K = 5
  · subst k5
    have H1 : ∀ w, Calls Try.prog 48 #[p, .int .u64 (wordOf B : Int)] w fun e w' => e = .returned (.tuple #[.int .i64 (toIntV (wordOf B)), .bool (toIntB (wordOf B))]) ∧ (Below w.heap.size w w') := fun w => (toInt_M _ (wordOf B) w lB).mono fun e w' h => ⟨h.1, below_eq h.2⟩
    have HV : Hid (doP 5 A B C S = (0, toIntV (wordOf B), bitI (toIntB (wordOf B)), [])) := by show _ = _; simp only [doP, reduceIte, Int.reduceEq]
    have H2 := fun w => bit_any (toIntB (wordOf B)) w
    generalize toIntV (wordOf B) = X at *
    generalize toIntB (wordOf B) = Y at *
    generalize bitI Y = R at *
    generalize wordOf B = B' at *
    generalize wordOf C = C' at *
    go_enter Try.func25, Try.ntmps25
    go_wp2_with fail
    refine (H1 _).mono ?_; rintro e w1 ⟨rfl, hok⟩
    have hok2 : Stp w.heap.size _ _ := Stp.of_below hok
    obtain ⟨f1, f2⟩ := fresh_at hok2 (Nat.le_refl _)
    obtain ⟨c0, c1, c2, c3, c4, z0, z1, z2, z3, z4⟩ := f1.cells
    obtain ⟨c0', c1', c2', c3', c4', z0', z1', z2', z3', z4'⟩ := f2.cells
    have HOK : Hid (Stp w.heap.size w w1) := ((Stp.refl w.heap.size w).alloc _ |>.alloc _ |>.alloc _).trans hok2
    clear f1 f2 hok2 hok
    go_wp2_with fail
    refine (H2 _).mono ?_; rintro e w2 ⟨rfl, rfl⟩
    go_wp2
    refine bodyPost_ret (v := ansV (0, X, R, [])) (by simp [results, go_sem, c0, c1, c2, c3, c4, ansV]) rfl ?_
    rw [← HV.out]
    refine ⟨rfl, ?_⟩
    refine Stp.below ?_ (Nat.le_refl _) (Nat.le_refl _)
    repeat (first | refine Stp.setCell ?_ (.inr (Nat.le_add_right _ _)) _ | refine Stp.setCell ?_ (.inr (Nat.le_trans (Nat.le_add_right _ _) (Nat.le_add_right _ _))) _)
    exact HOK.out
  by_cases k6 : K = 6
  · subst k6
    have H1 : ∀ w, Calls Try.prog 49 #[p, .int .u64 (wordOf B : Int)] w fun e w' => e = .returned (.string ⟨(fmtP (wordOf B)).toArray⟩) ∧ Below w.heap.size w w' := fun w => format_M p (wordOf B) w lB
    have HV : Hid (doP 6 A B C S = (0, 0, 0, fmtP (wordOf B))) := by show _ = _; simp only [doP, reduceIte, Int.reduceEq]
    generalize fmtP (wordOf B) = X at *
    generalize wordOf B = B' at *
    generalize wordOf C = C' at *
    go_enter Try.func25, Try.ntmps25
    go_wp2_with fail
    refine (H1 _).mono ?_; rintro e w1 ⟨rfl, hok⟩
    have hok2 : Stp w.heap.size _ _ := Stp.of_below hok
    obtain ⟨f1, f2⟩ := fresh_at hok2 (Nat.le_refl _)
    obtain ⟨c0, c1, c2, c3, c4, z0, z1, z2, z3, z4⟩ := f1.cells
    obtain ⟨c0', c1', c2', c3', c4', z0', z1', z2', z3', z4'⟩ := f2.cells
    have HOK : Hid (Stp w.heap.size w w1) := ((Stp.refl w.heap.size w).alloc _ |>.alloc _ |>.alloc _).trans hok2
    clear f1 f2 hok2 hok
    go_wp2
    refine bodyPost_ret (v := ansV (0, 0, 0, X)) (by simp [results, go_sem, c0, c1, c2, c3, c4, ansV]) rfl ?_
    rw [← HV.out]
    refine ⟨rfl, ?_⟩
    refine Stp.below ?_ (Nat.le_refl _) (Nat.le_refl _)
    repeat (first | refine Stp.setCell ?_ (.inr (Nat.le_add_right _ _)) _ | refine Stp.setCell ?_ (.inr (Nat.le_trans (Nat.le_add_right _ _) (Nat.le_add_right _ _))) _)
    exact HOK.out
  by_cases k7 : K = 7
  · subst k7
    have H1 : ∀ w, Calls Try.prog 50 #[p, .string ⟨S.toArray⟩] w fun e w' => e = .returned (.tuple #[.int .u64 ((parseP S).1 : Int), .int .i64 (parseP S).2]) ∧ (Below w.heap.size w w') := fun w => (parse_M _ S w hS).mono fun e w' h => ⟨h.1, below_eq h.2⟩
    obtain ⟨R, hR⟩ : ∃ R, R = wr (parseP S).1 := ⟨_, rfl⟩
    have HV : Hid (doP 7 A B C S = ((parseP S).2, R, 0, [])) := by show _ = _; rw [hR]; simp only [doP, reduceIte, Int.reduceEq]
    have hR2 : IntKind.i64.wrap ((parseP S).1 : Int) = R := hR.symm
    clear hR
    generalize (parseP S).1 = X at *
    generalize (parseP S).2 = Y at *
    generalize wordOf B = B' at *
    generalize wordOf C = C' at *
    go_enter Try.func25, Try.ntmps25
    go_wp2_with fail
    refine (H1 _).mono ?_; rintro e w1 ⟨rfl, hok⟩
    have hok2 : Stp w.heap.size _ _ := Stp.of_below hok
    obtain ⟨f1, f2⟩ := fresh_at hok2 (Nat.le_refl _)
    obtain ⟨c0, c1, c2, c3, c4, z0, z1, z2, z3, z4⟩ := f1.cells
    obtain ⟨c0', c1', c2', c3', c4', z0', z1', z2', z3', z4'⟩ := f2.cells
    have HOK : Hid (Stp w.heap.size w w1) := ((Stp.refl w.heap.size w).alloc _ |>.alloc _ |>.alloc _).trans hok2
    clear f1 f2 hok2 hok
    go_wp2
    refine bodyPost_ret (v := ansV (Y, R, 0, [])) (by simp [results, go_sem, c0, c1, c2, c3, c4, ansV]) rfl ?_
    rw [← HV.out]
    refine ⟨rfl, ?_⟩
    refine Stp.below ?_ (Nat.le_refl _) (Nat.le_refl _)
    repeat (first | refine Stp.setCell ?_ (.inr (Nat.le_add_right _ _)) _ | refine Stp.setCell ?_ (.inr (Nat.le_trans (Nat.le_add_right _ _) (Nat.le_add_right _ _))) _)
    exact HOK.out
  by_cases k8 : K = 8
  · subst k8
    have H1 : ∀ w, Calls Try.prog 39 #[p] w fun e w' => e = .returned (.string ⟨#[]⟩) ∧ (Below w.heap.size w w') := fun w => (show_M _ w).mono fun e w' h => ⟨h.1, below_eq h.2⟩
    have HV : Hid (doP 8 A B C S = (0, 0, 0, [])) := by show _ = _; simp only [doP, reduceIte, Int.reduceEq]
    go_enter Try.func25, Try.ntmps25
    go_wp2_with fail
    refine (H1 _).mono ?_; rintro e w1 ⟨rfl, hok⟩
    have hok2 : Stp w.heap.size _ _ := Stp.of_below hok
    obtain ⟨f1, f2⟩ := fresh_at hok2 (Nat.le_refl _)
    obtain ⟨c0, c1, c2, c3, c4, z0, z1, z2, z3, z4⟩ := f1.cells
    obtain ⟨c0', c1', c2', c3', c4', z0', z1', z2', z3', z4'⟩ := f2.cells
    have HOK : Hid (Stp w.heap.size w w1) := ((Stp.refl w.heap.size w).alloc _ |>.alloc _ |>.alloc _).trans hok2
    clear f1 f2 hok2 hok
    go_wp2
    refine bodyPost_ret (v := ansV (0, 0, 0, [])) (by simp [results, go_sem, c0, c1, c2, c3, c4, ansV]) rfl ?_
    rw [← HV.out]
    refine ⟨rfl, ?_⟩
    refine Stp.below ?_ (Nat.le_refl _) (Nat.le_refl _)
    repeat (first | refine Stp.setCell ?_ (.inr (Nat.le_add_right _ _)) _ | refine Stp.setCell ?_ (.inr (Nat.le_trans (Nat.le_add_right _ _) (Nat.le_add_right _ _))) _)
    exact HOK.out
  by_cases k9 : K = 9
  · subst k9
    have H1 : ∀ w, Calls Try.prog 40 #[p] w fun e w' => e = .returned (.bool true) ∧ Below w.heap.size w w' := fun w => (check_M p w).mono fun e w' h => ⟨h.1, below_eq h.2⟩
    have HV : Hid (doP 9 A B C S = (0, 1, 0, [])) := by show _ = _; simp only [doP, reduceIte, Int.reduceEq]
    have H2 := fun w => bit_any true w
    rw [show bitI true = 1 from rfl] at H2
    go_enter Try.func25, Try.ntmps25
    go_wp2_with fail
    refine (H1 _).mono ?_; rintro e w1 ⟨rfl, hok⟩
    have hok2 : Stp w.heap.size _ _ := Stp.of_below hok
    obtain ⟨f1, f2⟩ := fresh_at hok2 (Nat.le_refl _)
    obtain ⟨c0, c1, c2, c3, c4, z0, z1, z2, z3, z4⟩ := f1.cells
    obtain ⟨c0', c1', c2', c3', c4', z0', z1', z2', z3', z4'⟩ := f2.cells
    have HOK : Hid (Stp w.heap.size w w1) := ((Stp.refl w.heap.size w).alloc _ |>.alloc _ |>.alloc _).trans hok2
    clear f1 f2 hok2 hok
    go_wp2_with fail
    refine (H2 _).mono ?_; rintro e w2 ⟨rfl, rfl⟩
    go_wp2
    refine bodyPost_ret (v := ansV (0, 1, 0, [])) (by simp [results, go_sem, c0, c1, c2, c3, c4, ansV]) rfl ?_
    rw [← HV.out]
    refine ⟨rfl, ?_⟩
    refine Stp.below ?_ (Nat.le_refl _) (Nat.le_refl _)
    repeat (first | refine Stp.setCell ?_ (.inr (Nat.le_add_right _ _)) _ | refine Stp.setCell ?_ (.inr (Nat.le_trans (Nat.le_add_right _ _) (Nat.le_add_right _ _))) _)
    exact HOK.out
  have HV : Hid (doP K A B C S = (0, 0, 0, [])) := by show _ = _; simp only [doP, if_neg k1, if_neg k2, if_neg k3, if_neg k4, if_neg k5, if_neg k6, if_neg k7, if_neg k8, if_neg k9]
  have e1 : (K == 1) = false := by simpa using k1
  have e2 : (K == 2) = false := by simpa using k2
  have e3 : (K == 3) = false := by simpa using k3
  have e4 : (K == 4) = false := by simpa using k4
  have e5 : (K == 5) = false := by simpa using k5
  have e6 : (K == 6) = false := by simpa using k6
  have e7 : (K == 7) = false := by simpa using k7
  have e8 : (K == 8) = false := by simpa using k8
  have e9 : (K == 9) = false := by simpa using k9
  clear k1 k2 k3 k4 k5 k6 k7 k8 k9 hB hC lB lC
  go_enter Try.func25, Try.ntmps25
  go_wp2
  refine bodyPost_ret (v := ansV (0, 0, 0, [])) (by simp [results, go_sem, ansV]) rfl ?_
  rw [← HV.out]
  refine ⟨rfl, ?_⟩
  refine Stp.below (b := w.heap.size) ?_ (Nat.le_refl _) (Nat.le_refl _)
  repeat (first | refine Stp.alloc ?_ _ | refine Stp.setCell ?_ (.inr (Nat.le_add_right _ _)) _)
  exact Stp.refl _ _
end Go.Proofs.Qxb6500290a
