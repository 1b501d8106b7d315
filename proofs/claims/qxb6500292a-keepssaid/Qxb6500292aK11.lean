/-
  Turn walked.
-/
import Derived.Test.Qxb6500292aK10
namespace Go.Proofs.Qxb6500292a
open Go.RowKit
open Ieee (double)
set_option linter.unusedVariables false
set_option linter.unusedSimpArgs false

abbrev tuW (w : World) (K A B C : Int) (S T : List UInt8) (k v : V) : World := ((w.alloc (.cells #[.int .i64 K, .int .i64 A, .int .i64 B, .int .i64 C, .string ⟨S.toArray⟩, .string ⟨T.toArray⟩] 47)).alloc (.cells #[.int .i64 k.T, .int .u64 k.N, .string ⟨k.S.toArray⟩] 42)).alloc (.cells #[.int .i64 v.T, .int .u64 v.N, .string ⟨v.S.toArray⟩] 42)
theorem tuW_below (w : World) (K A B C : Int) (S T : List UInt8) (k v : V) : Below w.heap.size w (tuW w K A B C S T k v) := below_two (below_two (below_one _ _) (below_one _ _)) (below_one _ _)
theorem os_set (w : World) (p : Addr) (v : Value) : (w.setCell p v).os = w.os := rfl
theorem tape_set (w : World) (p : Addr) (v : Value) : (w.setCell p v).tape = w.tape := rfl
theorem output_set (w : World) (p : Addr) (v : Value) : (w.setCell p v).output = w.output := rfl
theorem size_set (w : World) (p : Addr) (v : Value) : (w.setCell p v).heap.size = w.heap.size := by simp
theorem arr14 (l : List Value) (h : l.length = 14) : ∃ x0 x1 x2 x3 x4 x5 x6 x7 x8 x9 x10 x11 x12 x13, l = [x0, x1, x2, x3, x4, x5, x6, x7, x8, x9, x10, x11, x12, x13] := by
  match l, h with
  | [x0, x1, x2, x3, x4, x5, x6, x7, x8, x9, x10, x11, x12, x13], _ => exact ⟨_, _, _, _, _, _, _, _, _, _, _, _, _, _, rfl⟩
abbrev resW (w1 : World) (g : Nat) : World := ((((((((((((((w1.setCell ⟨g, 0, none⟩ (.int .i64 0)).setCell ⟨g, 1, none⟩ (.int .i64 0)).setCell ⟨g, 2, none⟩ (.int .i64 0)).setCell ⟨g, 3, none⟩ (.int .i64 0)).setCell ⟨g, 4, none⟩ (.int .i64 0)).setCell ⟨g, 5, none⟩ (.int .i64 0)).setCell ⟨g, 6, none⟩ (.int .i64 0)).setCell ⟨g, 7, none⟩ (.int .i64 0)).setCell ⟨g, 8, none⟩ (.int .i64 0)).setCell ⟨g, 9, none⟩ (.int .i64 0)).setCell ⟨g, 10, none⟩ (.int .i64 0)).setCell ⟨g, 11, none⟩ (.int .i64 0)).setCell ⟨g, 12, none⟩ (.int .i64 0)).setCell ⟨g, 13, none⟩ (.slice none 0 0))
theorem resW_other (w1 : World) (g k : Nat) (hk : k ≠ g) : (resW w1 g).heap[k]? = w1.heap[k]? := by
  unfold resW
  repeat rw [Below.heap_setCell _ _ _ _ hk]
theorem resW_at (w1 : World) (g : Nat) (cs : Array Value) (ty : TypeId) (h : w1.heap[g]? = some (.cells cs ty)) : (resW w1 g).heap[g]? = some (.cells ((((((((((((((cs.setIfInBounds 0 (.int .i64 0)).setIfInBounds 1 (.int .i64 0)).setIfInBounds 2 (.int .i64 0)).setIfInBounds 3 (.int .i64 0)).setIfInBounds 4 (.int .i64 0)).setIfInBounds 5 (.int .i64 0)).setIfInBounds 6 (.int .i64 0)).setIfInBounds 7 (.int .i64 0)).setIfInBounds 8 (.int .i64 0)).setIfInBounds 9 (.int .i64 0)).setIfInBounds 10 (.int .i64 0)).setIfInBounds 11 (.int .i64 0)).setIfInBounds 12 (.int .i64 0)).setIfInBounds 13 (.slice none 0 0)) ty) := by
  unfold resW
  iterate 14 refine heap_setCell_same ?_ _
  exact h
theorem gh_reset {own : Nat → Nat} {w w1 : World} {g : Nat} {st : List Tbl} {gs : Gs} (H : GhAt own w g st gs) (hb : Below w.heap.size w w1) : GEnd own w g [] [] (resW w1 g) := by
  obtain ⟨vs, h1, h2, h3⟩ := (H.below hb).tabs
  have h4 := resW_at w1 g _ _ h1
  have hoth := resW_other w1 g
  obtain ⟨x0, x1, x2, x3, x4, x5, x6, x7, x8, x9, x10, x11, x12, x13, hl⟩ := arr14 (ghC st vs) (by rw [ghC_mk]; simp [cC_len])
  rw [hl] at h4
  simp only [List.setIfInBounds_toArray, List.set_cons_zero, List.set_cons_succ] at h4
  have hos : (resW w1 g).os = w1.os := by unfold resW; simp only [os_set]
  have htp : (resW w1 g).tape = w1.tape := by unfold resW; simp only [tape_set]
  have hou : (resW w1 g).output = w1.output := by unfold resW; simp only [output_set]
  have hsz : (resW w1 g).heap.size = w1.heap.size := by unfold resW; simp only [size_set]
  generalize resW w1 g = wf at *
  exact gh_struct (vs' := .slice none 0 0) H hb (fun k _ hk => hoth k hk) hos htp hou (by omega) h4 (World.ownsRow_nil _ _ _ _) (fun b hb => by cases hb) rel_nil (by simp)
set_option maxRecDepth 8000 in
set_option maxHeartbeats 3200000 in
theorem turn_reset (own : Nat → Nat) (g : Nat) (st : List Tbl) (gs : Gs) (A B C : Int) (S T : List UInt8) (k v : V) (a : Int) (w : World) (H : GhAt own w g st gs) :
    Calls Try.prog 22 #[.pointer (some ⟨g, 0, none⟩), opV 4 A B C S T, valV k, valV v, .int .i64 a] w fun e w' => e = .returned (.tuple #[]) ∧ GEnd own w g [] [] w' := by
  obtain ⟨vs, h1, h2, h3⟩ := H.tabs
  have lg := H.lt
  have hne : ¬ g = w.heap.size := by omega
  have hne1 : ¬ g = w.heap.size + 1 := by omega
  have hne2 : ¬ g = w.heap.size + 1 + 1 := by omega
  have hB := tuW_below w 4 A B C S T k v
  have HE : Hid (GEnd own w g [] [] (resW (tuW w 4 A B C S T k v) g)) := gh_reset H hB
  have hg3 : (tuW w 4 A B C S T k v).heap[g]? = some (.cells (ghC st vs).toArray 38) := (hB.block _ lg).trans h1
  have cc : ∀ j, j < 14 → ∃ u, (tuW w 4 A B C S T k v).cell? ⟨g, j, none⟩ = some u := by
    intro j hj
    have hl : (ghC st vs).length = 14 := by rw [ghC_mk]; simp [cC_len]
    exact ⟨(ghC st vs)[j]'(by omega), by simp [World.cell?, hg3]⟩
  have fz : ∀ j, (tuW w 4 A B C S T k v).frozen? ⟨g, j, none⟩ = false := by intro j; simp [World.frozen?, hg3]
  obtain ⟨u0, e0⟩ := cc 0 (by omega)
  obtain ⟨u1, e1⟩ := cc 1 (by omega)
  obtain ⟨u2, e2⟩ := cc 2 (by omega)
  obtain ⟨u3, e3⟩ := cc 3 (by omega)
  obtain ⟨u4, e4⟩ := cc 4 (by omega)
  obtain ⟨u5, e5⟩ := cc 5 (by omega)
  obtain ⟨u6, e6⟩ := cc 6 (by omega)
  obtain ⟨u7, e7⟩ := cc 7 (by omega)
  obtain ⟨u8, e8⟩ := cc 8 (by omega)
  obtain ⟨u9, e9⟩ := cc 9 (by omega)
  obtain ⟨u10, e10⟩ := cc 10 (by omega)
  obtain ⟨u11, e11⟩ := cc 11 (by omega)
  obtain ⟨u12, e12⟩ := cc 12 (by omega)
  obtain ⟨u13, e13⟩ := cc 13 (by omega)
  obtain ⟨kT, kN, kS⟩ := k
  obtain ⟨vT, vN, vS⟩ := v
  rw [opV_mk, valV_mk, valV_mk]
  simp only [tuW] at *
  clear cc H h2 h3 hg3 hB h1
  go_enter Try.func22, Try.ntmps22
  go_wp2_with fail
  go_end0
  exact ⟨rfl, HE.out⟩
set_option maxRecDepth 8000 in
set_option maxHeartbeats 3200000 in
theorem turn_make (own : Nat → Nat) (g : Nat) (st : List Tbl) (gs : Gs) (A B C : Int) (S T : List UInt8) (k v : V) (a : Int) (w : World) (H : GhAt own w g st gs) (hf : st.length < 12) :
    Calls Try.prog 22 #[.pointer (some ⟨g, 0, none⟩), opV 3 A B C S T, valV k, valV v, .int .i64 a] w fun e w' => e = .returned (.tuple #[]) ∧ GEnd own w g (st ++ [[]]) gs w' := by
  obtain ⟨vs, h1, h2, h3⟩ := H.tabs
  have lg := H.lt
  have hne : ¬ g = w.heap.size := by omega
  have hne1 : ¬ g = w.heap.size + 1 := by omega
  have hne2 : ¬ g = w.heap.size + 1 + 1 := by omega
  have hB := tuW_below w 3 A B C S T k v
  have HE : Hid (GEnd own w g (st ++ [[]]) gs ((tuW w 3 A B C S T k v).setCell ⟨g, 0, none⟩ (.int .i64 ((st.length : Int) + 1)))) := gh_make H hB hf
  have hg3 : (tuW w 3 A B C S T k v).heap[g]? = some (.cells (ghC st vs).toArray 38) := (hB.block _ lg).trans h1
  have e0 : (tuW w 3 A B C S T k v).cell? ⟨g, 0, none⟩ = some (.int .i64 (st.length : Int)) := by simp [World.cell?, hg3, (ghC_at st vs).1]
  have fz : ∀ j, (tuW w 3 A B C S T k v).frozen? ⟨g, j, none⟩ = false := by intro j; simp [World.frozen?, hg3]
  obtain ⟨kT, kN, kS⟩ := k
  obtain ⟨vT, vN, vS⟩ := v
  rw [opV_mk, valV_mk, valV_mk]
  simp only [tuW] at *
  clear H h2 h3 hg3 hB h1
  generalize st.length = sl at *
  go_enter Try.func22, Try.ntmps22
  go_wp2_with fail
  go_end0
  exact ⟨rfl, HE.out⟩
set_option maxRecDepth 8000 in
set_option maxHeartbeats 3200000 in
theorem turn_same (own : Nat → Nat) (g : Nat) (st : List Tbl) (gs : Gs) (K A B C : Int) (S T : List UInt8) (k v : V) (at' : Option Nat) (w : World) (H : GhAt own w g st gs) (hK : (K ≠ 3 ∧ K ≠ 4 ∧ K ≠ 7) ∨ (K = 7 ∧ at' = none ∧ v.T = 0)) :
    Calls Try.prog 22 #[.pointer (some ⟨g, 0, none⟩), opV K A B C S T, valV k, valV v, .int .i64 (plc at')] w fun e w' => e = .returned (.tuple #[]) ∧ GEnd own w g st gs w' := by
  have HE : Hid (GEnd own w g st gs (tuW w K A B C S T k v)) := GEnd.same H (tuW_below w K A B C S T k v)
  obtain ⟨kT, kN, kS⟩ := k
  obtain ⟨vT, vN, vS⟩ := v
  rw [opV_mk, valV_mk, valV_mk]
  simp only at hK
  simp only [tuW] at *
  clear H
  rcases hK with hK | ⟨rfl, rfl, rfl⟩
  · have q3 : (K == 3) = false := by rw [beq_eq_false_iff_ne]; omega
    have q4 : (K == 4) = false := by rw [beq_eq_false_iff_ne]; omega
    have q7 : (K == 7) = false := by rw [beq_eq_false_iff_ne]; omega
    clear hK
    generalize plc at' = pa at *
    go_enter Try.func22, Try.ntmps22
    go_wp2_with fail
    go_end0
    exact ⟨rfl, HE.out⟩
  · simp only [plc]
    go_enter Try.func22, Try.ntmps22
    go_wp2_with fail
    go_end0
    exact ⟨rfl, HE.out⟩
set_option maxRecDepth 8000 in
set_option maxHeartbeats 3200000 in
theorem turn_found (own : Nat → Nat) (g : Nat) (st : List Tbl) (gs : Gs) (A B C : Int) (S T : List UInt8) (k v : V) (i h : Nat) (k0 u : V) (t : Tbl) (w : World) (H : GhAt own w g st gs) (ht : st[h]? = some t) (hs : gs[i]? = some (h, (k0, u))) :
    Calls Try.prog 22 #[.pointer (some ⟨g, 0, none⟩), opV 7 A B C S T, valV k, valV v, .int .i64 (i : Int)] w fun e w' => e = .returned (.tuple #[]) ∧ GEnd own w g (st.set h (setVal t (rank gs h i) v)) (gs.set i (h, (k0, v))) w' := by
  have lg := H.lt
  have hne : ¬ g = w.heap.size := by omega
  have hne1 : ¬ g = w.heap.size + 1 := by omega
  have hne2 : ¬ g = w.heap.size + 1 + 1 := by omega
  have hB := tuW_below w 7 A B C S T k v
  obtain ⟨ad, cp, hrow⟩ := H.row
  obtain ⟨b, rfl, hbl, hcp, _⟩ := hrow.ent i _ hs
  have hil : i < gs.length := (List.getElem?_eq_some_iff.1 hs).1
  have hr3 := hrow.below hB
  obtain ⟨hE, z4, z5, z6, hbw, hbg⟩ := gh_turned H hB ht hs hr3 v
  have HE : Hid (GEnd own w g _ _ _) := hE
  have hcs := hr3.cs
  obtain ⟨b', e1, _, _, f0, ⟨f1, f2, f3⟩, f4, f5, f6⟩ := hr3.ent i _ hs
  cases e1
  have nb0 : ¬ b = w.heap.size := by omega
  have nb1 : ¬ b = w.heap.size + 1 := by omega
  have nb2 : ¬ b = w.heap.size + 1 + 1 := by omega
  have d0 : decide ((0 : Int) ≤ (i : Int)) = true := decide_eq_true (by omega)
  have hpz : ¬ (i : Int) < 0 := by omega
  obtain ⟨kT, kN, kS⟩ := k
  obtain ⟨vT, vN, vS⟩ := v
  rw [opV_mk, valV_mk, valV_mk]
  simp only [tuW] at *
  generalize gs.length = gl at *
  clear H hrow hr3 hE hB hs ht
  go_enter Try.func22, Try.ntmps22
  go_wp2_with fail
  go_region
  all_goals go_wp2
  all_goals
    go_end0
    exact ⟨rfl, HE.out.drew⟩
end Go.Proofs.Qxb6500292a
