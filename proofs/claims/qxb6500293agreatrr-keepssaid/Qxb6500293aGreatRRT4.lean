import Derived.Test.Qxb6500293aGreatRRT3
import Derived.RegionTactic
import Derived.ChangeAlike
import Derived.Deep.RegionWith
import Derived.Deep.CutBlock
namespace Go.Proofs.Qxb6500293aGreatRR
open Go.RowKit
open Ieee (double)
set_option linter.unusedVariables false
set_option linter.unusedSimpArgs false

def i32V (p : Nat) : Value := .int .i32 (p : Int)
def entC (e : V × V) : List Value := [.int .i64 e.1.T, .int .u64 e.1.N, .string ⟨e.1.S.toArray⟩, .int .i64 e.2.T, .int .u64 e.2.N, .string ⟨e.2.S.toArray⟩]
def ordC (t : Tbl) : List Value := t.flatMap entC
def deadN (t : Tbl) : Nat := t.countP (fun e => isNilB e.2)
/-- One table as it lies in memory. -/
structure TabR where
  vo : Value
  va : Value
  bn : Nat
  bs : Nat
  br : Nat
  t : Tbl
  a : List Nat
  nn : Nat
  ns : Nat
  nr : Nat
def tabC (r : TabR) : List Value := [r.vo, r.va, .map (some r.bn), .map (some r.bs), .map (some r.br), .int .i64 (deadN r.t)]
structure RepAt (own : Nat → Nat) (w : World) (h : Nat) (r : TabR) : Prop where
  ord : w.ownsRow 0 108 6 r.vo r.t.length (ordC r.t)
  ordc : ∀ g, r.vo.ownBlock = some g → own g = 10 + 5 * h
  arr : w.ownsRow 0 21 1 r.va r.a.length (r.a.map i32V)
  arrc : ∀ g, r.va.ownBlock = some g → own g = 11 + 5 * h
  nums : MapAt 31 w r.bn r.nn (numsF r.t r.a.length)
  numsc : own r.bn = 12 + 5 * h
  strs : MapAt 9 w r.bs r.ns (strsF r.t)
  strsc : own r.bs = 13 + 5 * h
  refs : MapAt 31 w r.br r.nr (refsF r.t)
  refsc : own r.br = 14 + 5 * h
  sum : r.a.length + r.nn + r.ns + r.nr = r.t.length
  inv : Inv r.t r.a

theorem ownsRow_block {w w' : World} {e : TypeId} {sz n : Nat} {v : Value} {xs : List Value} (h : w.ownsRow 0 e sz v n xs) (hk : ∀ g, v.ownBlock = some g → w'.heap[g]? = w.heap[g]?) : w'.ownsRow 0 e sz v n xs := by
  refine ⟨h.1, ?_⟩
  rcases h.2 with hn | ⟨g, cap, cur, rfl, hb, hgg, rest⟩
  · exact .inl hn
  · exact .inr ⟨g, cap, cur, rfl, hb, (hk g rfl).trans hgg, rest⟩
theorem ownsRow_lt {w : World} {e : TypeId} {sz n : Nat} {v : Value} {xs : List Value} (h : w.ownsRow 0 e sz v n xs) : ∀ g, v.ownBlock = some g → g < w.heap.size := fun g hg => (h.lt g hg).2
/-- The table's own blocks are as they were. -/
theorem RepAt.kept {own own' : Nat → Nat} {w w' : World} {h : Nat} {r : TabR} (H : RepAt own w h r) (hk : ∀ k, k < w.heap.size → 10 + 5 * h ≤ own k → own k < 15 + 5 * h → w'.heap[k]? = w.heap[k]?) (ho : ∀ k, k < w.heap.size → own' k = own k) : RepAt own' w' h r where
  ord := ownsRow_block H.ord fun g hg => hk g (ownsRow_lt H.ord g hg) (by rw [H.ordc g hg]; omega) (by rw [H.ordc g hg]; omega)
  ordc := fun g hg => (ho g (ownsRow_lt H.ord g hg)).trans (H.ordc g hg)
  arr := ownsRow_block H.arr fun g hg => hk g (ownsRow_lt H.arr g hg) (by rw [H.arrc g hg]; omega) (by rw [H.arrc g hg]; omega)
  arrc := fun g hg => (ho g (ownsRow_lt H.arr g hg)).trans (H.arrc g hg)
  nums := H.nums.block (hk _ H.nums.lt (by rw [H.numsc]; omega) (by rw [H.numsc]; omega))
  numsc := (ho _ H.nums.lt).trans H.numsc
  strs := H.strs.block (hk _ H.strs.lt (by rw [H.strsc]; omega) (by rw [H.strsc]; omega))
  strsc := (ho _ H.strs.lt).trans H.strsc
  refs := H.refs.block (hk _ H.refs.lt (by rw [H.refsc]; omega) (by rw [H.refsc]; omega))
  refsc := (ho _ H.refs.lt).trans H.refsc
  sum := H.sum
  inv := H.inv
theorem RepAt.below {own : Nat → Nat} {w w' : World} {h : Nat} {r : TabR} (H : RepAt own w h r) (hb : Below w.heap.size w w') : RepAt own w' h r :=
  H.kept (fun k hk _ _ => hb.block k hk) (fun _ _ => rfl)

/-- Table h as a pointer into the arena (block A) leads to it. -/
structure TabAt (own : Nat → Nat) (w : World) (A h : Nat) (r : TabR) : Prop where
  c0 : w.cell? ⟨A, h * 6, none⟩ = some r.vo
  c1 : w.cell? ⟨A, h * 6 + 1, none⟩ = some r.va
  c2 : w.cell? ⟨A, h * 6 + 2, none⟩ = some (.map (some r.bn))
  c3 : w.cell? ⟨A, h * 6 + 3, none⟩ = some (.map (some r.bs))
  c4 : w.cell? ⟨A, h * 6 + 4, none⟩ = some (.map (some r.br))
  c5 : w.cell? ⟨A, h * 6 + 5, none⟩ = some (.int .i64 (deadN r.t))
  fz : ∀ j, w.frozen? ⟨A, j, none⟩ = false
  lt : A < w.heap.size
  rep : RepAt own w h r
theorem row_cell {w : World} {e : TypeId} {sz n : Nat} {v : Value} {xs : List Value} (h : w.ownsRow 0 e sz v n xs) {i : Nat} {x : Value} (hx : xs[i]? = some x) : ∃ g cap, v = .slice (some ⟨g, 0, none⟩) n cap ∧ n ≤ cap ∧ g < w.heap.size ∧ w.cell? ⟨g, i, none⟩ = some x := by
  have hl := (List.getElem?_eq_some_iff.1 hx).1
  rcases h.2 with ⟨rfl, hn⟩ | ⟨g, cap, cur, rfl, hb, hgg, hc, hm, hs, ht⟩
  · rw [h.1, hn] at hl; omega
  · refine ⟨g, cap, rfl, hc, (Array.getElem?_eq_some_iff.1 hgg).1, ?_⟩
    rw [h.1] at hl
    rw [← ht] at hx
    rw [List.getElem?_take, if_pos hl] at hx
    simp [World.cell?, hgg]
    simpa using hx

theorem heap_drewN (w : World) (m : Nat) : (w.drewN m).heap = w.heap := by
  induction m with
  | zero => rfl
  | succ m ih => exact ih
theorem row_slice {w : World} {e : TypeId} {sz n : Nat} {v : Value} {xs : List Value} (h : w.ownsRow 0 e sz v n xs) : ∃ ad cap, v = .slice ad n cap := by
  rcases h.2 with ⟨rfl, hn⟩ | ⟨g, cap, cur, rfl, _⟩
  · exact ⟨none, 0, by rw [hn]⟩
  · exact ⟨_, cap, rfl⟩
/-- The place of a key as Go says it: -1 for none. -/
def plc (o : Option Nat) : Int := match o with
  | some p => (p : Int)
  | none => -1
theorem below_drewN {B : Nat} {a w : World} (h : Below B a w) (m : Nat) : Below B a (w.drewN m) := ⟨h.os, h.tape, h.output, h.size, h.block⟩
theorem inv_arr_len {t : Tbl} {a : List Nat} {n : Nat} (h : a.length + n = t.length) (h2 : t.length ≤ 32) : a.length ≤ 32 := by omega

set_option maxRecDepth 8000 in
set_option maxHeartbeats 3200000 in
theorem find_any (own : Nat → Nat) (A h : Nat) (r : TabR) (k : V) (w : World) (ht : TabAt own w A h r) (hk : wfB k = true) (hN : k.N < 18446744073709551616) :
    Calls Tryz.prog 71 #[.pointer (some ⟨A, h * 6, none⟩), valV k, .int .i64 (oneI k)] w fun e w' => e = .returned (.int .i64 (plc (idx r.t k))) ∧ Below w.heap.size w w' := by
  obtain ⟨c0, c1, c2, c3, c4, c5, fz, lt, rep⟩ := ht
  have hne : ¬ A = w.heap.size := by omega
  have hsum := rep.sum
  have hal : r.a.length ≤ 32 := by have := rep.inv.len; omega
  have hpl : ∀ p, idx r.t k = some p → p ≤ 32 := fun p hp => by have := idx_lt hp; have := rep.inv.len; omega
  by_cases k2 : k.T = 2
  · have hOne : oneI k = toIntV k.N := by unfold oneI; rw [if_pos k2]
    by_cases ha : inArr r.a.length k.N = true
    · unfold inArr at ha
      simp at ha
      obtain ⟨i, hi⟩ : ∃ i : Nat, toIntV k.N = (i : Int) := ⟨(toIntV k.N).toNat, by omega⟩
      obtain ⟨p, hp1, hp2⟩ := find_arr rep.inv hk hN k2 (i := i) (by omega) (by omega) hi
      obtain ⟨g, cap, hva, hc, hg, hcell⟩ := row_cell rep.arr (i := i - 1) (x := i32V p) (by rw [List.getElem?_map, hp1]; rfl)
      rw [hva] at c1
      have hp3 := hpl p hp2
      rw [hOne, hi, hp2]
      have hi1 : 1 ≤ i := by omega
      have hi2 : i ≤ r.a.length := by omega
      have hgne : ¬ g = w.heap.size := by omega
      unfold i32V at hcell
      obtain ⟨j, rfl⟩ : ∃ j, i = j + 1 := ⟨i - 1, by omega⟩
      rw [Nat.add_sub_cancel] at hcell
      obtain ⟨T, N, S⟩ := k
      rw [valV_mk]
      simp only at *
      subst k2
      generalize r.a.length = n at *
      clear rep hk ha fz hva hpl hp1 hp2 hsum hi hOne
      go_enter Tryz.func71, Tryz.ntmps71
      go_wp2
      go_ret
      exact ⟨rfl, below_one _ _⟩
    · have ha : inArr r.a.length k.N = false := by simpa using ha
      have HL := find_nums (t := r.t) hk k2 ha
      have hkey := Maps.keyOf_int_mk Tryz.underlying31 (u64_wf hN)
      have hlook := fun m => (rep.nums.block (w' := (w.alloc (.cells #[.int .i64 2, .int .u64 k.N, .string ⟨k.S.toArray⟩] 33)).drewN m) (by rw [heap_drewN]; exact Below.heap_alloc _ _ _ rep.nums.lt)).look nums_keyed Tryz.underlying102 hkey
      rw [HL] at hlook
      obtain ⟨ad, cap, hva⟩ := row_slice rep.arr
      rw [hva] at c1
      have hI : oneI k < 1 ∨ (1 ≤ oneI k ∧ (r.a.length : Int) < oneI k) := by
        unfold inArr at ha
        rw [hOne]
        simp at ha
        by_cases c : 1 ≤ toIntV k.N
        · exact .inr ⟨c, ha c⟩
        · exact .inl (by omega)
      clear hOne
      generalize oneI k = I at *
      generalize hO : idx r.t k = o at *
      obtain ⟨T, N, S⟩ := k
      rw [valV_mk]
      simp only at *
      subst k2
      generalize r.a.length = n at *
      clear HL hkey rep hk ha fz hva hO hsum
      cases o with
      | none =>
        simp only [Option.getD_none, Option.isSome_none] at hlook
        clear hpl
        rcases hI with hI | ⟨hI, hI2⟩
        all_goals
          go_enter Tryz.func71, Tryz.ntmps71
          go_wp2
          go_quiet (fail)
          go_wp2
          go_ret
          exact ⟨rfl, below_drewN (below_one _ _) _⟩
      | some p =>
        simp only [Option.getD_some, Option.isSome_some] at hlook
        have hp3 := hpl p rfl
        clear hpl
        rcases hI with hI | ⟨hI, hI2⟩
        all_goals
          go_enter Tryz.func71, Tryz.ntmps71
          go_wp2
          go_quiet (fail)
          go_wp2
          go_ret
          exact ⟨rfl, below_drewN (below_one _ _) _⟩
  have hOne : oneI k = 0 := by unfold oneI; rw [if_neg k2]
  rw [hOne]
  clear hOne
  by_cases k3 : k.T = 3
  · have HL := find_strs (t := r.t) hk k3
    have hkey := WideMaps.keyOf_string_mk Tryz.underlying9 (s := ⟨k.S.toArray⟩) (by have := (wf_str hk k3).2; show k.S.toArray.size ≤ _; simp [maxLen]; omega)
    have hlook := fun m => (rep.strs.block (w' := (w.alloc (.cells #[.int .i64 3, .int .u64 k.N, .string ⟨k.S.toArray⟩] 33)).drewN m) (by rw [heap_drewN]; exact Below.heap_alloc _ _ _ rep.strs.lt)).look strs_keyed Tryz.underlying103 hkey
    simp only [HL] at hlook
    generalize hO : idx r.t k = o at *
    obtain ⟨T, N, S⟩ := k
    rw [valV_mk]
    simp only at *
    subst k3
    clear HL hkey rep hk fz hO hsum c1 k2
    cases o with
    | none =>
      simp only [Option.getD_none, Option.isSome_none] at hlook
      clear hpl
      go_enter Tryz.func71, Tryz.ntmps71
      go_wp2
      go_quiet (fail)
      go_wp2
      go_ret
      exact ⟨rfl, below_drewN (below_one _ _) _⟩
    | some p =>
      simp only [Option.getD_some, Option.isSome_some] at hlook
      have hp3 := hpl p rfl
      clear hpl
      go_enter Tryz.func71, Tryz.ntmps71
      go_wp2
      go_quiet (fail)
      go_wp2
      go_ret
      exact ⟨rfl, below_drewN (below_one _ _) _⟩
  · have HL := find_refs (t := r.t) rep.inv.keys hk k2 k3
    have hkey := Maps.keyOf_int_mk Tryz.underlying31 (u64_wf (pack_lt hk k2 k3))
    have hlook : ∀ W, Below w.heap.size w W → (Instr.lookup 102 (.map (some r.br)) (.int .u64 (packN k : Int)) true).run Tryz.prog W = .ok (.tuple #[.int .i32 (((idx r.t k).getD 0 : Nat) : Int), .bool (idx r.t k).isSome]) W := fun W hW => by
      have := (rep.refs.block (w' := W) (hW.block _ rep.refs.lt)).look nums_keyed Tryz.underlying102 hkey
      rw [HL] at this
      exact this
    have hpk := fun w => packK_any k w hk k2 k3
    generalize packN k = PN at *
    generalize hO : idx r.t k = o at *
    obtain ⟨T, N, S⟩ := k
    rw [valV_mk] at hpk ⊢
    simp only at *
    have b2 : (T == 2) = false := by simpa using k2
    have b3 : (T == 3) = false := by simpa using k3
    clear HL hkey hk fz hO hsum c1 k2 k3
    have HLOOK : Hid (∀ W, Below w.heap.size w W → (Instr.lookup 102 (.map (some r.br)) (.int .u64 (PN : Int)) true).run Tryz.prog W = .ok (.tuple #[.int .i32 ((o.getD 0 : Nat) : Int), .bool o.isSome]) W) := hlook
    have HREP : Hid (RepAt own w h r) := rep
    clear hlook rep
    go_enter Tryz.func71, Tryz.ntmps71
    go_upto_block 0 with fail
    go_cut [7, 8] from 9 (fun p q wx => p = .int .i32 ((o.getD 0 : Nat) : Int) ∧ q = .bool o.isSome ∧ Below w.heap.size w wx)
    case first =>
      go_upto_region 6 with fail
      go_region_with (go_at_call 82; refine (hpk _).mono ?_; rintro e w1 ⟨rfl, hb⟩; have hB := below_two (below_one w _).drew hb; have hl := HLOOK.out w1 hB; have d4 := (hB.cell (p := ⟨A, h * 6 + 4, none⟩) lt).trans c4; have HB : Hid (Below w.heap.size w w1) := hB; clear hB hb)
      all_goals
        go_wp2_with fail
        go_meet
        case rel => exact ⟨rfl, rfl, by first | exact HB.out | exact HB.out.drew⟩
    case rest =>
      obtain ⟨rfl, rfl, hB⟩ := hcut
      have HB : Hid (Below w.heap.size w wc) := hB
      clear hB HLOOK hpk
      cases o with
      | none =>
        simp only [Option.getD_none, Option.isSome_none]
        clear hpl
        go_wp2
        go_ret
        exact ⟨rfl, HB.out⟩
      | some p =>
        simp only [Option.getD_some, Option.isSome_some]
        have hp3 := hpl p rfl
        clear hpl
        go_wp2
        go_ret
        exact ⟨rfl, HB.out⟩
end Go.Proofs.Qxb6500293aGreatRR
