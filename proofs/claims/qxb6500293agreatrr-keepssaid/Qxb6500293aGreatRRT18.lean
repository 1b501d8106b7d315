import Derived.Test.Qxb6500293aGreatRRT17
import Derived.RangeFuncNested
import Derived.RangeFuncBound
import Derived.RangeFuncCalls
import Derived.RangeFuncLeaves
import Derived.Shelf.Abstract
import Derived.Shelf.RegionOpen
import Derived.WalkKit
import Derived.OwnWalkIn
import Derived.TacticsInMore
import Derived.LoopNIn
import Derived.LoopIn
namespace Go.Proofs.Qxb6500293aGreatRR
open Go.RowKit Go.Shelf
set_option linter.unusedVariables false
set_option linter.unusedSimpArgs false
attribute [local go_sem] Oper.semAt_some

/-- An entry, as Go holds it. -/
def entV (e : V × V) : Value := .agg #[.int .i64 e.1.T, .int .u64 e.1.N, .string ⟨e.1.S.toArray⟩, .int .i64 e.2.T, .int .u64 e.2.N, .string ⟨e.2.S.toArray⟩]
def dE : V × V := (nilV, nilV)
/-- Is place p met? -/
def metB (t : Tbl) (fr : Nat) (all : Bool) (p : Nat) : Bool := decide (fr ≤ p) && (all || !isNilB (t[p]?.getD dE).2)
/-- What has come when the walk stands at place k. -/
def items (t : Tbl) (fr : Nat) (all : Bool) (k : Nat) : List Nat := (List.range k).filter (metB t fr all)
theorem items_succ (t : Tbl) (fr : Nat) (all : Bool) (k : Nat) : items t fr all (k + 1) = items t fr all k ++ (if metB t fr all k then [k] else []) := by
  unfold items
  rw [List.range_succ, List.filter_append]
  congr 1
  by_cases c : metB t fr all k = true
  · rw [if_pos c]; simp [c]
  · rw [if_neg c]; simp [c]
theorem items_low (t : Tbl) (fr : Nat) (all : Bool) {k : Nat} (h : k ≤ fr) : items t fr all k = [] := by
  unfold items
  rw [List.filter_eq_nil_iff]
  intro p hp
  rw [List.mem_range] at hp
  unfold metB
  rw [decide_eq_false (by omega)]; simp
theorem items_len (t : Tbl) (fr : Nat) (all : Bool) (k : Nat) : (items t fr all k).length ≤ k := by
  unfold items
  have := List.length_filter_le (metB t fr all) (List.range k)
  simpa using this

/-- 't.places(from, all)'. -/
theorem places_any (A h : Nat) (fr : Int) (all : Bool) (w : World) :
    Calls Tryz.prog 35 #[.pointer (some ⟨A, h * 6, none⟩), .int .i64 fr, .bool all] w fun e w' => e = .returned (.func (.func 49) #[] #[.pointer (some ⟨w.heap.size + 1, 0, none⟩), .pointer (some ⟨w.heap.size, 0, none⟩), .pointer (some ⟨w.heap.size + 1 + 1, 0, none⟩)]) ∧
      w' = ((w.alloc (.cells #[.pointer (some ⟨A, h * 6, none⟩)] 119)).alloc (.cells #[.int .i64 fr] 3)).alloc (.cells #[.bool all] 4) := by
  go_enter Tryz.func35, Tryz.ntmps35
  go_wp2
  go_ret
  exact ⟨rfl, rfl⟩

/-- What a round keeps: what lay below n₀, and the three boxes of the iterator. -/
def KpI (n₀ B : Nat) (W W' : World) : Prop := Below n₀ W W' ∧ ∀ k, B ≤ k → k < B + 3 → W'.heap[k]? = W.heap[k]?
theorem KpI.refl (n₀ B : Nat) (W : World) : KpI n₀ B W W := ⟨Below.refl _ _, fun _ _ _ => rfl⟩
theorem KpI.trans {n₀ B : Nat} {x y z : World} (h : KpI n₀ B x y) (k : KpI n₀ B y z) : KpI n₀ B x z := ⟨h.1.trans k.1, fun i a b => (k.2 i a b).trans (h.2 i a b)⟩
theorem KpI.below {n₀ B : Nat} {x y : World} (h : Below x.heap.size x y) (h1 : n₀ ≤ x.heap.size) (h2 : B + 3 ≤ x.heap.size) : KpI n₀ B x y := ⟨h.mono h1, fun i a b => h.block i (by omega)⟩
/-- What the iterator reads. -/
structure ItAt (own : Nat → Nat) (w : World) (n₀ B A h : Nat) (r : TabR) (all : Bool) : Prop where
  tab : TabAt own w A h r
  low : A < n₀
  lowo : ∀ g, r.vo.ownBlock = some g → g < n₀
  bt : w.cell? ⟨B, 0, none⟩ = some (.pointer (some ⟨A, h * 6, none⟩))
  ba : w.cell? ⟨B + 1 + 1, 0, none⟩ = some (.bool all)
  lt : B + 3 ≤ w.heap.size

set_option maxRecDepth 100000 in
set_option maxHeartbeats 4000000 in
/-- **The iterator over a table's places.** -/
theorem places1_in (n : Nat) (hn : 1 ≤ n) (l : Nat) (own : Nat → Nat) (n₀ B A h : Nat) (r : TabR) (fr : Nat) (all : Bool) (J Jx : List Nat → World → Prop)
    (hY : ∀ (pre : List Nat) (x : Nat) (W : World), J pre W → pre.length < 32 → YieldAt Fence.wide (n - 1) Tryz.prog l #[.int .i64 (x : Int), entV (r.t[x]?.getD dE)] W fun e W' =>
      (e = .returned (.bool true) ∧ J (pre ++ [x]) W' ∧ KpI n₀ B W W') ∨ (e = .returned (.bool false) ∧ Jx (pre ++ [x]) W'))
    (W : World) (hJ : AbidesFrom W.heap.size J) (hbf : W.cell? ⟨B + 1, 0, none⟩ = some (.int .i64 (fr : Int))) (hI : ItAt own W n₀ B A h r all) (hn₀ : n₀ ≤ W.heap.size) (hfr : fr ≤ r.t.length) (h0 : J [] W) :
    CallsIn Fence.wide n Tryz.prog 49 #[.func (.yield l) #[] #[], .pointer (some ⟨B + 1, 0, none⟩), .pointer (some ⟨B, 0, none⟩), .pointer (some ⟨B + 1 + 1, 0, none⟩)] W fun e W' => (∃ v, e = .returned v) ∧
      ((∃ ys, ys = items r.t fr all r.t.length ∧ J ys W') ∨ (∃ pre, (∃ k, k ≤ r.t.length ∧ pre = items r.t fr all k) ∧ Jx pre W')) := by
  refine callsIn_of_wp Tryz.func49 rfl trivial ?_ rfl
  simp only [Tryz.ntmps49, List.size_toArray, List.length_cons, List.length_nil, Nat.reduceAdd, Nat.reduceSub, Array.replicate_succ, Array.replicate_zero, List.push_toArray, List.append_toArray, List.nil_append, List.cons_append]
  have hl32 := hI.tab.rep.inv.len
  obtain ⟨ado, oc, hvo⟩ := row_slice hI.tab.rep.ord
  gi_wp2
  gi_loopw [5] (fun iv wr => ∃ k : Nat, iv = .int .i64 (k : Int) ∧ k ≤ r.t.length ∧ fr ≤ k ∧ J (items r.t fr all k) wr ∧ KpI n₀ B W wr) (fun iv _ => r.t.length - (intOf iv).toNat)
  case atStart => exact ⟨fr, rfl, hfr, Nat.le_refl _, by rw [items_low _ _ _ (Nat.le_refl _)]; exact h0, KpI.refl _ _ _⟩
  case round =>
    obtain ⟨k, rfl, hk, hfk, hJs, hK⟩ := hrel
    have a0 : wr.cell? ⟨A, h * 6, none⟩ = some (.slice ado r.t.length oc) := by rw [← hvo]; exact (hK.1.cell (p := ⟨A, h * 6, none⟩) hI.low).trans hI.tab.c0
    have bt : wr.cell? ⟨B, 0, none⟩ = some (.pointer (some ⟨A, h * 6, none⟩)) := (World.cell?_of_block (a := ⟨B, 0, none⟩) (hK.2 B (Nat.le_refl _) (by omega))).trans hI.bt
    have ba : wr.cell? ⟨B + 1 + 1, 0, none⟩ = some (.bool all) := (World.cell?_of_block (a := ⟨B + 1 + 1, 0, none⟩) (hK.2 (B + 1 + 1) (by omega) (by omega))).trans hI.ba
    have hws : W.heap.size ≤ wr.heap.size := hK.1.size
    have hBl : B + 3 ≤ wr.heap.size := by have := hI.lt; omega
    by_cases hlt : k < r.t.length
    · have he : r.t[k]? = some r.t[k] := List.getElem?_eq_getElem hlt
      have cc := fun j hj => flat6 entC entC_len r.t k r.t[k] he j hj
      obtain ⟨g, c, hv, hc, hg, e0⟩ := row_cell hI.tab.rep.ord (cc 0 (by omega))
      have hgn : g < n₀ := hI.lowo g (by rw [hv]; rfl)
      have kk : ∀ j, j < 6 → ∀ x, (entC r.t[k])[j]? = some x → wr.cell? ⟨g, k * 6 + j, none⟩ = some x := by
        intro j hj x hx
        obtain ⟨g', c', hv', _, _, k1⟩ := row_cell hI.tab.rep.ord ((cc j hj).trans hx)
        rw [hv] at hv'
        cases hv'
        exact (hK.1.cell (p := ⟨g, k * 6 + j, none⟩) hgn).trans k1
      have f0 := kk 0 (by omega) _ rfl
      have f1 := kk 1 (by omega) _ rfl
      have f2 := kk 2 (by omega) _ rfl
      have f3 := kk 3 (by omega) _ rfl
      have f4 := kk 4 (by omega) _ rfl
      have f5 := kk 5 (by omega) _ rfl
      rw [hvo] at hv
      cases hv
      have hsucc := items_succ r.t fr all k
      have hgd : r.t[k]?.getD dE = r.t[k] := by rw [he]; rfl
      have hmet : metB r.t fr all k = (all || !isNilB r.t[k].2) := by unfold metB; rw [decide_eq_true hfk, hgd]; rfl
      rw [hmet] at hsucc
      have HSUCC : Hid (items r.t fr all (k + 1) = items r.t fr all k ++ (if (all || !isNilB r.t[k].2) then [k] else [])) := hsucc
      have HN := fun w => isNil_any r.t[k].2 w
      have HG : Hid (r.t[k]?.getD dE = r.t[k]) := hgd
      have hil : (items r.t fr all k).length < 32 := by have := items_len r.t fr all k; omega
      obtain ⟨ev, hev⟩ : ∃ ev, ev = r.t[k] := ⟨_, rfl⟩
      rw [← hev] at HSUCC HN HG f0 f1 f2 f3 f4 f5
      obtain ⟨⟨kT, kN, kS⟩, ⟨vT, vN, vS⟩⟩ := ev
      simp only [valV_mk, Nat.add_zero] at HN f0 f1 f2 f3 f4 f5
      simp only at HSUCC
      have HK : Hid (KpI n₀ B W wr) := hK
      have HJS : Hid (J (items r.t fr all k) wr) := hJs
      generalize hnv : isNilB ⟨vT, vN, vS⟩ = nv at *
      have ba2 := ((below_one wr (.cells #[.int .i64 kT, .int .u64 kN, .string ⟨kS.toArray⟩, .int .i64 vT, .int .u64 vN, .string ⟨vS.toArray⟩] 108)).cell (p := ⟨B + 1 + 1, 0, none⟩) (by dsimp only; omega)).trans ba
      have hb2 : ¬ B + 1 + 1 = wr.heap.size := by omega
      have hb3 : B + 1 + 1 < wr.heap.size := by omega
      have hb1 : ¬ B = wr.heap.size := by omega
      clear hK hJs cc kk e0 hsucc hmet hgd he hev hnv
      have hAl : W.heap.size ≤ wr.heap.size := hws
      have HKA : Hid (KpI n₀ B wr (wr.alloc (.cells #[.int .i64 kT, .int .u64 kN, .string ⟨kS.toArray⟩, .int .i64 vT, .int .u64 vN, .string ⟨vS.toArray⟩] 108))) := KpI.below (below_one wr _) (by omega) hBl
      cases all
      · -- the live places
        gi_wp2
        refine ⟨trivial, ?_⟩
        refine (callsIn_wide.2 (HN _)).mono ?_
        rintro e w3 ⟨rfl, hb⟩
        have hB3 : Below wr.heap.size wr w3 := below_two (below_one wr _) hb
        have hJ3 := hJ _ _ w3 none HJS.out (grown_of_below hB3 _) (by intro r h; cases h)
        have hnew : w3.heap[wr.heap.size]? = some (.cells #[.int .i64 kT, .int .u64 kN, .string ⟨kS.toArray⟩, .int .i64 vT, .int .u64 vN, .string ⟨vS.toArray⟩] 108) := by
          rw [hb.block _ (by simp)]
          show (wr.heap.push _)[_]? = _
          simp
        have hcs : w3.cell? ⟨wr.heap.size, 0, none⟩ = some (.int .i64 kT) ∧ w3.cell? ⟨wr.heap.size, 1, none⟩ = some (.int .u64 kN) ∧ w3.cell? ⟨wr.heap.size, 2, none⟩ = some (.string ⟨kS.toArray⟩) ∧ w3.cell? ⟨wr.heap.size, 3, none⟩ = some (.int .i64 vT) ∧ w3.cell? ⟨wr.heap.size, 4, none⟩ = some (.int .u64 vN) ∧ w3.cell? ⟨wr.heap.size, 5, none⟩ = some (.string ⟨vS.toArray⟩) := by
          simp [World.cell?, hnew]
        obtain ⟨y0, y1, y2, y3, y4, y5⟩ := hcs
        have HK3 : Hid (KpI n₀ B W w3) := HK.out.trans (KpI.below hB3 (by omega) hBl)
        have HJ3 : Hid (J (items r.t fr false k) w3) := hJ3
        clear hb hB3 hnew hJ3 HKA HK HJS
        cases nv
        · obtain ⟨fn, tmps, assign, body, hy, hR⟩ := hY _ k _ HJ3.out hil
          rw [HG.out] at hy
          simp only [entV] at hy
          gi_wp2
          refine hR.mono ?_
          rintro e W3 (⟨rfl, hJ4, hk4⟩ | ⟨rfl, hJx4⟩)
          · have HJ4 : Hid (J _ W3 ∧ KpI n₀ B _ W3) := ⟨hJ4, hk4⟩
            clear hJ4 hk4 hR
            gi_wp2
            go_roundw
            case rel => exact ⟨k + 1, by go_num, by omega, by omega, by rw [HSUCC.out]; exact HJ4.out.1, HK3.out.trans HJ4.out.2⟩
            case measure => simp [intOf]; omega
          · have HJX : Hid (Jx _ W3) := hJx4
            clear hJx4 hR
            gi_wp2
            refine bodyPost_ret (results_none rfl _ _ _) rfl ?_
            exact ⟨⟨_, rfl⟩, .inr ⟨_, ⟨k + 1, by omega, rfl⟩, by rw [HSUCC.out]; exact HJX.out⟩⟩
        · gi_wp2
          go_roundw
          case rel => exact ⟨k + 1, by go_num, by omega, by omega, by rw [HSUCC.out]; simpa using HJ3.out, HK3.out⟩
          case measure => simp [intOf]; omega
      · -- every place
        have hJ2 := hJ _ _ (wr.alloc (.cells #[.int .i64 kT, .int .u64 kN, .string ⟨kS.toArray⟩, .int .i64 vT, .int .u64 vN, .string ⟨vS.toArray⟩] 108)) none HJS.out (World.grownBy_alloc _ _ _) (by intro r h; cases h)
        obtain ⟨fn, tmps, assign, body, hy, hR⟩ := hY _ k _ hJ2 hil
        rw [HG.out] at hy
        simp only [entV] at hy
        clear hJ2
        gi_wp2
        refine ⟨trivial, ?_⟩
        gi_wp2
        refine hR.mono ?_
        rintro e W3 (⟨rfl, hJ3, hk3⟩ | ⟨rfl, hJx3⟩)
        · have HJ3 : Hid (J _ W3 ∧ KpI n₀ B _ W3) := ⟨hJ3, hk3⟩
          clear hJ3 hk3 hR
          gi_wp2
          go_roundw
          case rel => exact ⟨k + 1, by go_num, by omega, by omega, by rw [HSUCC.out]; exact HJ3.out.1, HK.out.trans (HKA.out.trans HJ3.out.2)⟩
          case measure => simp [intOf]; omega
        · have HJX : Hid (Jx _ W3) := hJx3
          clear hJx3 hR
          gi_wp2
          refine bodyPost_ret (results_none rfl _ _ _) rfl ?_
          exact ⟨⟨_, rfl⟩, .inr ⟨_, ⟨k + 1, by omega, rfl⟩, by rw [HSUCC.out]; exact HJX.out⟩⟩
    · obtain rfl : k = r.t.length := by omega
      have HJS : Hid (J (items r.t fr all r.t.length) wr) := hJs
      clear hK hJs
      gi_wp2
      go_end0
      exact ⟨⟨_, rfl⟩, .inl ⟨_, rfl, HJS.out⟩⟩

theorem ItAt.below {own : Nat → Nat} {w W : World} {n₀ B A h : Nat} {r : TabR} {all : Bool} (H : ItAt own w n₀ B A h r all) (hb : Below w.heap.size w W) : ItAt own W n₀ B A h r all :=
  ⟨H.tab.below hb, H.low, H.lowo, (hb.cell (p := ⟨B, 0, none⟩) (by have := H.lt; dsimp only; omega)).trans H.bt, (hb.cell (p := ⟨B + 1 + 1, 0, none⟩) (by have := H.lt; dsimp only; omega)).trans H.ba, Nat.le_trans H.lt hb.size⟩
/-- **What t.places hands back stops.** -/
theorem places_stops (n : Nat) (hn : 1 ≤ n) (own : Nat → Nat) (n₀ B A h : Nat) (r : TabR) (fr : Nat) (all : Bool) (w : World) (hI : ItAt own w n₀ B A h r all) (hbf : w.cell? ⟨B + 1, 0, none⟩ = some (.int .i64 (fr : Int))) (hn₀ : n₀ ≤ w.heap.size) (hfr : fr ≤ r.t.length) :
    SeqStopsK Fence.wide n Tryz.prog 49 #[.pointer (some ⟨B + 1, 0, none⟩), .pointer (some ⟨B, 0, none⟩), .pointer (some ⟨B + 1 + 1, 0, none⟩)] (fun x : Nat => #[.int .i64 (x : Int), entV (r.t[x]?.getD dE)]) (KpI n₀ B)
      (fun ys => ys = items r.t fr all r.t.length) (fun pre => ∃ k, k ≤ r.t.length ∧ pre = items r.t fr all k) 32 w := fun l J Jx W hW hJ _ hY h0 =>
  places1_in n hn l own n₀ B A h r fr all J Jx hY W hJ ((hW.cell (p := ⟨B + 1, 0, none⟩) (by have := hI.lt; dsimp only; omega)).trans hbf) (hI.below hW) (Nat.le_trans hn₀ hW.size) hfr h0
end Go.Proofs.Qxb6500293aGreatRR
