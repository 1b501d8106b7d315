import Derived.Test.Qxb6500293aGreatRRT16
namespace Go.Proofs.Qxb6500293aGreatRR
open Go.RowKit
open Ieee (double)
set_option linter.unusedVariables false
set_option linter.unusedSimpArgs false

def cut0 : Value → Value
  | .slice a _ c => .slice a 0 c
  | v => v
/-- A table wiped. -/
def wipe (r : TabR) : TabR := { r with vo := cut0 r.vo, va := cut0 r.va, t := [], a := [], nn := 0, ns := 0, nr := 0 }
theorem cut0_own (v : Value) : (cut0 v).ownBlock = v.ownBlock := by
  cases v <;> try rfl
  rename_i a n c
  cases a <;> rfl
theorem row_cut {w : World} {e : TypeId} {sz n : Nat} {v : Value} {xs : List Value} (h : w.ownsRow 0 e sz v n xs) : w.ownsRow 0 e sz (cut0 v) 0 [] := by
  rcases h.2 with ⟨rfl, hn⟩ | ⟨g, cap, cur, rfl, hb, hgg, hc, hm, hs, ht⟩
  · exact World.ownsRow_nil _ _ _ _
  · exact ⟨by simp, .inr ⟨g, cap, cur, rfl, Nat.zero_le _, hgg, Nat.zero_le _, hm, hs, by simp⟩⟩
theorem tab_wiped {own : Nat → Nat} {w w1 w2 w3 : World} {A h : Nat} {r : TabR} (H : TabAt own w A h r) (hcA : own A = 2)
    (m1 : MapAt 31 w1 r.bn 0 (fun _ => none)) (g1 : ((w.setCell ⟨A, h * 6, none⟩ (cut0 r.vo)).setCell ⟨A, h * 6 + 1, none⟩ (cut0 r.va)).grownBy w1 (some r.bn))
    (m2 : MapAt 9 w2 r.bs 0 (fun _ => none)) (g2 : w1.grownBy w2 (some r.bs)) (m3 : MapAt 31 w3 r.br 0 (fun _ => none)) (g3 : w2.grownBy w3 (some r.br)) :
    TabAt own (w3.setCell ⟨A, h * 6 + 5, none⟩ (.int .i64 0)) A h (wipe r) ∧ Only own A h w (w3.setCell ⟨A, h * 6 + 5, none⟩ (.int .i64 0)) := by
  obtain ⟨c0, c1, c2, c3, c4, c5, fz, lt, R⟩ := H
  have hn : ∀ b cc, own b = cc → 11 + 5 * h ≤ cc → b ≠ A := by rintro b cc hb hc rfl; omega
  have nA := hn _ _ R.numsc (by omega)
  have sA := hn _ _ R.strsc (by omega)
  have rA := hn _ _ R.refsc (by omega)
  have s1 := g1.size
  have s2 := g2.size
  have s3 := g3.size
  simp only [World.size_setCell] at s1
  have k1 : ∀ k, k < w.heap.size → k ≠ A → k ≠ r.bn → k ≠ r.bs → k ≠ r.br → (w3.setCell ⟨A, h * 6 + 5, none⟩ (.int .i64 0)).heap[k]? = w.heap[k]? := by
    intro k hk hA h1 h2 h3
    rw [Below.heap_setCell _ _ _ _ hA, g3.block k (by omega) (by intro e; injection e with e; exact h3 e), g2.block k (by omega) (by intro e; injection e with e; exact h2 e), g1.block k (by simp; omega) (by intro e; injection e with e; exact h1 e), Below.heap_setCell _ _ _ _ hA, Below.heap_setCell _ _ _ _ hA]
  have kA : w3.heap[A]? = ((w.setCell ⟨A, h * 6, none⟩ (cut0 r.vo)).setCell ⟨A, h * 6 + 1, none⟩ (cut0 r.va)).heap[A]? := by
    rw [g3.block A (by omega) (by intro e; injection e with e; exact rA e.symm), g2.block A (by omega) (by intro e; injection e with e; exact sA e.symm), g1.block A (by simp; omega) (by intro e; injection e with e; exact nA e.symm)]
  have cA : ∀ j, w3.cell? ⟨A, j, none⟩ = ((w.setCell ⟨A, h * 6, none⟩ (cut0 r.vo)).setCell ⟨A, h * 6 + 1, none⟩ (cut0 r.va)).cell? ⟨A, j, none⟩ := fun j => World.cell?_of_block (a := ⟨A, j, none⟩) kA
  have fA : ∀ j, w3.frozen? ⟨A, j, none⟩ = false := fun j => by rw [World.frozen?_of_block (a := ⟨A, j, none⟩) kA, World.frozen?_setCell, World.frozen?_setCell]; exact fz j
  have col : ∀ k cc, k < w.heap.size → own k = cc → cc ≠ 2 → cc ≠ 12 + 5 * h → cc ≠ 13 + 5 * h → cc ≠ 14 + 5 * h → (w3.setCell ⟨A, h * 6 + 5, none⟩ (.int .i64 0)).heap[k]? = w.heap[k]? := fun k cc hk h1 h2 h3 h4 h5 =>
    k1 k hk (by rintro rfl; omega) (by rintro rfl; have := R.numsc; omega) (by rintro rfl; have := R.strsc; omega) (by rintro rfl; have := R.refsc; omega)
  have ne (a b : Nat) (hab : a ≠ b) : (⟨A, a, none⟩ : Addr) ≠ ⟨A, b, none⟩ := by intro e; injection e; omega
  have hbs : r.bn ≠ r.bs := by intro e; have := R.numsc; have := R.strsc; rw [e] at *; omega
  have hbr : r.bn ≠ r.br := by intro e; have := R.numsc; have := R.refsc; rw [e] at *; omega
  have hsr : r.bs ≠ r.br := by intro e; have := R.strsc; have := R.refsc; rw [e] at *; omega
  refine ⟨⟨?_, ?_, ?_, ?_, ?_, ?_, ?_, ?_, ?_⟩, ?_⟩
  · rw [World.cell?_setCell_other _ _ _ _ (ne _ _ (by omega)), cA, World.cell?_setCell_other _ _ _ _ (ne _ _ (by omega))]
    exact World.cell?_setCell_same' _ _ _ (by rw [c0]; rfl)
  · rw [World.cell?_setCell_other _ _ _ _ (ne _ _ (by omega)), cA]
    exact World.cell?_setCell_same' _ _ _ (by rw [World.cell?_setCell_other _ _ _ _ (ne _ _ (by omega)), c1]; rfl)
  · rw [World.cell?_setCell_other _ _ _ _ (ne _ _ (by omega)), cA, World.cell?_setCell_other _ _ _ _ (ne _ _ (by omega)), World.cell?_setCell_other _ _ _ _ (ne _ _ (by omega))]; exact c2
  · rw [World.cell?_setCell_other _ _ _ _ (ne _ _ (by omega)), cA, World.cell?_setCell_other _ _ _ _ (ne _ _ (by omega)), World.cell?_setCell_other _ _ _ _ (ne _ _ (by omega))]; exact c3
  · rw [World.cell?_setCell_other _ _ _ _ (ne _ _ (by omega)), cA, World.cell?_setCell_other _ _ _ _ (ne _ _ (by omega)), World.cell?_setCell_other _ _ _ _ (ne _ _ (by omega))]; exact c4
  · exact World.cell?_setCell_same' _ _ _ (by rw [cA, World.cell?_setCell_other _ _ _ _ (ne _ _ (by omega)), World.cell?_setCell_other _ _ _ _ (ne _ _ (by omega)), c5]; rfl)
  · intro j; rw [World.frozen?_setCell]; exact fA j
  · simp; omega
  · refine ⟨?_, ?_, ?_, ?_, ?_, R.numsc, ?_, R.strsc, ?_, R.refsc, rfl, inv_nil⟩
    · exact ownsRow_block (row_cut R.ord) (fun g hg => by change (cut0 r.vo).ownBlock = some g at hg; rw [cut0_own] at hg; exact col g _ (ownsRow_lt R.ord g hg) (R.ordc g hg) (by omega) (by omega) (by omega) (by omega))
    · intro g hg; change (cut0 r.vo).ownBlock = some g at hg; rw [cut0_own] at hg; exact R.ordc g hg
    · exact ownsRow_block (row_cut R.arr) (fun g hg => by change (cut0 r.va).ownBlock = some g at hg; rw [cut0_own] at hg; exact col g _ (ownsRow_lt R.arr g hg) (R.arrc g hg) (by omega) (by omega) (by omega) (by omega))
    · intro g hg; change (cut0 r.va).ownBlock = some g at hg; rw [cut0_own] at hg; exact R.arrc g hg
    · show MapAt 31 _ r.bn 0 (numsF [] 0)
      rw [numsF_nil]
      refine m1.block ?_
      rw [Below.heap_setCell _ _ _ _ nA, g3.block _ (by have := m1.lt; omega) (by intro e; injection e with e; exact hbr e), g2.block _ m1.lt (by intro e; injection e with e; exact hbs e)]
    · show MapAt 9 _ r.bs 0 (strsF [])
      rw [strsF_nil]
      refine m2.block ?_
      rw [Below.heap_setCell _ _ _ _ sA, g3.block _ m2.lt (by intro e; injection e with e; exact hsr e)]
    · show MapAt 31 _ r.br 0 (refsF [])
      rw [refsF_nil]
      exact m3.block (Below.heap_setCell _ _ _ _ rA)
  · have O0 := ((Only.refl own A h w).set_arena (i := h * 6) (by omega) (cut0 r.vo)).set_arena (i := h * 6 + 1) (by omega) (cut0 r.va)
    have O1 := O0.grown g1 nA (by simp; omega) (.inl (by rw [R.numsc]; omega))
    have O2 := O1.grown g2 sA (by omega) (.inl (by rw [R.strsc]; omega))
    have O3 := O2.grown g3 rA (by omega) (.inl (by rw [R.refsc]; omega))
    exact O3.set_arena (by omega) _

/-- The first h tables wiped. -/
def wiped (reps : List TabR) (h : Nat) : List TabR := (reps.take h).map wipe ++ reps.drop h
theorem wiped_zero (reps : List TabR) : wiped reps 0 = reps := by simp [wiped]
theorem wiped_len (reps : List TabR) (h : Nat) : (wiped reps h).length = reps.length := by simp [wiped]; omega
theorem wiped_at {reps : List TabR} {h : Nat} {r : TabR} (hr : reps[h]? = some r) : (wiped reps h)[h]? = some r := by
  have hl := (List.getElem?_eq_some_iff.1 hr).1
  unfold wiped
  rw [List.getElem?_append_right (by simp; omega)]
  simp only [List.length_map, List.length_take, List.getElem?_drop]
  rw [show h + (h - min h reps.length) = h from by omega]; exact hr
theorem wiped_step {reps : List TabR} {h : Nat} {r : TabR} (hr : reps[h]? = some r) : (wiped reps h).set h (wipe r) = wiped reps (h + 1) := by
  have hl := (List.getElem?_eq_some_iff.1 hr).1
  unfold wiped
  rw [List.set_append_right _ _ (by simp; omega)]
  simp only [List.length_map, List.length_take]
  have hd : List.drop h reps = r :: List.drop (h + 1) reps := by
    rw [List.drop_eq_getElem_cons hl]
    have : reps[h] = r := by simpa [List.getElem?_eq_getElem hl] using hr
    rw [this]
  rw [show h - min h reps.length = 0 from by omega, List.take_add_one, hr, hd]
  simp
theorem RealAt.reset {own : Nat → Nat} {w : World} {x : Nat} {reps : List TabR} {count : Nat} (H : RealAt own w x reps count) (hall : ∀ (h : Nat) (r : TabR), reps[h]? = some r → r.t = [] ∧ r.a = []) : RealAt own (w.setCell ⟨x, 2, none⟩ (.int .i64 0)) x reps 0 := by
  obtain ⟨nb, vt, h1, h2, h3⟩ := H.tabs
  have hoth : ∀ k, k ≠ x → (w.setCell ⟨x, 2, none⟩ (.int .i64 0)).heap[k]? = w.heap[k]? := fun k hk => Below.heap_setCell _ _ _ _ hk
  refine ⟨⟨nb, vt, h1.setCount 0, ownsRow_block h2 (fun g hg => hoth g (by rintro rfl; have := h3 _ hg; have := H.xc; omega)), h3⟩, H.xc, ?_, Nat.zero_le _, H.max, fun h r hr _ => hall h r hr⟩
  intro h r hr
  obtain ⟨e1, e2⟩ := H.rep h r hr
  exact ⟨e1.kept (fun k hk a b => hoth k (by rintro rfl; have := H.xc; omega)) (fun _ _ => rfl), e2⟩

set_option maxRecDepth 8000 in
set_option maxHeartbeats 3200000 in
theorem reset_any (own : Nat → Nat) (x : Nat) (reps : List TabR) (count : Nat) (w : World) (H : RealAt own w x reps count) :
    Calls Tryz.prog 52 #[.pointer (some ⟨x, 0, none⟩)] w fun e w' => e = .returned (.tuple #[]) ∧ (∃ reps', RealAt own w' x reps' 0) ∧ Chg own w w' := by
  obtain ⟨nb, vt, ht, hrow, hvc⟩ := H.tabs
  obtain ⟨c0, c1, c2, fz, lt⟩ := id ht
  have hcl : count ≤ 12 := by have := H.cnt; have := H.max; omega
  have hlm := H.max
  have hlc := H.cnt
  have hxc := H.xc
  have HH : Hid (RealAt own w x reps count) := H
  clear H hrow hvc ht fz
  go_enter Tryz.func52, Tryz.ntmps52
  go_wp2_with fail
  go_loopw [8] (fun iv wr => ∃ h : Nat, iv = .int .i64 (h : Int) ∧ h ≤ count ∧ RealAt own wr x (wiped reps h) count ∧ Chg own w wr) (fun iv _ => count - (intOf iv).toNat)
  case atStart => exact ⟨0, rfl, Nat.zero_le _, by rw [wiped_zero]; exact HH.out, Chg.of_below (Below.refl _ _)⟩
  case round =>
    obtain ⟨h, rfl, hh, hR, hC⟩ := hrel
    by_cases hlt : h < count
    · obtain ⟨nb', vt', ht', hrow', hvc'⟩ := hR.tabs
      have hrl : h < reps.length := by omega
      have hr : reps[h]? = some reps[h] := List.getElem?_eq_getElem hrl
      have hrw := wiped_at hr
      obtain ⟨hrep, hcls⟩ := hR.rep h _ hrw
      obtain ⟨A, cap, rfl, hta⟩ := tabAt_of hrow' hrw hrep
      have hcA : own A = 2 := hvc' A rfl
      generalize hrr : reps[h] = r at *
      obtain ⟨a0, a1, a2, a3, a4, a5, afz, lA, R⟩ := id hta
      obtain ⟨x0, x1, x2, xz, xl⟩ := id ht'
      obtain ⟨ado, oc, hvo⟩ := row_slice R.ord
      obtain ⟨ada, ac, hva⟩ := row_slice R.arr
      have ne (b cc : Nat) (hb : own b = cc) (hc : 10 ≤ cc) : b ≠ A := by rintro rfl; omega
      obtain ⟨w1, e1, m1, g1⟩ := (R.nums.block (w' := (wr.setCell ⟨A, h * 6, none⟩ (cut0 r.vo)).setCell ⟨A, h * 6 + 1, none⟩ (cut0 r.va)) (by rw [Below.heap_setCell _ _ _ _ (ne _ _ R.numsc (by omega)), Below.heap_setCell _ _ _ _ (ne _ _ R.numsc (by omega))])).clear Tryz.underlying102 0
      obtain ⟨w2, e2, m2, g2⟩ := (R.strs.block (w' := w1) (by rw [g1.block _ (by have := R.strs.lt; simp; omega) (by intro e; injection e with e; have := R.strsc; have := R.numsc; rw [e] at *; omega), Below.heap_setCell _ _ _ _ (ne _ _ R.strsc (by omega)), Below.heap_setCell _ _ _ _ (ne _ _ R.strsc (by omega))])).clear Tryz.underlying103 0
      obtain ⟨w3, e3, m3, g3⟩ := (R.refs.block (w' := w2) (by rw [g2.block _ (by have := R.refs.lt; have := g1.size; simp at this; omega) (by intro e; injection e with e; have := R.strsc; have := R.refsc; rw [e] at *; omega), g1.block _ (by have := R.refs.lt; simp; omega) (by intro e; injection e with e; have := R.refsc; have := R.numsc; rw [e] at *; omega), Below.heap_setCell _ _ _ _ (ne _ _ R.refsc (by omega)), Below.heap_setCell _ _ _ _ (ne _ _ R.refsc (by omega))])).clear Tryz.underlying102 0
      obtain ⟨q1, q2⟩ := tab_wiped hta hcA m1 g1 m2 g2 m3 g3
      have hnew := hR.turned ht' hrow' hcA hrw hlt q1 rfl q2 (fun _ _ => rfl)
      rw [wiped_step hr] at hnew
      have HNEW : Hid (RealAt own (w3.setCell ⟨A, h * 6 + 5, none⟩ (.int .i64 0)) x (wiped reps (h + 1)) count ∧ Chg own w (w3.setCell ⟨A, h * 6 + 5, none⟩ (.int .i64 0))) := ⟨hnew, hC.trans (Chg.of_only q2 hcA (by omega)) (fun _ _ => rfl)⟩
      have nA := ne _ _ R.numsc (by omega)
      have sA := ne _ _ R.strsc (by omega)
      have rA := ne _ _ R.refsc (by omega)
      have b1 : ∀ j, w1.cell? ⟨A, j, none⟩ = ((wr.setCell ⟨A, h * 6, none⟩ (cut0 r.vo)).setCell ⟨A, h * 6 + 1, none⟩ (cut0 r.va)).cell? ⟨A, j, none⟩ := fun j => World.cell?_of_block (a := ⟨A, j, none⟩) (g1.block A (by simp; omega) (by intro e; injection e with e; exact nA e.symm))
      have s1 := g1.size
      simp only [World.size_setCell] at s1
      have s2 := g2.size
      have b2 : ∀ j, w2.cell? ⟨A, j, none⟩ = w1.cell? ⟨A, j, none⟩ := fun j => World.cell?_of_block (a := ⟨A, j, none⟩) (g2.block A (by omega) (by intro e; injection e with e; exact sA e.symm))
      have b3 : ∀ j, w3.cell? ⟨A, j, none⟩ = w2.cell? ⟨A, j, none⟩ := fun j => World.cell?_of_block (a := ⟨A, j, none⟩) (g3.block A (by omega) (by intro e; injection e with e; exact rA e.symm))
      have d3 : w1.cell? ⟨A, h * 6 + 3, none⟩ = some (.map (some r.bs)) := by
        rw [b1, World.cell?_setCell_other _ _ _ _ (by intro e; injection e; omega), World.cell?_setCell_other _ _ _ _ (by intro e; injection e; omega)]; exact a3
      have d4 : w2.cell? ⟨A, h * 6 + 4, none⟩ = some (.map (some r.br)) := by
        rw [b2, b1, World.cell?_setCell_other _ _ _ _ (by intro e; injection e; omega), World.cell?_setCell_other _ _ _ _ (by intro e; injection e; omega)]; exact a4
      have d5 : w3.cell? ⟨A, h * 6 + 5, none⟩ = some (.int .i64 (deadN r.t)) := by
        rw [b3, b2, b1, World.cell?_setCell_other _ _ _ _ (by intro e; injection e; omega), World.cell?_setCell_other _ _ _ _ (by intro e; injection e; omega)]; exact a5
      have z5 : w3.frozen? ⟨A, h * 6 + 5, none⟩ = false := by
        have := q1.fz (h * 6 + 5)
        rw [World.frozen?_setCell] at this
        exact this
      have z0 := afz (h * 6)
      have z1 := afz (h * 6 + 1)
      rw [hvo] at e1 a0
      rw [hva] at e1 a1
      simp only [cut0] at e1
      generalize hwl : (wiped reps h).length = wl at *
      have hwl2 : h < wl := by rw [← hwl, wiped_len]; exact hrl
      clear m1 m2 m3 g1 g2 g3 b1 b2 b3 s1 s2 q1 q2 hnew hR hC ht' hrow' hvc' hrep hcls hta R ne nA sA rA hrw hr hrr a5 afz xz hwl
      rcases ado with _ | ado <;> rcases ada with _ | ada
      all_goals
        go_wp2_with fail
        go_roundw
        case rel => exact ⟨h + 1, by go_num, by omega, HNEW.out.1, HNEW.out.2⟩
        case measure => simp [intOf]; omega
    · have HALL : Hid (∃ reps', RealAt own (wr.setCell ⟨x, 2, none⟩ (.int .i64 0)) x reps' 0) := by
        have : h = count := by omega
        subst this
        refine ⟨_, hR.reset ?_⟩
        intro q r hq
        rcases Nat.lt_or_ge q h with c | c
        · unfold wiped at hq
          rw [List.getElem?_append_left (by simp; omega), List.getElem?_map] at hq
          cases hh : (List.take h reps)[q]? with
          | none => rw [hh] at hq; cases hq
          | some r0 => rw [hh] at hq; cases hq; exact ⟨rfl, rfl⟩
        · exact hR.wiped q r hq c
      obtain ⟨nb', vt', ht', _, _⟩ := hR.tabs
      obtain ⟨x0, x1, x2, xz, xl⟩ := ht'
      have xz2 := xz 2
      have HC : Hid (Chg own w wr) := hC
      clear hR hC xz
      go_wp2
      go_end0
      refine ⟨rfl, HALL.out, HC.out.trans ⟨rfl, rfl, rfl, by simp, fun k hk hn => Below.heap_setCell _ _ _ _ (by rintro rfl; omega)⟩ (fun _ _ => rfl)⟩
end Go.Proofs.Qxb6500293aGreatRR
