import Derived.Test.Qxb6500293aGreatRRT19
import Derived.Test.Qxb6500293aGreatRRT14
namespace Go.Proofs.Qxb6500293aGreatRR
open Go.RowKit Go.Shelf
set_option linter.unusedVariables false
set_option linter.unusedSimpArgs false
attribute [local go_sem] Oper.semAt_some

/-- An entry's block. -/
abbrev entO (e : V × V) : Obj := .cells #[.int .i64 e.1.T, .int .u64 e.1.N, .string ⟨e.1.S.toArray⟩, .int .i64 e.2.T, .int .u64 e.2.N, .string ⟨e.2.S.toArray⟩] 108
/-- The frame behind the assignment to the loop's variables: the entry is boxed. -/
abbrev boxedA (a : Act) (ps : Array Tmp) (vs : Array Value) (s Bx : Nat) : Act := { tmps := ((ps.zip vs).foldl (fun t (p, v) => t.setIfInBounds p v) a.tmps).setIfInBounds s (.pointer (some ⟨Bx, 0, none⟩)), defers := [] }

theorem ownFrom_size {β : Type} (B m : Nat) : OwnFrom B (fun (_ : β) W => m ≤ W.heap.size) := fun _ X Y row hs hg hr => Nat.le_trans hs hg.size

/-- **'for _, e := range t.places(from, all)'.** -/
theorem wpIn_places {g : Operand} {ps : Array Tmp} {assign body : Code} {Q : Exit → Act → World → Prop} {a : Act} {w : World} (n : Nat) (hn : 2 ≤ n) (own : Nat → Nat) (n₀ B A h : Nat) (r : TabR) (fr : Nat) (all : Bool) (s : Nat)
    (hg : a.eval g = .func (.func 49) #[] #[.pointer (some ⟨B + 1, 0, none⟩), .pointer (some ⟨B, 0, none⟩), .pointer (some ⟨B + 1 + 1, 0, none⟩)])
    (hT : ItAt own w n₀ B A h r all) (hbf : w.cell? ⟨B + 1, 0, none⟩ = some (.int .i64 (fr : Int))) (hn₀ : n₀ ≤ w.heap.size) (hfr : fr ≤ r.t.length) (hps : ps.size = 2)
    (I : List Nat → World → Prop) (Ix : Code → List Nat → World → Prop) (hI : OwnFrom w.heap.size I) (hIx : ∀ c, OwnFrom w.heap.size (Ix c)) (h0 : I [] w)
    (hassign : ∀ (l x : Nat) (W : World) (K : Act → World → Prop), (∀ a', a' = boxedA a ps #[.int .i64 (x : Int), entV (r.t[x]?.getD dE)] s W.heap.size → K a' (W.alloc (entO (r.t[x]?.getD dE)))) →
      assign.wpIn (Fence.wide.inRound l) (n - 1 - 1) Tryz.prog (Exit.then K (fun _ _ _ => False)) { tmps := (ps.zip #[.int .i64 (x : Int), entV (r.t[x]?.getD dE)]).foldl (fun t (p, v) => t.setIfInBounds p v) a.tmps, defers := [] } W)
    (hbody : ∀ (l : Nat) (pre : List Nat) (x Bx : Nat) (W : World) (a' : Act), a' = boxedA a ps #[.int .i64 (x : Int), entV (r.t[x]?.getD dE)] s Bx → w.heap.size ≤ Bx → W.heap[Bx]? = some (entO (r.t[x]?.getD dE)) → w.heap.size ≤ W.heap.size → I pre W → pre.length < 32 →
      body.wpIn (Fence.wide.inRound l) (n - 1 - 1) Tryz.prog (ownPostG w.heap.size (KpI n₀ B) I Ix (pre ++ [x]) W) a' W)
    (hdone : ∀ (D : Nat) (W : World), w.heap.size ≤ D → I (items r.t fr all r.t.length) W → W.heap[D]? = some (.deferred (some [])) → Q .normal { a with defers := { target := .collected D, args := #[] } :: a.defers } W)
    (hstop : ∀ (D : Nat) (c : Code) (pre : List Nat) (W : World), w.heap.size ≤ D → (∃ k, k ≤ r.t.length ∧ pre = items r.t fr all k) → Ix c pre W → W.heap[D]? = some (.deferred (some [])) → c.wpIn Fence.wide n Tryz.prog Q { a with defers := { target := .collected D, args := #[] } :: a.defers } W) :
    (Code.rangeFunc g ps assign body).wpIn Fence.wide n Tryz.prog Q a w := by
  have hB3 := hT.lt
  refine wpIn_rangeFunc_ownH rfl (by omega) (gf := 49) hg trivial (enters_of Tryz.func49 (by kernel_rfl) rfl) (places_stops (n - 1) (by omega) own n₀ B A h r fr all w hT hbf hn₀ hfr)
    (fun a b => KpI.trans a b) ?_ (Below.refl _ _) (fun _ => hps.symm)
    (fun pre W => I pre W ∧ w.heap.size ≤ W.heap.size) Ix (OwnFrom.and hI (ownFrom_size _ _)) hIx ⟨h0, Nat.le_refl _⟩
    (fun x a' W => ∃ Bx, w.heap.size ≤ Bx ∧ W.heap[Bx]? = some (entO (r.t[x]?.getD dE)) ∧ a' = boxedA a ps #[.int .i64 (x : Int), entV (r.t[x]?.getD dE)] s Bx) ?_ ?_ ?_ ?_ hstop
  · intro W l o o' hl ho hc hw
    have hlt := (Array.getElem?_eq_some_iff.1 ho).1
    refine ⟨belowK_b hn₀ W l o o' hl ho hc hw, fun k _ hk => ?_⟩
    exact World.putObj_heap_other (by omega)
  · intro x a' _ X Y row hs hg' hr
    obtain ⟨Bx, h1, h2, h3⟩ := hs
    refine ⟨Bx, h1, ?_, h3⟩
    have hlt := (Array.getElem?_eq_some_iff.1 h2).1
    refine (hg'.block Bx hlt (fun e => ?_)).trans h2
    obtain ⟨_, o, ho, hc⟩ := hr Bx e.symm
    rw [h2] at ho; cases ho; cases hc
  · rintro l pre x W K ⟨hi, hsz⟩ hK
    refine hassign l x W K (fun a' ha => hK _ _ ((KeepsOthers.alloc _ _).from _) (KpI.below (below_one _ _) (by omega) (by omega)) ⟨hI.alloc _ hi, by simp; omega⟩ ⟨W.heap.size, hsz, World.alloc_heap_new W _, ha⟩)
  · rintro l pre x a' W hl _ ⟨hi, hsz⟩ ⟨Bx, hBx, hbx, rfl⟩ hlt
    refine wpIn_mono (hbody l pre x Bx W _ rfl hBx hbx hsz hi hlt) ?_
    intro e a2 W2 he
    cases e <;> try exact he
    exact ⟨he.1, he.2.1, he.2.2, Nat.le_trans hsz he.2.1.1.size⟩
  · rintro D xs W hD rfl ⟨hi, _⟩ hK
    exact hdone D W hD hi hK

theorem items_head {t : Tbl} {fr : Nat} {all : Bool} {k p : Nat} (h : items t fr all k = [p]) : ∀ m, k ≤ m → (items t fr all m).head? = some p := by
  intro m hm
  induction m with
  | zero => have e : k = 0 := by omega
            rw [← e, h]; rfl
  | succ m ih =>
    by_cases c : k = m + 1
    · subst c; rw [h]; rfl
    · rw [items_succ, List.head?_append, ih (by omega)]; rfl

/-- What holds ahead of Next's only round. -/
def nI (w : World) (k : V) (pre : List Nat) (W : World) : Prop := pre = [] ∧ NV w W k ∧ Below w.heap.size w W
/-- What holds behind it. -/
def nIx (w : World) (t : Tbl) (c : Code) (pre : List Nat) (W : World) : Prop := c = .ret ∧ ∃ p, pre = [p] ∧ VB W (w.heap.size + 1) (t[p]?.getD dE).1 ∧ VB W (w.heap.size + 1 + 1) (t[p]?.getD dE).2 ∧ W.heap[w.heap.size + 1 + 1 + 1]? = some (.cells #[.int .i64 0] 39) ∧ Below w.heap.size w W
theorem cells_kept {X Y : World} {row : Option Nat} {b : Nat} {cs : Array Value} {ty : Nat} (h : X.heap[b]? = some (.cells cs ty)) (hg : X.grownBy Y row) (hr : ∀ r, row = some r → ∃ o : Obj, X.heap[r]? = some o ∧ o.isCells = false) : Y.heap[b]? = some (.cells cs ty) := by
  refine (hg.block b (Array.getElem?_eq_some_iff.1 h).1 (fun e => ?_)).trans h
  obtain ⟨o, ho, hc⟩ := hr b e.symm
  rw [h] at ho; cases ho; cases hc
theorem nI_own {w : World} {k : V} {B : Nat} (hB : w.heap.size ≤ B) : OwnFrom B (nI w k) := fun s X Y row hs hg hr =>
  ⟨hs.1, ⟨cells_kept hs.2.1.k0 hg (fun r e => (hr r e).2), cells_kept hs.2.1.r0 hg (fun r e => (hr r e).2), cells_kept hs.2.1.r1 hg (fun r e => (hr r e).2), cells_kept hs.2.1.e0 hg (fun r e => (hr r e).2)⟩, ownFrom_below (β := Unit) (Nat.le_refl _) hB () X Y row hs.2.2 hg hr⟩
theorem nIx_own {w : World} {t : Tbl} {B : Nat} (hB : w.heap.size ≤ B) (c : Code) : OwnFrom B (nIx w t c) := fun s X Y row hs hg hr => by
  obtain ⟨h0, p, h1, h2, h3, h4, h5⟩ := hs
  exact ⟨h0, p, h1, cells_kept h2 hg (fun r e => (hr r e).2), cells_kept h3 hg (fun r e => (hr r e).2), cells_kept h4 hg (fun r e => (hr r e).2), ownFrom_below (β := Unit) (Nat.le_refl _) hB () X Y row h5 hg hr⟩
/-- The world at the loop's start. -/
theorem loopAt {own : Nat → Nat} {w w1 W0 : World} {A i : Nat} {r : TabR} {P : World → Prop} (hA : TabAt own w A i r) (hB : Below w.heap.size w w1) (lA : A < w.heap.size) (hP : ∀ {W}, Below w1.heap.size w1 W → P W) (fr : Nat) (all : Bool)
    (hW : ((w1.alloc (.cells #[.pointer (some ⟨A, i * 6, none⟩)] 119)).alloc (.cells #[.int .i64 (fr : Int)] 3)).alloc (.cells #[.bool all] 4) = W0) :
    W0.heap.size = w1.heap.size + 3 ∧ P W0 ∧ Below w.heap.size w W0 ∧ ItAt own W0 w.heap.size w1.heap.size A i r all ∧ W0.cell? ⟨w1.heap.size + 1, 0, none⟩ = some (.int .i64 (fr : Int)) := by
  have hb3 : Below w1.heap.size w1 W0 := by
    rw [← hW]; exact below_two (below_two (below_one _ _) (below_one _ _)) (below_one _ _)
  have hb := below_two hB hb3
  have e0 : W0.heap[w1.heap.size]? = some (.cells #[.pointer (some ⟨A, i * 6, none⟩)] 119) := by
    have c0 := World.alloc_heap_new w1 (.cells #[.pointer (some ⟨A, i * 6, none⟩)] 119)
    rw [← hW]; exact ((Below.heap_alloc _ _ _ (by simp; omega)).trans (Below.heap_alloc _ _ _ (by simp))).trans c0
  have e1 : W0.heap[w1.heap.size + 1]? = some (.cells #[.int .i64 (fr : Int)] 3) := by
    have c0 := World.alloc_heap_new (w1.alloc (.cells #[.pointer (some ⟨A, i * 6, none⟩)] 119)) (.cells #[.int .i64 (fr : Int)] 3)
    rw [World.size_alloc] at c0
    rw [← hW]; exact (Below.heap_alloc _ _ _ (by simp)).trans c0
  have e2 : W0.heap[w1.heap.size + 1 + 1]? = some (.cells #[.bool all] 4) := by
    have c0 := World.alloc_heap_new ((w1.alloc (.cells #[.pointer (some ⟨A, i * 6, none⟩)] 119)).alloc (.cells #[.int .i64 (fr : Int)] 3)) (.cells #[.bool all] 4)
    rw [World.size_alloc, World.size_alloc] at c0
    rw [← hW]; exact c0
  have hs : W0.heap.size = w1.heap.size + 3 := by rw [← hW]; simp
  refine ⟨hs, hP hb3, hb, ⟨hA.below hb, lA, ?_, ?_, ?_, by omega⟩, ?_⟩
  · intro g hg; exact ownsRow_lt hA.rep.ord g hg
  · simp [World.cell?, e0]
  · simp [World.cell?, e2]
  · simp [World.cell?, e1]

theorem set3_other {W : World} {b c : Nat} {o : Obj} (h : W.heap[c]? = some o) (hbc : b ≠ c) (x y z : Value) : (((W.setCell ⟨b, 0, none⟩ x).setCell ⟨b, 1, none⟩ y).setCell ⟨b, 2, none⟩ z).heap[c]? = some o := by
  rw [Below.heap_setCell _ _ _ _ (by exact hbc.symm), Below.heap_setCell _ _ _ _ (by exact hbc.symm), Below.heap_setCell _ _ _ _ (by exact hbc.symm), h]
theorem set3_below {w W : World} {n b : Nat} (h : Below n w W) (hb : n ≤ b) (x y z : Value) : Below n w (((W.setCell ⟨b, 0, none⟩ x).setCell ⟨b, 1, none⟩ y).setCell ⟨b, 2, none⟩ z) := ((h.setCell (p := ⟨b, 0, none⟩) hb _).setCell (p := ⟨b, 1, none⟩) hb _).setCell (p := ⟨b, 2, none⟩) hb _
theorem nCore {w W : World} {k : V} {kT vT : Int} {kN vN : Nat} {kS vS : List UInt8} (hnv : NV w W k) (hb : Below w.heap.size w W) (Z : World)
    (hW : (((((((W.setCell ⟨w.heap.size + 1, 0, none⟩ (.int .i64 kT)).setCell ⟨w.heap.size + 1, 1, none⟩ (.int .u64 kN)).setCell ⟨w.heap.size + 1, 2, none⟩ (.string ⟨kS.toArray⟩)).setCell ⟨w.heap.size + 1 + 1, 0, none⟩ (.int .i64 vT)).setCell ⟨w.heap.size + 1 + 1, 1, none⟩ (.int .u64 vN)).setCell ⟨w.heap.size + 1 + 1, 2, none⟩ (.string ⟨vS.toArray⟩)).setCell ⟨w.heap.size + 1 + 1 + 1, 0, none⟩ (.int .i64 0)) = Z) :
    KeepsOthers W Z ∧ VB Z (w.heap.size + 1) ⟨kT, kN, kS⟩ ∧ VB Z (w.heap.size + 1 + 1) ⟨vT, vN, vS⟩ ∧ Z.heap[w.heap.size + 1 + 1 + 1]? = some (.cells #[.int .i64 0] 39) ∧ Below w.heap.size w Z := by
  have a1 := hnv.r0.all kT kN kS
  have b1 : VB _ (w.heap.size + 1 + 1) nilV := set3_other (b := w.heap.size + 1) hnv.r1 (by omega) (.int .i64 kT) (.int .u64 kN) (.string ⟨kS.toArray⟩)
  have c1 := set3_other (b := w.heap.size + 1) hnv.e0 (by omega) (.int .i64 kT) (.int .u64 kN) (.string ⟨kS.toArray⟩)
  have d1 := set3_below (b := w.heap.size + 1) hb (by omega) (.int .i64 kT) (.int .u64 kN) (.string ⟨kS.toArray⟩)
  have e1 := ((KeepsOthers.setCell W ⟨w.heap.size + 1, 0, none⟩ (.int .i64 kT)).trans (KeepsOthers.setCell _ ⟨w.heap.size + 1, 1, none⟩ (.int .u64 kN))).trans (KeepsOthers.setCell _ ⟨w.heap.size + 1, 2, none⟩ (.string ⟨kS.toArray⟩))
  generalize ((W.setCell ⟨w.heap.size + 1, 0, none⟩ (.int .i64 kT)).setCell ⟨w.heap.size + 1, 1, none⟩ (.int .u64 kN)).setCell ⟨w.heap.size + 1, 2, none⟩ (.string ⟨kS.toArray⟩) = X at *
  have a2 : VB _ (w.heap.size + 1) _ := set3_other (b := w.heap.size + 1 + 1) a1 (by omega) (.int .i64 vT) (.int .u64 vN) (.string ⟨vS.toArray⟩)
  have b2 := b1.all vT vN vS
  have c2 := set3_other (b := w.heap.size + 1 + 1) c1 (by omega) (.int .i64 vT) (.int .u64 vN) (.string ⟨vS.toArray⟩)
  have d2 := set3_below (b := w.heap.size + 1 + 1) d1 (by omega) (.int .i64 vT) (.int .u64 vN) (.string ⟨vS.toArray⟩)
  have e2 := ((e1.trans (KeepsOthers.setCell X ⟨w.heap.size + 1 + 1, 0, none⟩ (.int .i64 vT))).trans (KeepsOthers.setCell _ ⟨w.heap.size + 1 + 1, 1, none⟩ (.int .u64 vN))).trans (KeepsOthers.setCell _ ⟨w.heap.size + 1 + 1, 2, none⟩ (.string ⟨vS.toArray⟩))
  generalize ((X.setCell ⟨w.heap.size + 1 + 1, 0, none⟩ (.int .i64 vT)).setCell ⟨w.heap.size + 1 + 1, 1, none⟩ (.int .u64 vN)).setCell ⟨w.heap.size + 1 + 1, 2, none⟩ (.string ⟨vS.toArray⟩) = Y at *
  have a3 := a2.set (p := ⟨w.heap.size + 1 + 1 + 1, 0, none⟩) (by dsimp only; omega) (.int .i64 0)
  have b3 := b2.set (p := ⟨w.heap.size + 1 + 1 + 1, 0, none⟩) (by dsimp only; omega) (.int .i64 0)
  have c3 := heap_setCell_same c2 (i := 0) (.int .i64 0)
  have d3 := d2.setCell (p := ⟨w.heap.size + 1 + 1 + 1, 0, none⟩) (by dsimp only; omega) (.int .i64 0)
  have e3 := e2.trans (KeepsOthers.setCell Y ⟨w.heap.size + 1 + 1 + 1, 0, none⟩ (.int .i64 0))
  rw [hW] at a3 b3 c3 d3 e3
  exact ⟨e3, a3, b3, c3, d3⟩
theorem nRound {w W : World} {k : V} {t : Tbl} {x B : Nat} {kT vT : Int} {kN vN : Nat} {kS vS : List UInt8} (hev : ((⟨kT, kN, kS⟩ : V), (⟨vT, vN, vS⟩ : V)) = t[x]?.getD dE) (hnv : NV w W k) (hb : Below w.heap.size w W) (W' : World)
    (hW : (((((((W.setCell ⟨w.heap.size + 1, 0, none⟩ (.int .i64 kT)).setCell ⟨w.heap.size + 1, 1, none⟩ (.int .u64 kN)).setCell ⟨w.heap.size + 1, 2, none⟩ (.string ⟨kS.toArray⟩)).setCell ⟨w.heap.size + 1 + 1, 0, none⟩ (.int .i64 vT)).setCell ⟨w.heap.size + 1 + 1, 1, none⟩ (.int .u64 vN)).setCell ⟨w.heap.size + 1 + 1, 2, none⟩ (.string ⟨vS.toArray⟩)).setCell ⟨w.heap.size + 1 + 1 + 1, 0, none⟩ (.int .i64 0)).drew = W') :
    KeepsFrom B W W' ∧ nIx w t .ret [x] W' := by
  obtain ⟨Z, hZ⟩ : ∃ Z, (((((((W.setCell ⟨w.heap.size + 1, 0, none⟩ (.int .i64 kT)).setCell ⟨w.heap.size + 1, 1, none⟩ (.int .u64 kN)).setCell ⟨w.heap.size + 1, 2, none⟩ (.string ⟨kS.toArray⟩)).setCell ⟨w.heap.size + 1 + 1, 0, none⟩ (.int .i64 vT)).setCell ⟨w.heap.size + 1 + 1, 1, none⟩ (.int .u64 vN)).setCell ⟨w.heap.size + 1 + 1, 2, none⟩ (.string ⟨vS.toArray⟩)).setCell ⟨w.heap.size + 1 + 1 + 1, 0, none⟩ (.int .i64 0)) = Z := ⟨_, rfl⟩
  rw [hZ] at hW
  obtain ⟨e3, a3, b3, c3, d3⟩ := nCore hnv hb Z hZ
  clear hZ
  subst hW
  exact ⟨(e3.trans (KeepsOthers.drew _)).from _, rfl, x, rfl, by rw [← hev]; exact a3, by rw [← hev]; exact b3, c3, d3.drew⟩
/-- Behind the loop, at the return: the block for deferred calls is taken. -/
theorem nTaken {w W : World} {D : Nat} {k v : V} (hD : w.heap.size ≤ D) (hK : W.heap[D]? = some (.deferred (some []))) (h0 : VB W (w.heap.size + 1) k) (h1 : VB W (w.heap.size + 1 + 1) v) (h2 : W.heap[w.heap.size + 1 + 1 + 1]? = some (.cells #[.int .i64 0] 39)) (hb : Below w.heap.size w W) :
    VB (W.putObj D (.deferred none)) (w.heap.size + 1) k ∧ VB (W.putObj D (.deferred none)) (w.heap.size + 1 + 1) v ∧ (W.putObj D (.deferred none)).heap[w.heap.size + 1 + 1 + 1]? = some (.cells #[.int .i64 0] 39) ∧ Below w.heap.size w (W.putObj D (.deferred none)) := by
  have hr : ∀ r, some D = some r → ∃ o : Obj, W.heap[r]? = some o ∧ o.isCells = false := fun r e => by cases e; exact ⟨_, hK, rfl⟩
  have hg := grownBy_putObj' W D (.deferred none)
  exact ⟨cells_kept h0 hg hr, cells_kept h1 hg hr, cells_kept h2 hg hr, hb.trans (belowK_b (w := w) (Nat.le_refl _) W D _ _ hD hK rfl rfl)⟩

/-- What the three result cells read. -/
theorem nRes {W : World} {n : Nat} {tm : Array Value} {k v : V} (ht : (tm[6]?, tm[7]?, tm[8]?) = (some (.pointer (some ⟨n + 1, 0, none⟩)), some (.pointer (some ⟨n + 1 + 1, 0, none⟩)), some (.pointer (some ⟨n + 1 + 1 + 1, 0, none⟩))))
    (h0 : VB W (n + 1) k) (h1 : VB W (n + 1 + 1) v) (h2 : W.heap[n + 1 + 1 + 1]? = some (.cells #[.int .i64 0] 39)) :
    (results Tryz.f115 tm).run Tryz.prog W = .ok (.tuple #[valV k, valV v, .int .i64 0]) W := by
  obtain ⟨q0, q1, q2, _⟩ := h0.cells
  obtain ⟨q3, q4, q5, _⟩ := h1.cells
  have q6 : W.cell? ⟨n + 1 + 1 + 1, 0, none⟩ = some (.int .i64 0) := by simp only [World.cell?, h2]; rfl
  simp only [Prod.mk.injEq] at ht
  obtain ⟨t6, t7, t8⟩ := ht
  simp [results, go_sem, t6, t7, t8, q0, q1, q2, q3, q4, q5, q6]
  exact ⟨rfl, rfl⟩

set_option maxRecDepth 100000 in
set_option maxHeartbeats 4000000 in
theorem next_nil (own : Nat → Nat) (x : Nat) (reps : List TabR) (count i : Nat) (k : V) (w : World) (H : RealAt own w x reps count) (hk : k.Ok) (hi : i < count) (hwk : wfB k = true) (hT : k.T = 0) :
    CallsIn Fence.wide 3 Tryz.prog 115 #[.pointer (some ⟨x, 0, none⟩), .int .i64 (i : Int), valV k] w fun e w' => e = .returned (.tuple #[valV (nextP (stOf reps count) i k).1, valV (nextP (stOf reps count) i k).2.1, .int .i64 (nextP (stOf reps count) i k).2.2]) ∧ Below w.heap.size w w' := by
  obtain ⟨nb, vt, ht, hrow, hvc⟩ := H.tabs
  have hcl : count ≤ 12 := by have := H.cnt; have := H.max; omega
  have hsl := stOf_len H.cnt
  obtain ⟨r, hr2, hst⟩ := stOf_at H.cnt hi
  have hrl : count ≤ reps.length := H.cnt
  obtain ⟨hrep, hcls⟩ := H.rep i r hr2
  obtain ⟨A, cap, rfl, hta⟩ := tabAt_of hrow hr2 hrep
  have HW := fun w => wf_any k w hk
  rw [hwk] at HW
  have hX := ht.below (nW_below w k)
  obtain ⟨x0, x1, x2, _, _⟩ := hX
  have HNV : Hid (NV w (nW w k) k) := NV.new w k
  have HX : Hid (TabsAt w x (.pointer (some ⟨nb, 0, none⟩)) (.slice (some ⟨A, 0, none⟩) reps.length cap) count) := ht
  have HA : Hid (TabAt own w A i r) := hta
  have lA := hta.lt
  obtain ⟨T, N, S⟩ := k
  simp only [valV_mk] at *
  subst hT
  have HVn : (items r.t 0 false r.t.length).head? = none → nextP (stOf reps count) (i : Int) ⟨0, N, S⟩ = (nilV, nilV, 0) := by
    intro hh
    unfold nextP
    rw [hsl, if_neg (by omega), hwk, if_neg (by simp), if_neg (by simp), if_pos rfl, Int.toNat_natCast, hst]
    show (match (items r.t 0 false r.t.length).head? with | some p => _ | none => _) = _
    rw [hh]
  have HVs : ∀ p, (items r.t 0 false r.t.length).head? = some p → nextP (stOf reps count) (i : Int) ⟨0, N, S⟩ = ((r.t[p]?.getD dE).1, (r.t[p]?.getD dE).2, 0) := by
    intro p hh
    unfold nextP
    rw [hsl, if_neg (by omega), hwk, if_neg (by simp), if_neg (by simp), if_pos rfl, Int.toNat_natCast, hst]
    show (match (items r.t 0 false r.t.length).head? with | some p => _ | none => _) = _
    rw [hh]
    rfl
  have d1 : decide ((i : Int) < 0) = false := decide_eq_false (by omega)
  have d2 : decide ((count : Int) ≤ (i : Int)) = false := decide_eq_false (by omega)
  have d3 : decide (count ≤ i) = false := decide_eq_false (by omega)
  clear hrow hvc ht hrep hcls hta hwk hk H
  generalize reps.length = rl at *
  refine callsIn_of_wp_marks Tryz.func115 rfl trivial ?_ rfl
  simp only [Tryz.ntmps115, List.size_toArray, List.length_cons, List.length_nil, Nat.reduceAdd, Nat.reduceSub, Array.replicate_succ, Array.replicate_zero, List.push_toArray, List.append_toArray, List.nil_append, List.cons_append]
  gi_wp2
  refine ⟨trivial, ?_⟩
  refine (callsIn_wide.2 (HW _)).mono ?_
  rintro e w1 ⟨rfl, hb⟩
  have hB := below_two (nW_below w ⟨0, N, S⟩) hb
  have HB : Hid (Below w.heap.size w w1) := hB
  have HNV1 : Hid (NV w w1 ⟨0, N, S⟩) := HNV.out.below hb
  obtain ⟨x0, x1, x2, _, _⟩ := HX.out.below hB
  obtain ⟨k0, k1, k2, _⟩ := HNV1.out.k0.cells
  simp only at k0 k1 k2
  clear hb hB
  gi_wp2
  refine ⟨trivial, ?_⟩
  refine (callsIn_wide.2 (places_any A i 0 false _)).mono ?_
  rintro e w2 ⟨rfl, rfl⟩
  gi_wp2
  obtain ⟨W0, hW0⟩ : ∃ W0, ((w1.alloc (.cells #[.pointer (some ⟨A, i * 6, none⟩)] 119)).alloc (.cells #[.int .i64 0] 3)).alloc (.cells #[.bool false] 4) = W0 := ⟨_, rfl⟩
  have HL := loopAt HA.out HB.out lA (NV.below HNV1.out) 0 false hW0
  rw [hW0]
  clear hW0
  obtain ⟨hsz, hnv, hbw, hit, hbf⟩ := HL
  have hs1 := HB.out.size
  have hs4 := hnv.lt
  refine wpIn_places 3 (by omega) own w.heap.size w1.heap.size A i r 0 false 14 rfl hit hbf (by omega) (by omega) rfl (nI w ⟨0, N, S⟩) (nIx w r.t) (nI_own (by omega)) (nIx_own (by omega)) ⟨rfl, hnv, hbw⟩ ?assign ?body ?done ?stop
  case assign =>
    intro l x W K hK
    obtain ⟨ev, hev⟩ : ∃ ev, ev = r.t[x]?.getD dE := ⟨_, rfl⟩
    rw [← hev] at hK ⊢
    obtain ⟨⟨kT, kN, kS⟩, ⟨vT, vN, vS⟩⟩ := ev
    simp only [entV] at hK ⊢
    have HK : Hid (∀ a', _ → K a' _) := hK
    clear hK
    gi_wp2
    exact HK.out _ (by simp [boxedA])
  case body =>
    rintro l pre x Bx W a' ha hBx hbx hW ⟨rfl, hnv, hbw⟩ _
    obtain ⟨ev, hev⟩ : ∃ ev, ev = r.t[x]?.getD dE := ⟨_, rfl⟩
    rw [← hev] at ha hbx
    obtain ⟨⟨kT, kN, kS⟩, ⟨vT, vN, vS⟩⟩ := ev
    simp [boxedA, entV] at ha
    subst ha
    obtain ⟨⟨d0, d1, d2, z0, z1, z2⟩, ⟨d3, d4, d5, z3, z4, z5⟩, d6, z6⟩ := hnv.cells
    obtain ⟨b0, b1, b2, b3, b4, b5⟩ : W.cell? ⟨Bx, 0, none⟩ = some (.int .i64 kT) ∧ W.cell? ⟨Bx, 1, none⟩ = some (.int .u64 kN) ∧ W.cell? ⟨Bx, 2, none⟩ = some (.string ⟨kS.toArray⟩) ∧ W.cell? ⟨Bx, 3, none⟩ = some (.int .i64 vT) ∧ W.cell? ⟨Bx, 4, none⟩ = some (.int .u64 vN) ∧ W.cell? ⟨Bx, 5, none⟩ = some (.string ⟨vS.toArray⟩) := by
      simp [World.cell?, hbx]
    have n1 : ¬ Bx = w.heap.size + 1 := by omega
    have n2 : ¬ Bx = w.heap.size + 1 + 1 := by omega
    have n3 : ¬ Bx = w.heap.size + 1 + 1 + 1 := by omega
    have HR := fun W' => @nRound w W _ r.t x W0.heap.size kT vT kN vN kS vS hev hnv hbw W'
    clear hbx hev hit hbf HB HA HX HNV HNV1 HW hsz hnv hbw
    gi_wp2
    gi_region
    all_goals gi_wp2
    all_goals exact HR _ rfl
  case done =>
    rintro D W hD ⟨hit0, hnv, hbw⟩ hK
    obtain ⟨⟨d0, d1, d2, z0, z1, z2⟩, ⟨d3, d4, d5, z3, z4, z5⟩, d6, z6⟩ := hnv.cells
    have HN : Hid (NV w W _ ∧ Below w.heap.size w W) := ⟨hnv, hbw⟩
    clear hit hbf HB HA HX HNV HNV1 HW hsz hnv hbw
    gi_wp2
    have hit1 : (items r.t 0 false r.t.length).head? = none := by rw [hit0]; rfl
    obtain ⟨e3, a3, b3, c3, b4⟩ := nCore (kT := 0) (vT := 0) (kN := 0) (vN := 0) (kS := []) (vS := []) HN.out.1 HN.out.2 _ rfl
    have hK := e3.same D _ hK rfl
    have hD : w.heap.size ≤ D := by omega
    refine ⟨by simp, .inl ⟨_, _, rfl, run_takeDeferred hK, ?_⟩⟩
    obtain ⟨a5, b5, c5, b6⟩ := nTaken hD hK a3 b3 c3 b4
    refine ⟨_, nRes rfl a5 b5 c5, ret_vvi (by rw [HVn hit1]; rfl) (by rw [HVn hit1]; rfl) (by rw [HVn hit1]), b6⟩
  case stop =>
    rintro D c pre W hD ⟨k, hk, rfl⟩ ⟨rfl, p, hp, q0, q1, q2, hb⟩ hK
    have HN : Hid (Below w.heap.size w W) := hb
    obtain ⟨d0, d1, d2, z0, z1, z2⟩ := q0.cells
    obtain ⟨d3, d4, d5, z3, z4, z5⟩ := q1.cells
    have d6 : W.cell? ⟨w.heap.size + 1 + 1 + 1, 0, none⟩ = some (.int .i64 0) := by simp [World.cell?, q2]
    clear hit hbf HB HA HX HNV HNV1 HW hsz hnv hbw hb
    gi_wp2
    have hD : w.heap.size ≤ D := by omega
    refine ⟨by simp, .inl ⟨_, _, rfl, run_takeDeferred hK, ?_⟩⟩
    obtain ⟨a5, b5, c5, b6⟩ := nTaken hD hK q0 q1 q2 HN.out
    have hh := items_head hp _ hk
    refine ⟨_, nRes rfl a5 b5 c5, ret_vvi (by rw [HVs p hh]) (by rw [HVs p hh]) (by rw [HVs p hh]), b6⟩
end Go.Proofs.Qxb6500293aGreatRR

