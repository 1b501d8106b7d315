/-
  THE LAW: Keeps 3.
-/
import Derived.Test.Qxb6500293aGreatRRG8
namespace Go.Proofs.Qxb6500293aGreatRR
open Go.RowKit
open Ieee (double)
set_option linter.unusedVariables false
set_option linter.unusedSimpArgs false

/-- Two machines side by side; B: the law's own boxes. -/
structure KS (W0 : World) (mx ax nbx tpx my ay nby tpy : Nat) (B : List (Nat × Obj)) (M My : Mc) (w : World) : Prop where
  ex : ∃ ox oy, Vm ox w mx ax nbx tpx M ∧ Vm oy w my ay nby tpy My ∧ (∀ k, ox k ≠ 0 → oy k = 0) ∧ (∀ k, k < W0.heap.size → ox k = 0 ∧ oy k = 0) ∧ Below W0.heap.size W0 w ∧ ∀ b ∈ B, w.heap[b.1]? = some b.2 ∧ ox b.1 = 0 ∧ oy b.1 = 0 ∧ W0.heap.size ≤ b.1
section
variable {W0 w w' : World} {mx ax nbx tpx my ay nby tpy : Nat} {B : List (Nat × Obj)} {M My : Mc}
theorem KS.below (h : KS W0 mx ax nbx tpx my ay nby tpy B M My w) (hb : Below w.heap.size w w') : KS W0 mx ax nbx tpx my ay nby tpy B M My w' := by
  obtain ⟨ox, oy, h1, h2, h3, h4, h5, h6⟩ := h.ex
  refine ⟨ox, oy, h1.below hb, h2.below hb, h3, h4, below_two h5 hb, fun b hB => ?_⟩
  obtain ⟨g1, g2⟩ := h6 b hB
  exact ⟨(hb.block _ (heap_lt g1)).trans g1, g2⟩
theorem KS.alloc (h : KS W0 mx ax nbx tpx my ay nby tpy B M My w) (o : Obj) {n : Nat} (hn : w.heap.size = n) : KS W0 mx ax nbx tpx my ay nby tpy ((n, o) :: B) M My (w.alloc o) := by
  subst hn
  have g := h.below (below_one w o)
  obtain ⟨ox, oy, h1, h2, h3, h4, h5, h6⟩ := h.ex
  refine ⟨ox, oy, h1.below (below_one w o), h2.below (below_one w o), h3, h4, below_two h5 (below_one w o), fun b hB => ?_⟩
  rcases List.mem_cons.1 hB with rfl | hB
  · exact ⟨World.alloc_heap_new _ _, h1.far (Nat.le_refl _), h2.far (Nat.le_refl _), h5.size⟩
  · obtain ⟨g1, g2⟩ := h6 b hB
    exact ⟨((below_one w o).block _ (heap_lt g1)).trans g1, g2⟩
theorem KS.box (h : KS W0 mx ax nbx tpx my ay nby tpy B M My w) {b : Nat} {o : Obj} (hb : (b, o) ∈ B) : w.heap[b]? = some o ∧ b < w.heap.size := by
  obtain ⟨ox, oy, h1, h2, h3, h4, h5, h6⟩ := h.ex
  exact ⟨(h6 _ hb).1, heap_lt (h6 _ hb).1⟩
theorem KS.sub (h : KS W0 mx ax nbx tpx my ay nby tpy B M My w) {B' : List (Nat × Obj)} (hB : ∀ b ∈ B', b ∈ B) : KS W0 mx ax nbx tpx my ay nby tpy B' M My w := by
  obtain ⟨ox, oy, h1, h2, h3, h4, h5, h6⟩ := h.ex
  exact ⟨ox, oy, h1, h2, h3, h4, h5, fun b hb => h6 b (hB b hb)⟩
theorem KS.vx (h : KS W0 mx ax nbx tpx my ay nby tpy B M My w) : ∃ ox, Vm ox w mx ax nbx tpx M ∧ ∀ M2 w2, Nx ox w mx ax nbx tpx M2 w2 → KS W0 mx ax nbx tpx my ay nby tpy B M2 My w2 := by
  obtain ⟨ox, oy, h1, h2, h3, h4, h5, h6⟩ := h.ex
  refine ⟨ox, h1, ?_⟩
  rintro M2 w2 ⟨o2, g1, g2, g3⟩
  have hs := h5.size
  refine ⟨o2, oy, g2, h2.kept g3.size (fun k hk e => g3.block k hk (Classical.byContradiction fun c => e (h3 k c))) (fun _ _ => rfl) (fun k hk => h2.far (Nat.le_trans g3.size hk)), fun k e => ?_, fun k hk => ⟨(g1 k (by omega)).trans (h4 k hk).1, (h4 k hk).2⟩, ?_, fun b hB => ?_⟩
  · by_cases c : k < w.heap.size
    · exact h3 k (by rw [g1 k c] at e; exact e)
    · exact h2.far (by omega)
  · exact ⟨g3.os.trans h5.os, g3.tape.trans h5.tape, g3.output.trans h5.output, Nat.le_trans h5.size g3.size, fun j hj => (g3.block j (by omega) (h4 j hj).1).trans (h5.block j hj)⟩
  · obtain ⟨q1, q2, q3, q4⟩ := h6 b hB
    exact ⟨(g3.block _ (heap_lt q1) q2).trans q1, (g1 _ (heap_lt q1)).trans q2, q3, q4⟩
theorem KS.swap (h : KS W0 mx ax nbx tpx my ay nby tpy B M My w) : KS W0 my ay nby tpy mx ax nbx tpx B My M w := by
  obtain ⟨ox, oy, h1, h2, h3, h4, h5, h6⟩ := h.ex
  exact ⟨oy, ox, h2, h1, fun k e => Classical.byContradiction fun c => e (h3 k c), fun k hk => ⟨(h4 k hk).2, (h4 k hk).1⟩, h5, fun b hB => ⟨(h6 b hB).1, (h6 b hB).2.2.1, (h6 b hB).2.1, (h6 b hB).2.2.2⟩⟩
theorem KS.vy (h : KS W0 mx ax nbx tpx my ay nby tpy B M My w) : ∃ oy, Vm oy w my ay nby tpy My ∧ ∀ M2 w2, Nx oy w my ay nby tpy M2 w2 → KS W0 mx ax nbx tpx my ay nby tpy B M M2 w2 := by
  obtain ⟨oy, h1, h2⟩ := h.swap.vx
  exact ⟨oy, h1, fun M2 w2 g => (h2 M2 w2 g).swap⟩
theorem KS.fresh (h : KS W0 mx ax nbx tpx my ay nby tpy B M My w) {own : Nat → Nat} {m a nb tp : Nat} (hv : Vm own w' m a nb tp mt) (ho : ∀ k, k < w.heap.size → own k = 0) (hb : Below w.heap.size w w') : KS W0 mx ax nbx tpx m a nb tp B M mt w' := by
  have g := h.below hb
  obtain ⟨ox, oy, h1, h2, h3, h4, h5, h6⟩ := h.ex
  have hs := h5.size
  refine ⟨ox, own, h1.below hb, hv, fun k e => ?_, fun k hk => ⟨(h4 k hk).1, ho k (by omega)⟩, below_two h5 hb, fun b hB => ?_⟩
  · by_cases c : k < w.heap.size
    · exact ho k c
    · exact absurd (h1.far (by omega)) e
  · obtain ⟨q1, q2, q3, q4⟩ := h6 b hB
    exact ⟨(hb.block _ (heap_lt q1)).trans q1, q2, ho _ (heap_lt q1), q4⟩
/-- A box is written. -/
theorem KS.put (h : KS W0 mx ax nbx tpx my ay nby tpy B M My w) {b : Nat} {o o' : Obj} (hb : (b, o) ∈ B) (hs : Stp b w w') (ho : w'.heap[b]? = some o') (B' : List (Nat × Obj)) (hB : ∀ p ∈ B', p = (b, o') ∨ (p ∈ B ∧ p.1 ≠ b)) : KS W0 mx ax nbx tpx my ay nby tpy B' M My w' := by
  obtain ⟨ox, oy, h1, h2, h3, h4, h5, h6⟩ := h.ex
  obtain ⟨q1, q2, q3, q4⟩ : w.heap[b]? = some o ∧ ox b = 0 ∧ oy b = 0 ∧ W0.heap.size ≤ b := h6 _ hb
  have hz := h5.size
  refine ⟨ox, oy, h1.kept hs.size (fun k hk e => hs.block k hk (by rintro rfl; exact e q2)) (fun _ _ => rfl) (fun k hk => h1.far (Nat.le_trans hs.size hk)), h2.kept hs.size (fun k hk e => hs.block k hk (by rintro rfl; exact e q3)) (fun _ _ => rfl) (fun k hk => h2.far (Nat.le_trans hs.size hk)), h3, h4, ⟨hs.os.trans h5.os, hs.tape.trans h5.tape, hs.output.trans h5.output, Nat.le_trans h5.size hs.size, fun j hj => (hs.block j (by omega) (by omega)).trans (h5.block j hj)⟩, ?_⟩
  intro p hp
  rcases hB p hp with rfl | ⟨g1, g2⟩
  · exact ⟨ho, q2, q3, q4⟩
  · obtain ⟨k1, k2⟩ := h6 p g1
    exact ⟨(hs.block _ (heap_lt k1) g2).trans k1, k2⟩
theorem set3b {b : Nat} {x0 x1 x2 : Value} {ty : TypeId} (h : w.heap[b]? = some (.cells #[x0, x1, x2] ty)) (y0 y1 y2 : Value) : (((w.setCell ⟨b, 0, none⟩ y0).setCell ⟨b, 1, none⟩ y1).setCell ⟨b, 2, none⟩ y2).heap[b]? = some (.cells #[y0, y1, y2] ty) := by
  simp [World.setCell, Array.getElem?_modify, h]
theorem set6b {b : Nat} {x0 x1 x2 x3 x4 x5 : Value} {ty : TypeId} (h : w.heap[b]? = some (.cells #[x0, x1, x2, x3, x4, x5] ty)) (y0 y1 y2 y3 y4 y5 : Value) : ((((((w.setCell ⟨b, 0, none⟩ y0).setCell ⟨b, 1, none⟩ y1).setCell ⟨b, 2, none⟩ y2).setCell ⟨b, 3, none⟩ y3).setCell ⟨b, 4, none⟩ y4).setCell ⟨b, 5, none⟩ y5).heap[b]? = some (.cells #[y0, y1, y2, y3, y4, y5] ty) := by
  simp [World.setCell, Array.getElem?_modify, h]
theorem stp3 (w : World) (b : Nat) (y0 y1 y2 : Value) : Stp b w (((w.setCell ⟨b, 0, none⟩ y0).setCell ⟨b, 1, none⟩ y1).setCell ⟨b, 2, none⟩ y2) := (((Stp.refl b w).setCell (.inl rfl) y0).setCell (.inl rfl) y1).setCell (.inl rfl) y2
theorem stp6 (w : World) (b : Nat) (y0 y1 y2 y3 y4 y5 : Value) : Stp b w ((((((w.setCell ⟨b, 0, none⟩ y0).setCell ⟨b, 1, none⟩ y1).setCell ⟨b, 2, none⟩ y2).setCell ⟨b, 3, none⟩ y3).setCell ⟨b, 4, none⟩ y4).setCell ⟨b, 5, none⟩ y5) := ((((((Stp.refl b w).setCell (.inl rfl) y0).setCell (.inl rfl) y1).setCell (.inl rfl) y2).setCell (.inl rfl) y3).setCell (.inl rfl) y4).setCell (.inl rfl) y5
end
/-- The head of a round. -/
def KL (W0 : World) (X Y R : Nat) (w : World) : Prop := ∃ mx ax nbx tpx my ay nby tpy M r1 r2, Rest M ∧ V.Ok r1 ∧ V.Ok r2 ∧ KS W0 mx ax nbx tpx my ay nby tpy [(X, sO mx nbx tpx), (Y, sO my nby tpy), (R, rO r1 r2)] M M w
theorem turn_ok {r1 r2 : V} (h1 : r1.Ok) (h2 : r2.Ok) {K A B : Int} {S : List UInt8} (hA : I64 A) (hS : S.length ≤ 9223372036854775807) : (turnP r1 r2 K A B S).1.Ok ∧ (turnP r1 r2 K A B S).2.Ok := by
  unfold turnP
  constructor
  · show (if K = 1 then _ else _ : V).Ok
    split
    · exact valOf_ok hA hS
    · exact h1
  · show (if K = 2 then _ else _ : V).Ok
    split
    · exact valOf_ok hA hS
    · exact h2
theorem heldP_new (M M2 : Mc) (x y : V) {K : Int} (A : Int) (S : List UInt8) (h : K = 3 ∨ K = 12) : heldP M x y K A S = heldP M2 x y K A S := by
  rcases h with rfl | rfl
  · rfl
  · rfl

section
variable {W0 w w' : World} {mx ax nbx tpx my ay nby tpy : Nat} {B : List (Nat × Obj)} {M My : Mc}
theorem KS.bel (h : KS W0 mx ax nbx tpx my ay nby tpy B M My w) : Below W0.heap.size W0 w := by
  obtain ⟨ox, oy, h1, h2, h3, h4, h5, h6⟩ := h.ex
  exact h5
theorem KS.start {w1 w2 : World} {ox oy : Nat → Nat} {o : Obj} (hx : Vm ox w1 mx ax nbx tpx mt) (hox : ∀ k, k < W0.heap.size → ox k = 0) (hb1 : Below W0.heap.size W0 w1) (hy : Vm oy w2 my ay nby tpy mt) (hoy : ∀ k, k < (w1.alloc o).heap.size → oy k = 0) (hb2 : Below (w1.alloc o).heap.size (w1.alloc o) w2) : KS W0 mx ax nbx tpx my ay nby tpy [(w1.heap.size, o)] mt mt w2 := by
  have hz := hb1.size
  have hz2 : (w1.alloc o).heap.size = w1.heap.size + 1 := World.size_alloc _ _
  refine ⟨ox, oy, (hx.below (below_one _ o)).below hb2, hy, fun k e => ?_, fun k hk => ⟨hox k hk, hoy k (by omega)⟩, below_two (below_two hb1 (below_one _ o)) hb2, fun b hB => ?_⟩
  · by_cases c : k < w1.heap.size
    · exact hoy k (by omega)
    · exact absurd (hx.far (by omega)) e
  · rw [List.mem_singleton] at hB
    subst hB
    exact ⟨(hb2.block _ (by omega)).trans (World.alloc_heap_new _ _), hx.far (Nat.le_refl _), hoy _ (by omega), hz⟩
end
abbrev anO (aE aN aM : Int) (aS : List UInt8) : Obj := .cells #[.int .i64 aE, .int .i64 aN, .int .i64 aM, .string ⟨aS.toArray⟩, .string ⟨#[]⟩] 41
set_option maxRecDepth 8000 in
set_option maxHeartbeats 6400000 in
theorem keeps_walk (a : Option Addr) (len cap : Nat) (W0 : World) (hs : IsOps W0 a len) :
    Calls Tryz.prog 3 #[.slice a len cap] W0 fun e w' => e = .returned (.bool true) ∧ Below W0.heap.size W0 w' := by
  obtain ⟨hlen, hops⟩ := hs
  have HFR : ∀ w, Calls Tryz.prog 4 #[] w fun e w' => ∃ own m a nb tp, e = .returned (.agg #[.pointer (some ⟨m, 0, none⟩), .pointer (some ⟨nb, 0, none⟩), .pointer (some ⟨tp, 0, none⟩)]) ∧ Vm own w' m a nb tp mt ∧ (∀ k, k < w.heap.size → own k = 0) ∧ Below w.heap.size w w' := fresh_any
  go_enter Tryz.func3, Tryz.ntmps3
  go_wp2_with fail
  refine (HFR _).mono ?_; rintro e w1 ⟨ox, mx, ax, nbx, tpx, rfl, hvx, hox, hbx⟩
  go_wp2_with fail
  refine (HFR _).mono ?_; rintro e w2 ⟨oy, my, ay, nby, tpy, rfl, hvy, hoy, hby⟩
  have hXY : w1.heap.size < w2.heap.size := by have := hby.size; rw [World.size_alloc] at this; omega
  have KK := ((KS.start hvx hox hbx hvy hoy hby).alloc (sO my nby tpy) rfl).alloc (rO nilV nilV) (n := w2.heap.size + 1) (by simp)
  have nok : nilV.Ok := ⟨by decide, by decide, by decide, by decide⟩
  have H3 : Hid (KL W0 w1.heap.size w2.heap.size (w2.heap.size + 1) ((w2.alloc (sO my nby tpy)).alloc (.cells #[.int .i64 0, .int .u64 0, .string ⟨#[]⟩, .int .i64 0, .int .u64 0, .string ⟨#[]⟩] 35))) := ⟨mx, ax, nbx, tpx, my, ay, nby, tpy, mt, nilV, nilV, .inr mt_ended, nok, nok, KK.sub (by simp)⟩
  clear KK hvx hox hbx hvy hoy hby nok
  go_wp2_with fail
  obtain ⟨X, hX⟩ : ∃ X, X = w1.heap.size := ⟨_, rfl⟩
  obtain ⟨Y, hY⟩ : ∃ Y, Y = w2.heap.size := ⟨_, rfl⟩
  rw [← hX, ← hY] at H3 ⊢
  rw [← hX, ← hY] at hXY
  clear hX hY
  go_loopg [6] len (fun g jv wr => ∃ n : Nat, jv = .int .i64 (n : Int) ∧ n + g = len ∧ Hid (KL W0 X Y (Y + 1) wr))
  case atStart => exact ⟨0, by go_num, by omega, H3⟩
  case round =>
    obtain ⟨n, rfl, hng, HT⟩ := hrel
    obtain ⟨mx, ax, nbx, tpx, my, ay, nby, tpy, M, r1, r2, hR, ok1, ok2, K0⟩ := HT.out
    by_cases hlt : n < len
    · obtain ⟨g, rfl⟩ : ∃ g', gk = g' + 1 := ⟨gk - 1, by omega⟩
      rcases hops with h0 | ⟨b, off, rfl, hbw, hall⟩
      · omega
      obtain ⟨K, A, B, C, S, T, hop⟩ := hall n hlt
      have hop2 := hop.below K0.bel hbw
      have hb2 : b < wr.heap.size := Nat.lt_of_lt_of_le hbw K0.bel.size
      obtain ⟨c0, c1, c2, c3, c4, c5, iK, iA, iB, iC, lS, lT⟩ := hop2
      obtain ⟨e0, e1, e2, e3, e4, e5, ez⟩ := cells6 (K0.box (b := Y + 1) (o := rO r1 r2) (by simp)).1
      have hRl := (K0.box (b := Y + 1) (o := rO r1 r2) (by simp)).2
      obtain ⟨ok3, ok4⟩ := turn_ok ok1 ok2 (K := K) (A := A) (B := B) (S := S) iA lS
      have HTU := fun w => turnR_any r1 r2 K A B C S T w iB
      have K1 := K0.alloc (pO K A B C S T) rfl
      have d1 : decide ((n : Int) < (len : Int)) = true := decide_eq_true (by omega)
      have d2 : decide ((n : Int) < 4398046511104) = true := decide_eq_true (by omega)
      have HOK : Hid (Rest M ∧ (turnP r1 r2 K A B S).1.Ok ∧ (turnP r1 r2 K A B S).2.Ok ∧ I64 A ∧ S.length ≤ 9223372036854775807) := ⟨hR, ok3, ok4, iA, lS⟩
      have HK1 : Hid (KS W0 mx ax nbx tpx my ay nby tpy [(wr.heap.size, pO K A B C S T), (X, sO mx nbx tpx), (Y, sO my nby tpy), (Y + 1, rO r1 r2)] M M (wr.alloc (pO K A B C S T))) := K1
      clear K0 K1 HT hop hall hR ok1 ok2 ok3 ok4 iK iA iB iC lS lT hbw
      generalize (turnP r1 r2 K A B S).1 = q1 at *
      generalize (turnP r1 r2 K A B S).2 = q2 at *
      simp only [regV, opV_mk] at HTU
      go_wp2_with fail
      refine (HTU _).mono ?_; rintro e w5 ⟨rfl, hb5⟩
      have K5 := HK1.out.below hb5
      clear HTU hb5 HK1 c0 c1 c2 c3 c4 c5 e0 e1 e2 e3 e4 e5 ez
      obtain ⟨e0, e1, e2, e3, e4, e5, ez⟩ := cells6 (K5.box (b := Y + 1) (o := rO r1 r2) (by simp)).1
      have hRl5 := (K5.box (b := Y + 1) (o := rO r1 r2) (by simp)).2
      have K6 := K5.put (b := Y + 1) (o := rO r1 r2) (o' := rO q1 q2) (by simp) (stp6 w5 (Y + 1) (.int .i64 q1.T) (.int .u64 (q1.N : Int)) (.string ⟨q1.S.toArray⟩) (.int .i64 q2.T) (.int .u64 (q2.N : Int)) (.string ⟨q2.S.toArray⟩)) (set6b (K5.box (b := Y + 1) (o := rO r1 r2) (by simp)).1 _ _ _ _ _ _) [(wr.heap.size, pO K A B C S T), (X, sO mx nbx tpx), (Y, sO my nby tpy), (Y + 1, rO q1 q2)] (by
        intro p hp
        simp only [List.mem_cons, List.not_mem_nil, or_false] at hp
        rcases hp with rfl | rfl | rfl | rfl
        · exact .inr ⟨by simp, by show wr.heap.size ≠ Y + 1; omega⟩
        · exact .inr ⟨by simp, by show X ≠ Y + 1; omega⟩
        · exact .inr ⟨by simp, by show Y ≠ Y + 1; omega⟩
        · exact .inl rfl)
      have HK6 : Hid (KS W0 mx ax nbx tpx my ay nby tpy [(wr.heap.size, pO K A B C S T), (X, sO mx nbx tpx), (Y, sO my nby tpy), (Y + 1, rO q1 q2)] M M ((((((w5.setCell ⟨Y + 1, 0, none⟩ (.int .i64 q1.T)).setCell ⟨Y + 1, 1, none⟩ (.int .u64 (q1.N : Int))).setCell ⟨Y + 1, 2, none⟩ (.string ⟨q1.S.toArray⟩)).setCell ⟨Y + 1, 3, none⟩ (.int .i64 q2.T)).setCell ⟨Y + 1, 4, none⟩ (.int .u64 (q2.N : Int))).setCell ⟨Y + 1, 5, none⟩ (.string ⟨q2.S.toArray⟩))) := K6
      clear K5 K6
      go_upto_region 9 with fail
      generalize hW6 : ((((((w5.setCell ⟨Y + 1, 0, none⟩ (.int .i64 q1.T)).setCell ⟨Y + 1, 1, none⟩ (.int .u64 (q1.N : Int))).setCell ⟨Y + 1, 2, none⟩ (.string ⟨q1.S.toArray⟩)).setCell ⟨Y + 1, 3, none⟩ (.int .i64 q2.T)).setCell ⟨Y + 1, 4, none⟩ (.int .u64 (q2.N : Int))).setCell ⟨Y + 1, 5, none⟩ (.string ⟨q2.S.toArray⟩)) = w6 at *
      obtain ⟨ob, hob⟩ : ∃ ob, ob = wr.heap.size := ⟨_, rfl⟩
      have hoY : Y + 1 < ob := by omega
      rw [← hob] at HK6 ⊢
      clear hW6 hob hRl hRl5 e0 e1 e2 e3 e4 e5 ez hb2
      have K6 := HK6.out
      obtain ⟨p0, p1, p2, p3, p4, p5, pz⟩ := cells6 (K6.box (b := ob) (o := pO K A B C S T) (by simp)).1
      have lp := (K6.box (b := ob) (o := pO K A B C S T) (by simp)).2
      by_cases hK : K = 3 ∨ K = 12
      · have K6B := (K6.box (b := Y) (o := sO my nby tpy) (by simp)).1
        clear K6
        have HHE : Hid (heldP mt q1 q2 K A S = heldP M q1 q2 K A S ∧ Rest mt) := ⟨heldP_new mt M q1 q2 A S hK, .inr mt_ended⟩
        rcases hK with hK | hK
        · have k3 : (K == 3) = true := by rw [hK]; rfl
          clear hK
          obtain ⟨s0, s1, s2, sz⟩ := cells3 K6B
          have lY := heap_lt K6B
          go_wp2_with fail
          refine (HFR _).mono ?_; rintro e w7 ⟨ov, mv, av, nbv, tpv, rfl, hv7, ho7, hb7⟩
          have K7 := HK6.out.fresh hv7 ho7 hb7
          have K7B := (K7.box (b := Y) (o := sO my nby tpy) (by simp)).1
          have K8 := K7.put (b := Y) (o := sO my nby tpy) (o' := sO mv nbv tpv) (by simp) (stp3 w7 Y (.pointer (some ⟨mv, 0, none⟩)) (.pointer (some ⟨nbv, 0, none⟩)) (.pointer (some ⟨tpv, 0, none⟩))) (set3b K7B _ _ _) [(ob, pO K A B C S T), (X, sO mx nbx tpx), (Y, sO mv nbv tpv), (Y + 1, rO q1 q2)] (by
            intro p hp
            simp only [List.mem_cons, List.not_mem_nil, or_false] at hp
            rcases hp with rfl | rfl | rfl | rfl
            · exact .inr ⟨by simp, by show ob ≠ Y; omega⟩
            · exact .inr ⟨by simp, by show X ≠ Y; omega⟩
            · exact .inl rfl
            · exact .inr ⟨by simp, by show Y + 1 ≠ Y; omega⟩)
          clear s0 s1 s2 sz lY K6B p0 p1 p2 p3 p4 p5 pz lp
          obtain ⟨s0, s1, s2, sz⟩ := cells3 K7B
          have lY := heap_lt K7B
          have HK8 : Hid (KS W0 mx ax nbx tpx mv av nbv tpv [(ob, pO K A B C S T), (X, sO mx nbx tpx), (Y, sO mv nbv tpv), (Y + 1, rO q1 q2)] M mt (((w7.setCell ⟨Y, 0, none⟩ (.pointer (some ⟨mv, 0, none⟩))).setCell ⟨Y, 1, none⟩ (.pointer (some ⟨nbv, 0, none⟩))).setCell ⟨Y, 2, none⟩ (.pointer (some ⟨tpv, 0, none⟩)))) := K8
          clear K7 K8 K7B hv7 ho7 hb7 HK6
          go_upto_region 11 with fail
          generalize hw8 : (((w7.setCell ⟨Y, 0, none⟩ (.pointer (some ⟨mv, 0, none⟩))).setCell ⟨Y, 1, none⟩ (.pointer (some ⟨nbv, 0, none⟩))).setCell ⟨Y, 2, none⟩ (.pointer (some ⟨tpv, 0, none⟩))) = w8 at *
          clear hw8 s0 s1 s2 sz lY
          generalize mt = My at *
          have KQ := HK8.out
          obtain ⟨x0, x1, x2, xz⟩ := cells3 (KQ.box (b := X) (o := sO mx nbx tpx) (by simp)).1
          obtain ⟨y0, y1, y2, yz⟩ := cells3 (KQ.box (b := Y) (o := sO mv nbv tpv) (by simp)).1
          obtain ⟨t0, t1, t2, t3, t4, t5, tz⟩ := cells6 (KQ.box (b := Y + 1) (o := rO q1 q2) (by simp)).1
          obtain ⟨p0, p1, p2, p3, p4, p5, pz⟩ := cells6 (KQ.box (b := ob) (o := pO K A B C S T) (by simp)).1
          have lX := (KQ.box (b := X) (o := sO mx nbx tpx) (by simp)).2
          have lY := (KQ.box (b := Y) (o := sO mv nbv tpv) (by simp)).2
          have lR := (KQ.box (b := Y + 1) (o := rO q1 q2) (by simp)).2
          have lp := (KQ.box (b := ob) (o := pO K A B C S T) (by simp)).2
          obtain ⟨ox, hvx, tx⟩ := KQ.vx
          have HH := heldH_any hvx HOK.out.1 q1 q2 HOK.out.2.1 HOK.out.2.2.1 K A B C S T HOK.out.2.2.2.1 HOK.out.2.2.2.2
          have hR2 := heldP_rest HOK.out.1 q1 q2 HOK.out.2.1 HOK.out.2.2.1 K A S HOK.out.2.2.2.1
          generalize heldP M q1 q2 K A S = hp at *
          obtain ⟨M2, an⟩ := hp
          obtain ⟨aE, aN, aM, aS⟩ := an
          have HR2 : Hid (Rest M2) := hR2
          have HTX : Hid (∀ w2, Nx ox w8 mx ax nbx tpx M2 w2 → KS W0 mx ax nbx tpx mv av nbv tpv [(ob, pO K A B C S T), (X, sO mx nbx tpx), (Y, sO mv nbv tpv), (Y + 1, rO q1 q2)] M2 My w2) := fun w2 h => tx _ _ h
          clear KQ HK8 hvx tx hR2
          simp only [sideV, regV, opV_mk, anV] at HH
          go_wp2_with fail
          refine HH.mono ?_; rintro e w9 ⟨rfl, hn9⟩
          have K10 := (HTX.out _ hn9).alloc (anO aE aN aM aS) rfl
          have HK10 : Hid (KS W0 mx ax nbx tpx mv av nbv tpv [(w9.heap.size, anO aE aN aM aS), (ob, pO K A B C S T), (X, sO mx nbx tpx), (Y, sO mv nbv tpv), (Y + 1, rO q1 q2)] M2 My (w9.alloc (anO aE aN aM aS))) := K10
          clear HH hn9 HTX K10 x0 x1 x2 xz y0 y1 y2 yz t0 t1 t2 t3 t4 t5 tz p0 p1 p2 p3 p4 p5 pz lX lY lR lp
          go_upto_region 14 with fail
          generalize hw10 : w9.alloc (anO aE aN aM aS) = w10 at *
          obtain ⟨ab, hab⟩ : ∃ ab, ab = w9.heap.size := ⟨_, rfl⟩
          rw [← hab] at HK10 ⊢
          clear hw10 hab
          have KQ := HK10.out
          obtain ⟨x0, x1, x2, xz⟩ := cells3 (KQ.box (b := X) (o := sO mx nbx tpx) (by simp)).1
          obtain ⟨y0, y1, y2, yz⟩ := cells3 (KQ.box (b := Y) (o := sO mv nbv tpv) (by simp)).1
          obtain ⟨t0, t1, t2, t3, t4, t5, tz⟩ := cells6 (KQ.box (b := Y + 1) (o := rO q1 q2) (by simp)).1
          obtain ⟨p0, p1, p2, p3, p4, p5, pz⟩ := cells6 (KQ.box (b := ob) (o := pO K A B C S T) (by simp)).1
          have lX := (KQ.box (b := X) (o := sO mx nbx tpx) (by simp)).2
          have lY := (KQ.box (b := Y) (o := sO mv nbv tpv) (by simp)).2
          have lR := (KQ.box (b := Y + 1) (o := rO q1 q2) (by simp)).2
          have lp := (KQ.box (b := ob) (o := pO K A B C S T) (by simp)).2
          obtain ⟨a0, a1, a2, a3, a4, az⟩ := cells5 (KQ.box (b := ab) (o := anO aE aN aM aS) (by simp)).1
          have la := (KQ.box (b := ab) (o := anO aE aN aM aS) (by simp)).2
          obtain ⟨oy, hvy, ty⟩ := KQ.vy
          have HH := heldH_any hvy HHE.out.2 q1 q2 HOK.out.2.1 HOK.out.2.2.1 K A B C S T HOK.out.2.2.2.1 HOK.out.2.2.2.2
          rw [HHE.out.1] at HH
          have HTY : Hid (∀ w2, Nx oy w10 mv av nbv tpv M2 w2 → KS W0 mx ax nbx tpx mv av nbv tpv [(ab, anO aE aN aM aS), (ob, pO K A B C S T), (X, sO mx nbx tpx), (Y, sO mv nbv tpv), (Y + 1, rO q1 q2)] M2 M2 w2) := fun w2 h => ty _ _ h
          clear KQ HK10 hvy ty
          simp only [sideV, regV, opV_mk, anV] at HH
          go_wp2_with fail
          refine HH.mono ?_; rintro e w11 ⟨rfl, hn11⟩
          have K12 := (HTY.out _ hn11).alloc (anO aE aN aM aS) rfl
          have HK12 : Hid (KS W0 mx ax nbx tpx mv av nbv tpv [(w11.heap.size, anO aE aN aM aS), (ab, anO aE aN aM aS), (ob, pO K A B C S T), (X, sO mx nbx tpx), (Y, sO mv nbv tpv), (Y + 1, rO q1 q2)] M2 M2 (w11.alloc (anO aE aN aM aS))) := K12
          clear HH hn11 HTY K12 x0 x1 x2 xz y0 y1 y2 yz t0 t1 t2 t3 t4 t5 tz p0 p1 p2 p3 p4 p5 pz lX lY lR lp a0 a1 a2 a3 a4 az la
          go_upto_region 15 with fail
          generalize hw12 : w11.alloc (anO aE aN aM aS) = w12 at *
          obtain ⟨bb, hbb⟩ : ∃ bb, bb = w11.heap.size := ⟨_, rfl⟩
          rw [← hbb] at HK12 ⊢
          clear hw12 hbb
          have KQ := HK12.out
          obtain ⟨x0, x1, x2, xz⟩ := cells3 (KQ.box (b := X) (o := sO mx nbx tpx) (by simp)).1
          obtain ⟨y0, y1, y2, yz⟩ := cells3 (KQ.box (b := Y) (o := sO mv nbv tpv) (by simp)).1
          have lX := (KQ.box (b := X) (o := sO mx nbx tpx) (by simp)).2
          have lY := (KQ.box (b := Y) (o := sO mv nbv tpv) (by simp)).2
          obtain ⟨ox, hvx, -⟩ := KQ.vx
          have HS := showM_any hvx HR2.out
          clear KQ hvx
          go_wp2_with fail
          refine HS.mono ?_; rintro e w13 ⟨rfl, hb13⟩
          have KQ := HK12.out.below hb13
          have HK13 : Hid (KS W0 mx ax nbx tpx mv av nbv tpv [(bb, anO aE aN aM aS), (ab, anO aE aN aM aS), (ob, pO K A B C S T), (X, sO mx nbx tpx), (Y, sO mv nbv tpv), (Y + 1, rO q1 q2)] M2 M2 w13) := KQ
          clear HS hb13 HK12 x0 x1 x2 xz y0 y1 y2 yz lX lY
          obtain ⟨x0, x1, x2, xz⟩ := cells3 (KQ.box (b := X) (o := sO mx nbx tpx) (by simp)).1
          obtain ⟨y0, y1, y2, yz⟩ := cells3 (KQ.box (b := Y) (o := sO mv nbv tpv) (by simp)).1
          have lX := (KQ.box (b := X) (o := sO mx nbx tpx) (by simp)).2
          have lY := (KQ.box (b := Y) (o := sO mv nbv tpv) (by simp)).2
          obtain ⟨oy, hvy, -⟩ := KQ.vy
          have HS := showM_any hvy HR2.out
          clear KQ hvy
          go_wp2_with fail
          refine HS.mono ?_; rintro e w14 ⟨rfl, hb14⟩
          have KQ := HK13.out.below hb14
          have HK14 : Hid (KS W0 mx ax nbx tpx mv av nbv tpv [(bb, anO aE aN aM aS), (ab, anO aE aN aM aS), (ob, pO K A B C S T), (X, sO mx nbx tpx), (Y, sO mv nbv tpv), (Y + 1, rO q1 q2)] M2 M2 w14) := KQ
          clear HS hb14 HK13 x0 x1 x2 xz y0 y1 y2 yz lX lY
          obtain ⟨x0, x1, x2, xz⟩ := cells3 (KQ.box (b := X) (o := sO mx nbx tpx) (by simp)).1
          obtain ⟨y0, y1, y2, yz⟩ := cells3 (KQ.box (b := Y) (o := sO mv nbv tpv) (by simp)).1
          have lX := (KQ.box (b := X) (o := sO mx nbx tpx) (by simp)).2
          have lY := (KQ.box (b := Y) (o := sO mv nbv tpv) (by simp)).2
          obtain ⟨a0, a1, a2, a3, a4, az⟩ := cells5 (KQ.box (b := ab) (o := anO aE aN aM aS) (by simp)).1
          have la := (KQ.box (b := ab) (o := anO aE aN aM aS) (by simp)).2
          obtain ⟨b0, b1, b2, b3, b4, bz⟩ := cells5 (KQ.box (b := bb) (o := anO aE aN aM aS) (by simp)).1
          have lb := (KQ.box (b := bb) (o := anO aE aN aM aS) (by simp)).2
          obtain ⟨ox, hvx, -⟩ := KQ.vx
          have HS := tabs_any hvx
          clear KQ hvx
          generalize showP M2 = sx at *
          go_wp2_with fail
          refine HS.mono ?_; rintro e w15 ⟨rfl, hb15⟩
          have KQ := HK14.out.below hb15
          have HK15 : Hid (KS W0 mx ax nbx tpx mv av nbv tpv [(bb, anO aE aN aM aS), (ab, anO aE aN aM aS), (ob, pO K A B C S T), (X, sO mx nbx tpx), (Y, sO mv nbv tpv), (Y + 1, rO q1 q2)] M2 M2 w15) := KQ
          clear HS hb15 HK14 x0 x1 x2 xz y0 y1 y2 yz lX lY a0 a1 a2 a3 a4 az la b0 b1 b2 b3 b4 bz lb
          obtain ⟨x0, x1, x2, xz⟩ := cells3 (KQ.box (b := X) (o := sO mx nbx tpx) (by simp)).1
          obtain ⟨y0, y1, y2, yz⟩ := cells3 (KQ.box (b := Y) (o := sO mv nbv tpv) (by simp)).1
          have lX := (KQ.box (b := X) (o := sO mx nbx tpx) (by simp)).2
          have lY := (KQ.box (b := Y) (o := sO mv nbv tpv) (by simp)).2
          obtain ⟨oy, hvy, -⟩ := KQ.vy
          have HS := tabs_any hvy
          clear KQ hvy
          generalize showT M2.tb = tx at *
          go_wp2_with fail
          refine HS.mono ?_; rintro e w16 ⟨rfl, hb16⟩
          have KQ := HK15.out.below hb16
          have HEND : Hid (KL W0 X Y (Y + 1) w16) := ⟨mx, ax, nbx, tpx, mv, av, nbv, tpv, M2, q1, q2, HR2.out, HOK.out.2.1, HOK.out.2.2.1, KQ.sub (by simp)⟩
          clear HS hb16 HK15 KQ x0 x1 x2 xz y0 y1 y2 yz lX lY HOK HHE HR2
          go_wp2_with fail
          go_roundg g
          case measure => omega
          case rel => exact ⟨n + 1, by go_num, by omega, HEND⟩
        · have k3 : (K == 3) = false := by rw [hK]; rfl
          have k12 : (K == 12) = true := by rw [hK]; rfl
          clear hK
          obtain ⟨s0, s1, s2, sz⟩ := cells3 K6B
          have lY := heap_lt K6B
          go_wp2_with fail
          refine (HFR _).mono ?_; rintro e w7 ⟨ov, mv, av, nbv, tpv, rfl, hv7, ho7, hb7⟩
          have K7 := HK6.out.fresh hv7 ho7 hb7
          have K7B := (K7.box (b := Y) (o := sO my nby tpy) (by simp)).1
          have K8 := K7.put (b := Y) (o := sO my nby tpy) (o' := sO mv nbv tpv) (by simp) (stp3 w7 Y (.pointer (some ⟨mv, 0, none⟩)) (.pointer (some ⟨nbv, 0, none⟩)) (.pointer (some ⟨tpv, 0, none⟩))) (set3b K7B _ _ _) [(ob, pO K A B C S T), (X, sO mx nbx tpx), (Y, sO mv nbv tpv), (Y + 1, rO q1 q2)] (by
            intro p hp
            simp only [List.mem_cons, List.not_mem_nil, or_false] at hp
            rcases hp with rfl | rfl | rfl | rfl
            · exact .inr ⟨by simp, by show ob ≠ Y; omega⟩
            · exact .inr ⟨by simp, by show X ≠ Y; omega⟩
            · exact .inl rfl
            · exact .inr ⟨by simp, by show Y + 1 ≠ Y; omega⟩)
          clear s0 s1 s2 sz lY K6B p0 p1 p2 p3 p4 p5 pz lp
          obtain ⟨s0, s1, s2, sz⟩ := cells3 K7B
          have lY := heap_lt K7B
          have HK8 : Hid (KS W0 mx ax nbx tpx mv av nbv tpv [(ob, pO K A B C S T), (X, sO mx nbx tpx), (Y, sO mv nbv tpv), (Y + 1, rO q1 q2)] M mt (((w7.setCell ⟨Y, 0, none⟩ (.pointer (some ⟨mv, 0, none⟩))).setCell ⟨Y, 1, none⟩ (.pointer (some ⟨nbv, 0, none⟩))).setCell ⟨Y, 2, none⟩ (.pointer (some ⟨tpv, 0, none⟩)))) := K8
          clear K7 K8 K7B hv7 ho7 hb7 HK6
          go_upto_region 11 with fail
          generalize hw8 : (((w7.setCell ⟨Y, 0, none⟩ (.pointer (some ⟨mv, 0, none⟩))).setCell ⟨Y, 1, none⟩ (.pointer (some ⟨nbv, 0, none⟩))).setCell ⟨Y, 2, none⟩ (.pointer (some ⟨tpv, 0, none⟩))) = w8 at *
          clear hw8 s0 s1 s2 sz lY
          generalize mt = My at *
          have KQ := HK8.out
          obtain ⟨x0, x1, x2, xz⟩ := cells3 (KQ.box (b := X) (o := sO mx nbx tpx) (by simp)).1
          obtain ⟨y0, y1, y2, yz⟩ := cells3 (KQ.box (b := Y) (o := sO mv nbv tpv) (by simp)).1
          obtain ⟨t0, t1, t2, t3, t4, t5, tz⟩ := cells6 (KQ.box (b := Y + 1) (o := rO q1 q2) (by simp)).1
          obtain ⟨p0, p1, p2, p3, p4, p5, pz⟩ := cells6 (KQ.box (b := ob) (o := pO K A B C S T) (by simp)).1
          have lX := (KQ.box (b := X) (o := sO mx nbx tpx) (by simp)).2
          have lY := (KQ.box (b := Y) (o := sO mv nbv tpv) (by simp)).2
          have lR := (KQ.box (b := Y + 1) (o := rO q1 q2) (by simp)).2
          have lp := (KQ.box (b := ob) (o := pO K A B C S T) (by simp)).2
          obtain ⟨ox, hvx, tx⟩ := KQ.vx
          have HH := heldH_any hvx HOK.out.1 q1 q2 HOK.out.2.1 HOK.out.2.2.1 K A B C S T HOK.out.2.2.2.1 HOK.out.2.2.2.2
          have hR2 := heldP_rest HOK.out.1 q1 q2 HOK.out.2.1 HOK.out.2.2.1 K A S HOK.out.2.2.2.1
          generalize heldP M q1 q2 K A S = hp at *
          obtain ⟨M2, an⟩ := hp
          obtain ⟨aE, aN, aM, aS⟩ := an
          have HR2 : Hid (Rest M2) := hR2
          have HTX : Hid (∀ w2, Nx ox w8 mx ax nbx tpx M2 w2 → KS W0 mx ax nbx tpx mv av nbv tpv [(ob, pO K A B C S T), (X, sO mx nbx tpx), (Y, sO mv nbv tpv), (Y + 1, rO q1 q2)] M2 My w2) := fun w2 h => tx _ _ h
          clear KQ HK8 hvx tx hR2
          simp only [sideV, regV, opV_mk, anV] at HH
          go_wp2_with fail
          refine HH.mono ?_; rintro e w9 ⟨rfl, hn9⟩
          have K10 := (HTX.out _ hn9).alloc (anO aE aN aM aS) rfl
          have HK10 : Hid (KS W0 mx ax nbx tpx mv av nbv tpv [(w9.heap.size, anO aE aN aM aS), (ob, pO K A B C S T), (X, sO mx nbx tpx), (Y, sO mv nbv tpv), (Y + 1, rO q1 q2)] M2 My (w9.alloc (anO aE aN aM aS))) := K10
          clear HH hn9 HTX K10 x0 x1 x2 xz y0 y1 y2 yz t0 t1 t2 t3 t4 t5 tz p0 p1 p2 p3 p4 p5 pz lX lY lR lp
          go_upto_region 14 with fail
          generalize hw10 : w9.alloc (anO aE aN aM aS) = w10 at *
          obtain ⟨ab, hab⟩ : ∃ ab, ab = w9.heap.size := ⟨_, rfl⟩
          rw [← hab] at HK10 ⊢
          clear hw10 hab
          have KQ := HK10.out
          obtain ⟨x0, x1, x2, xz⟩ := cells3 (KQ.box (b := X) (o := sO mx nbx tpx) (by simp)).1
          obtain ⟨y0, y1, y2, yz⟩ := cells3 (KQ.box (b := Y) (o := sO mv nbv tpv) (by simp)).1
          obtain ⟨t0, t1, t2, t3, t4, t5, tz⟩ := cells6 (KQ.box (b := Y + 1) (o := rO q1 q2) (by simp)).1
          obtain ⟨p0, p1, p2, p3, p4, p5, pz⟩ := cells6 (KQ.box (b := ob) (o := pO K A B C S T) (by simp)).1
          have lX := (KQ.box (b := X) (o := sO mx nbx tpx) (by simp)).2
          have lY := (KQ.box (b := Y) (o := sO mv nbv tpv) (by simp)).2
          have lR := (KQ.box (b := Y + 1) (o := rO q1 q2) (by simp)).2
          have lp := (KQ.box (b := ob) (o := pO K A B C S T) (by simp)).2
          obtain ⟨a0, a1, a2, a3, a4, az⟩ := cells5 (KQ.box (b := ab) (o := anO aE aN aM aS) (by simp)).1
          have la := (KQ.box (b := ab) (o := anO aE aN aM aS) (by simp)).2
          obtain ⟨oy, hvy, ty⟩ := KQ.vy
          have HH := heldH_any hvy HHE.out.2 q1 q2 HOK.out.2.1 HOK.out.2.2.1 K A B C S T HOK.out.2.2.2.1 HOK.out.2.2.2.2
          rw [HHE.out.1] at HH
          have HTY : Hid (∀ w2, Nx oy w10 mv av nbv tpv M2 w2 → KS W0 mx ax nbx tpx mv av nbv tpv [(ab, anO aE aN aM aS), (ob, pO K A B C S T), (X, sO mx nbx tpx), (Y, sO mv nbv tpv), (Y + 1, rO q1 q2)] M2 M2 w2) := fun w2 h => ty _ _ h
          clear KQ HK10 hvy ty
          simp only [sideV, regV, opV_mk, anV] at HH
          go_wp2_with fail
          refine HH.mono ?_; rintro e w11 ⟨rfl, hn11⟩
          have K12 := (HTY.out _ hn11).alloc (anO aE aN aM aS) rfl
          have HK12 : Hid (KS W0 mx ax nbx tpx mv av nbv tpv [(w11.heap.size, anO aE aN aM aS), (ab, anO aE aN aM aS), (ob, pO K A B C S T), (X, sO mx nbx tpx), (Y, sO mv nbv tpv), (Y + 1, rO q1 q2)] M2 M2 (w11.alloc (anO aE aN aM aS))) := K12
          clear HH hn11 HTY K12 x0 x1 x2 xz y0 y1 y2 yz t0 t1 t2 t3 t4 t5 tz p0 p1 p2 p3 p4 p5 pz lX lY lR lp a0 a1 a2 a3 a4 az la
          go_upto_region 15 with fail
          generalize hw12 : w11.alloc (anO aE aN aM aS) = w12 at *
          obtain ⟨bb, hbb⟩ : ∃ bb, bb = w11.heap.size := ⟨_, rfl⟩
          rw [← hbb] at HK12 ⊢
          clear hw12 hbb
          have KQ := HK12.out
          obtain ⟨x0, x1, x2, xz⟩ := cells3 (KQ.box (b := X) (o := sO mx nbx tpx) (by simp)).1
          obtain ⟨y0, y1, y2, yz⟩ := cells3 (KQ.box (b := Y) (o := sO mv nbv tpv) (by simp)).1
          have lX := (KQ.box (b := X) (o := sO mx nbx tpx) (by simp)).2
          have lY := (KQ.box (b := Y) (o := sO mv nbv tpv) (by simp)).2
          obtain ⟨ox, hvx, -⟩ := KQ.vx
          have HS := showM_any hvx HR2.out
          clear KQ hvx
          go_wp2_with fail
          refine HS.mono ?_; rintro e w13 ⟨rfl, hb13⟩
          have KQ := HK12.out.below hb13
          have HK13 : Hid (KS W0 mx ax nbx tpx mv av nbv tpv [(bb, anO aE aN aM aS), (ab, anO aE aN aM aS), (ob, pO K A B C S T), (X, sO mx nbx tpx), (Y, sO mv nbv tpv), (Y + 1, rO q1 q2)] M2 M2 w13) := KQ
          clear HS hb13 HK12 x0 x1 x2 xz y0 y1 y2 yz lX lY
          obtain ⟨x0, x1, x2, xz⟩ := cells3 (KQ.box (b := X) (o := sO mx nbx tpx) (by simp)).1
          obtain ⟨y0, y1, y2, yz⟩ := cells3 (KQ.box (b := Y) (o := sO mv nbv tpv) (by simp)).1
          have lX := (KQ.box (b := X) (o := sO mx nbx tpx) (by simp)).2
          have lY := (KQ.box (b := Y) (o := sO mv nbv tpv) (by simp)).2
          obtain ⟨oy, hvy, -⟩ := KQ.vy
          have HS := showM_any hvy HR2.out
          clear KQ hvy
          go_wp2_with fail
          refine HS.mono ?_; rintro e w14 ⟨rfl, hb14⟩
          have KQ := HK13.out.below hb14
          have HK14 : Hid (KS W0 mx ax nbx tpx mv av nbv tpv [(bb, anO aE aN aM aS), (ab, anO aE aN aM aS), (ob, pO K A B C S T), (X, sO mx nbx tpx), (Y, sO mv nbv tpv), (Y + 1, rO q1 q2)] M2 M2 w14) := KQ
          clear HS hb14 HK13 x0 x1 x2 xz y0 y1 y2 yz lX lY
          obtain ⟨x0, x1, x2, xz⟩ := cells3 (KQ.box (b := X) (o := sO mx nbx tpx) (by simp)).1
          obtain ⟨y0, y1, y2, yz⟩ := cells3 (KQ.box (b := Y) (o := sO mv nbv tpv) (by simp)).1
          have lX := (KQ.box (b := X) (o := sO mx nbx tpx) (by simp)).2
          have lY := (KQ.box (b := Y) (o := sO mv nbv tpv) (by simp)).2
          obtain ⟨a0, a1, a2, a3, a4, az⟩ := cells5 (KQ.box (b := ab) (o := anO aE aN aM aS) (by simp)).1
          have la := (KQ.box (b := ab) (o := anO aE aN aM aS) (by simp)).2
          obtain ⟨b0, b1, b2, b3, b4, bz⟩ := cells5 (KQ.box (b := bb) (o := anO aE aN aM aS) (by simp)).1
          have lb := (KQ.box (b := bb) (o := anO aE aN aM aS) (by simp)).2
          obtain ⟨ox, hvx, -⟩ := KQ.vx
          have HS := tabs_any hvx
          clear KQ hvx
          generalize showP M2 = sx at *
          go_wp2_with fail
          refine HS.mono ?_; rintro e w15 ⟨rfl, hb15⟩
          have KQ := HK14.out.below hb15
          have HK15 : Hid (KS W0 mx ax nbx tpx mv av nbv tpv [(bb, anO aE aN aM aS), (ab, anO aE aN aM aS), (ob, pO K A B C S T), (X, sO mx nbx tpx), (Y, sO mv nbv tpv), (Y + 1, rO q1 q2)] M2 M2 w15) := KQ
          clear HS hb15 HK14 x0 x1 x2 xz y0 y1 y2 yz lX lY a0 a1 a2 a3 a4 az la b0 b1 b2 b3 b4 bz lb
          obtain ⟨x0, x1, x2, xz⟩ := cells3 (KQ.box (b := X) (o := sO mx nbx tpx) (by simp)).1
          obtain ⟨y0, y1, y2, yz⟩ := cells3 (KQ.box (b := Y) (o := sO mv nbv tpv) (by simp)).1
          have lX := (KQ.box (b := X) (o := sO mx nbx tpx) (by simp)).2
          have lY := (KQ.box (b := Y) (o := sO mv nbv tpv) (by simp)).2
          obtain ⟨oy, hvy, -⟩ := KQ.vy
          have HS := tabs_any hvy
          clear KQ hvy
          generalize showT M2.tb = tx at *
          go_wp2_with fail
          refine HS.mono ?_; rintro e w16 ⟨rfl, hb16⟩
          have KQ := HK15.out.below hb16
          have HEND : Hid (KL W0 X Y (Y + 1) w16) := ⟨mx, ax, nbx, tpx, mv, av, nbv, tpv, M2, q1, q2, HR2.out, HOK.out.2.1, HOK.out.2.2.1, KQ.sub (by simp)⟩
          clear HS hb16 HK15 KQ x0 x1 x2 xz y0 y1 y2 yz lX lY HOK HHE HR2
          go_wp2_with fail
          go_roundg g
          case measure => omega
          case rel => exact ⟨n + 1, by go_num, by omega, HEND⟩
      · have k3 : (K == 3) = false := by rw [beq_eq_false_iff_ne]; exact fun h => hK (.inl h)
        have k12 : (K == 12) = false := by rw [beq_eq_false_iff_ne]; exact fun h => hK (.inr h)
        obtain ⟨My, hMy⟩ : ∃ My, My = M := ⟨_, rfl⟩
        have HHE : Hid (heldP My q1 q2 K A S = heldP M q1 q2 K A S ∧ Rest My) := ⟨by rw [hMy], by rw [hMy]; exact HOK.out.1⟩
        have HK8 : Hid (KS W0 mx ax nbx tpx my ay nby tpy [(ob, pO K A B C S T), (X, sO mx nbx tpx), (Y, sO my nby tpy), (Y + 1, rO q1 q2)] M My w6) := by rw [hMy]; exact K6
        clear hMy K6 HK6 hK p0 p1 p2 p3 p4 p5 pz lp
        obtain ⟨w8, hw8⟩ : ∃ w8, w8 = w6 := ⟨_, rfl⟩
        rw [← hw8] at HK8 ⊢
        clear hw8
        have KQ := HK8.out
        obtain ⟨x0, x1, x2, xz⟩ := cells3 (KQ.box (b := X) (o := sO mx nbx tpx) (by simp)).1
        obtain ⟨y0, y1, y2, yz⟩ := cells3 (KQ.box (b := Y) (o := sO my nby tpy) (by simp)).1
        obtain ⟨t0, t1, t2, t3, t4, t5, tz⟩ := cells6 (KQ.box (b := Y + 1) (o := rO q1 q2) (by simp)).1
        obtain ⟨p0, p1, p2, p3, p4, p5, pz⟩ := cells6 (KQ.box (b := ob) (o := pO K A B C S T) (by simp)).1
        have lX := (KQ.box (b := X) (o := sO mx nbx tpx) (by simp)).2
        have lY := (KQ.box (b := Y) (o := sO my nby tpy) (by simp)).2
        have lR := (KQ.box (b := Y + 1) (o := rO q1 q2) (by simp)).2
        have lp := (KQ.box (b := ob) (o := pO K A B C S T) (by simp)).2
        obtain ⟨ox, hvx, tx⟩ := KQ.vx
        have HH := heldH_any hvx HOK.out.1 q1 q2 HOK.out.2.1 HOK.out.2.2.1 K A B C S T HOK.out.2.2.2.1 HOK.out.2.2.2.2
        have hR2 := heldP_rest HOK.out.1 q1 q2 HOK.out.2.1 HOK.out.2.2.1 K A S HOK.out.2.2.2.1
        generalize heldP M q1 q2 K A S = hp at *
        obtain ⟨M2, an⟩ := hp
        obtain ⟨aE, aN, aM, aS⟩ := an
        have HR2 : Hid (Rest M2) := hR2
        have HTX : Hid (∀ w2, Nx ox w8 mx ax nbx tpx M2 w2 → KS W0 mx ax nbx tpx my ay nby tpy [(ob, pO K A B C S T), (X, sO mx nbx tpx), (Y, sO my nby tpy), (Y + 1, rO q1 q2)] M2 My w2) := fun w2 h => tx _ _ h
        clear KQ HK8 hvx tx hR2
        simp only [sideV, regV, opV_mk, anV] at HH
        go_wp2_with fail
        refine HH.mono ?_; rintro e w9 ⟨rfl, hn9⟩
        have K10 := (HTX.out _ hn9).alloc (anO aE aN aM aS) rfl
        have HK10 : Hid (KS W0 mx ax nbx tpx my ay nby tpy [(w9.heap.size, anO aE aN aM aS), (ob, pO K A B C S T), (X, sO mx nbx tpx), (Y, sO my nby tpy), (Y + 1, rO q1 q2)] M2 My (w9.alloc (anO aE aN aM aS))) := K10
        clear HH hn9 HTX K10 x0 x1 x2 xz y0 y1 y2 yz t0 t1 t2 t3 t4 t5 tz p0 p1 p2 p3 p4 p5 pz lX lY lR lp
        go_upto_region 14 with fail
        generalize hw10 : w9.alloc (anO aE aN aM aS) = w10 at *
        obtain ⟨ab, hab⟩ : ∃ ab, ab = w9.heap.size := ⟨_, rfl⟩
        rw [← hab] at HK10 ⊢
        clear hw10 hab
        have KQ := HK10.out
        obtain ⟨x0, x1, x2, xz⟩ := cells3 (KQ.box (b := X) (o := sO mx nbx tpx) (by simp)).1
        obtain ⟨y0, y1, y2, yz⟩ := cells3 (KQ.box (b := Y) (o := sO my nby tpy) (by simp)).1
        obtain ⟨t0, t1, t2, t3, t4, t5, tz⟩ := cells6 (KQ.box (b := Y + 1) (o := rO q1 q2) (by simp)).1
        obtain ⟨p0, p1, p2, p3, p4, p5, pz⟩ := cells6 (KQ.box (b := ob) (o := pO K A B C S T) (by simp)).1
        have lX := (KQ.box (b := X) (o := sO mx nbx tpx) (by simp)).2
        have lY := (KQ.box (b := Y) (o := sO my nby tpy) (by simp)).2
        have lR := (KQ.box (b := Y + 1) (o := rO q1 q2) (by simp)).2
        have lp := (KQ.box (b := ob) (o := pO K A B C S T) (by simp)).2
        obtain ⟨a0, a1, a2, a3, a4, az⟩ := cells5 (KQ.box (b := ab) (o := anO aE aN aM aS) (by simp)).1
        have la := (KQ.box (b := ab) (o := anO aE aN aM aS) (by simp)).2
        obtain ⟨oy, hvy, ty⟩ := KQ.vy
        have HH := heldH_any hvy HHE.out.2 q1 q2 HOK.out.2.1 HOK.out.2.2.1 K A B C S T HOK.out.2.2.2.1 HOK.out.2.2.2.2
        rw [HHE.out.1] at HH
        have HTY : Hid (∀ w2, Nx oy w10 my ay nby tpy M2 w2 → KS W0 mx ax nbx tpx my ay nby tpy [(ab, anO aE aN aM aS), (ob, pO K A B C S T), (X, sO mx nbx tpx), (Y, sO my nby tpy), (Y + 1, rO q1 q2)] M2 M2 w2) := fun w2 h => ty _ _ h
        clear KQ HK10 hvy ty
        simp only [sideV, regV, opV_mk, anV] at HH
        go_wp2_with fail
        refine HH.mono ?_; rintro e w11 ⟨rfl, hn11⟩
        have K12 := (HTY.out _ hn11).alloc (anO aE aN aM aS) rfl
        have HK12 : Hid (KS W0 mx ax nbx tpx my ay nby tpy [(w11.heap.size, anO aE aN aM aS), (ab, anO aE aN aM aS), (ob, pO K A B C S T), (X, sO mx nbx tpx), (Y, sO my nby tpy), (Y + 1, rO q1 q2)] M2 M2 (w11.alloc (anO aE aN aM aS))) := K12
        clear HH hn11 HTY K12 x0 x1 x2 xz y0 y1 y2 yz t0 t1 t2 t3 t4 t5 tz p0 p1 p2 p3 p4 p5 pz lX lY lR lp a0 a1 a2 a3 a4 az la
        go_upto_region 15 with fail
        generalize hw12 : w11.alloc (anO aE aN aM aS) = w12 at *
        obtain ⟨bb, hbb⟩ : ∃ bb, bb = w11.heap.size := ⟨_, rfl⟩
        rw [← hbb] at HK12 ⊢
        clear hw12 hbb
        have KQ := HK12.out
        obtain ⟨x0, x1, x2, xz⟩ := cells3 (KQ.box (b := X) (o := sO mx nbx tpx) (by simp)).1
        obtain ⟨y0, y1, y2, yz⟩ := cells3 (KQ.box (b := Y) (o := sO my nby tpy) (by simp)).1
        have lX := (KQ.box (b := X) (o := sO mx nbx tpx) (by simp)).2
        have lY := (KQ.box (b := Y) (o := sO my nby tpy) (by simp)).2
        obtain ⟨ox, hvx, -⟩ := KQ.vx
        have HS := showM_any hvx HR2.out
        clear KQ hvx
        go_wp2_with fail
        refine HS.mono ?_; rintro e w13 ⟨rfl, hb13⟩
        have KQ := HK12.out.below hb13
        have HK13 : Hid (KS W0 mx ax nbx tpx my ay nby tpy [(bb, anO aE aN aM aS), (ab, anO aE aN aM aS), (ob, pO K A B C S T), (X, sO mx nbx tpx), (Y, sO my nby tpy), (Y + 1, rO q1 q2)] M2 M2 w13) := KQ
        clear HS hb13 HK12 x0 x1 x2 xz y0 y1 y2 yz lX lY
        obtain ⟨x0, x1, x2, xz⟩ := cells3 (KQ.box (b := X) (o := sO mx nbx tpx) (by simp)).1
        obtain ⟨y0, y1, y2, yz⟩ := cells3 (KQ.box (b := Y) (o := sO my nby tpy) (by simp)).1
        have lX := (KQ.box (b := X) (o := sO mx nbx tpx) (by simp)).2
        have lY := (KQ.box (b := Y) (o := sO my nby tpy) (by simp)).2
        obtain ⟨oy, hvy, -⟩ := KQ.vy
        have HS := showM_any hvy HR2.out
        clear KQ hvy
        go_wp2_with fail
        refine HS.mono ?_; rintro e w14 ⟨rfl, hb14⟩
        have KQ := HK13.out.below hb14
        have HK14 : Hid (KS W0 mx ax nbx tpx my ay nby tpy [(bb, anO aE aN aM aS), (ab, anO aE aN aM aS), (ob, pO K A B C S T), (X, sO mx nbx tpx), (Y, sO my nby tpy), (Y + 1, rO q1 q2)] M2 M2 w14) := KQ
        clear HS hb14 HK13 x0 x1 x2 xz y0 y1 y2 yz lX lY
        obtain ⟨x0, x1, x2, xz⟩ := cells3 (KQ.box (b := X) (o := sO mx nbx tpx) (by simp)).1
        obtain ⟨y0, y1, y2, yz⟩ := cells3 (KQ.box (b := Y) (o := sO my nby tpy) (by simp)).1
        have lX := (KQ.box (b := X) (o := sO mx nbx tpx) (by simp)).2
        have lY := (KQ.box (b := Y) (o := sO my nby tpy) (by simp)).2
        obtain ⟨a0, a1, a2, a3, a4, az⟩ := cells5 (KQ.box (b := ab) (o := anO aE aN aM aS) (by simp)).1
        have la := (KQ.box (b := ab) (o := anO aE aN aM aS) (by simp)).2
        obtain ⟨b0, b1, b2, b3, b4, bz⟩ := cells5 (KQ.box (b := bb) (o := anO aE aN aM aS) (by simp)).1
        have lb := (KQ.box (b := bb) (o := anO aE aN aM aS) (by simp)).2
        obtain ⟨ox, hvx, -⟩ := KQ.vx
        have HS := tabs_any hvx
        clear KQ hvx
        generalize showP M2 = sx at *
        go_wp2_with fail
        refine HS.mono ?_; rintro e w15 ⟨rfl, hb15⟩
        have KQ := HK14.out.below hb15
        have HK15 : Hid (KS W0 mx ax nbx tpx my ay nby tpy [(bb, anO aE aN aM aS), (ab, anO aE aN aM aS), (ob, pO K A B C S T), (X, sO mx nbx tpx), (Y, sO my nby tpy), (Y + 1, rO q1 q2)] M2 M2 w15) := KQ
        clear HS hb15 HK14 x0 x1 x2 xz y0 y1 y2 yz lX lY a0 a1 a2 a3 a4 az la b0 b1 b2 b3 b4 bz lb
        obtain ⟨x0, x1, x2, xz⟩ := cells3 (KQ.box (b := X) (o := sO mx nbx tpx) (by simp)).1
        obtain ⟨y0, y1, y2, yz⟩ := cells3 (KQ.box (b := Y) (o := sO my nby tpy) (by simp)).1
        have lX := (KQ.box (b := X) (o := sO mx nbx tpx) (by simp)).2
        have lY := (KQ.box (b := Y) (o := sO my nby tpy) (by simp)).2
        obtain ⟨oy, hvy, -⟩ := KQ.vy
        have HS := tabs_any hvy
        clear KQ hvy
        generalize showT M2.tb = tx at *
        go_wp2_with fail
        refine HS.mono ?_; rintro e w16 ⟨rfl, hb16⟩
        have KQ := HK15.out.below hb16
        have HEND : Hid (KL W0 X Y (Y + 1) w16) := ⟨mx, ax, nbx, tpx, my, ay, nby, tpy, M2, q1, q2, HR2.out, HOK.out.2.1, HOK.out.2.2.1, KQ.sub (by simp)⟩
        clear HS hb16 HK15 KQ x0 x1 x2 xz y0 y1 y2 yz lX lY HOK HHE HR2
        go_wp2_with fail
        go_roundg g
        case measure => omega
        case rel => exact ⟨n + 1, by go_num, by omega, HEND⟩
    · have HBW : Hid (Below W0.heap.size W0 wr) := K0.bel
      have hne : n = len := by omega
      clear HT K0 hops ok1 ok2 hR
      subst hne
      have d1 : decide ((n : Int) < (n : Int)) = false := decide_eq_false (by omega)
      go_wp2_with fail
      go_ret
      exact ⟨rfl, HBW.out⟩
end Go.Proofs.Qxb6500293aGreatRR
