import Derived.Test.Qxb6500293aGreatRRT25
namespace Go.Proofs.Qxb6500293aGreatRR
open Go.RowKit Go.Shelf
set_option linter.unusedVariables false
set_option linter.unusedSimpArgs false
attribute [local go_sem] Oper.semAt_some

theorem map_nil98 (b : Nat) (w : World) : (binOp .eql 102 (.map (some b)) (.map none)).run Tryz.prog w = .ok (.bool false) w := by kernel_rfl
theorem map_nil99 (b : Nat) (w : World) : (binOp .eql 103 (.map (some b)) (.map none)).run Tryz.prog w = .ok (.bool false) w := by kernel_rfl
attribute [local go_sem] map_nil98 map_nil99
theorem rng_two {kt : TypeId} {w W w' : World} {b rI n s : Nat} {f : Lit → Option Nat} {left : Lit → Bool} (h : Rng kt w b rI n f left) (hb : Below w.heap.size w W) (hg : W.grownBy w' (some s)) (h1 : s ≠ b) (h2 : s ≠ rI) : Rng kt w' b rI n f left ∧ w'.rangeLeft b rI = w.rangeLeft b rI := by
  obtain ⟨a1, a2⟩ := h.kept (row := none) ⟨hb.os, hb.tape, hb.output, hb.size, fun k hk _ => hb.block k hk⟩ (by simp) (by simp)
  obtain ⟨b1, b2⟩ := a1.kept hg (by intro e; injection e; exact h1 ‹_›) (by intro e; injection e; exact h2 ‹_›)
  exact ⟨b1, b2.trans a2⟩
/-- How many of these places are dead. -/
def dcnt (t : Tbl) (pre : List Nat) : Nat := pre.countP fun p => isNilB (t[p]?.getD dE).2
theorem dcnt_all (t : Tbl) : dcnt t (items t 0 true t.length) = deadN t := by
  have e : items t 0 true t.length = List.range t.length := by
    unfold items
    rw [List.filter_eq_self]
    intro p _
    unfold metB
    simp
  rw [e]
  unfold dcnt deadN
  have key : ∀ (k : Nat), k ≤ t.length → (List.range k).countP (fun p => isNilB (t[p]?.getD dE).2) = (t.take k).countP (fun e => isNilB e.2) := by
    intro k hk
    induction k with
    | zero => simp
    | succ k ih =>
      rw [List.range_succ, List.countP_append, ih (by omega), List.take_add_one, List.countP_append, List.getElem?_eq_getElem (by omega : k < t.length)]
      simp [List.getElem?_eq_getElem (show k < t.length by omega)]
  rw [key _ (Nat.le_refl _), List.take_length]
theorem dcnt_snoc (t : Tbl) (pre : List Nat) (p : Nat) : dcnt t (pre ++ [p]) = dcnt t pre + (if isNilB (t[p]?.getD dE).2 then 1 else 0) := by
  unfold dcnt
  rw [List.countP_append]
  simp [List.countP_cons]
/-- What holds between two rounds of CheckMid's last loop. -/
def cI (w : World) (db : Nat) (t : Tbl) (pre : List Nat) (W : World) : Prop := (W.heap[db]? = some (.cells #[.int .i64 (dcnt t pre : Int)] 3) ∧ W.heap[w.heap.size]? = some (.cells #[.bool false] 4)) ∧ Below w.heap.size w W
theorem cI_own {w : World} {db B : Nat} {t : Tbl} (hB : w.heap.size ≤ B) : OwnFrom B (cI w db t) := fun s X Y row hs hg hr =>
  ⟨⟨cells_kept hs.1.1 hg (fun r e => (hr r e).2), cells_kept hs.1.2 hg (fun r e => (hr r e).2)⟩, ownFrom_below (β := Unit) (Nat.le_refl _) hB () X Y row hs.2 hg hr⟩
theorem cI_live {w W X : World} {db B m p : Nat} {t : Tbl} {pre : List Nat} (h : cI w db t pre W) (hb : Below W.heap.size W X) (hw : w.heap.size ≤ W.heap.size) (hB : B + 3 ≤ W.heap.size) (hn : isNilB (t[p]?.getD dE).2 = false) : KeepsFrom m W X ∧ KpI w.heap.size B W X ∧ cI w db t (pre ++ [p]) X := by
  refine ⟨(KeepsOthers.of_below hb).from _, KpI.below hb hw hB, ⟨?_, ?_⟩, h.2.trans (hb.mono hw)⟩
  · rw [dcnt_snoc, hn, if_neg (by simp), Nat.add_zero, hb.block _ (Array.getElem?_eq_some_iff.1 h.1.1).1]
    exact h.1.1
  · rw [hb.block _ (Array.getElem?_eq_some_iff.1 h.1.2).1]
    exact h.1.2
theorem cI_dead {w W X : World} {db B m p : Nat} {t : Tbl} {pre : List Nat} (h : cI w db t pre W) (hb : Below W.heap.size W X) (hw : w.heap.size ≤ W.heap.size) (hB : B + 3 ≤ W.heap.size) (hd : w.heap.size < db) (hdB : db < B) (hn : isNilB (t[p]?.getD dE).2 = true) :
    KeepsFrom m W (X.setCell ⟨db, 0, none⟩ (.int .i64 ((dcnt t pre : Int) + 1))) ∧ KpI w.heap.size B W (X.setCell ⟨db, 0, none⟩ (.int .i64 ((dcnt t pre : Int) + 1))) ∧ cI w db t (pre ++ [p]) (X.setCell ⟨db, 0, none⟩ (.int .i64 ((dcnt t pre : Int) + 1))) := by
  have hX := (hb.block _ (Array.getElem?_eq_some_iff.1 h.1.1).1).trans h.1.1
  refine ⟨((KeepsOthers.of_below hb).trans (KeepsOthers.setCell _ _ _)).from _, ⟨(hb.mono hw).setCell (p := ⟨db, 0, none⟩) (by dsimp only; omega) _, fun k h1 h2 => (Below.heap_setCell _ _ _ _ (by dsimp only; omega)).trans (hb.block k (by omega))⟩, ⟨?_, ?_⟩, (h.2.trans (hb.mono hw)).setCell (p := ⟨db, 0, none⟩) (by dsimp only; omega) _⟩
  · rw [heap_setCell_same hX, dcnt_snoc, hn, if_pos rfl]
    simp
  · rw [Below.heap_setCell _ _ _ _ (by dsimp only; omega), hb.block _ (Array.getElem?_eq_some_iff.1 h.1.2).1]
    exact h.1.2
theorem cm_res {W : World} {n : Nat} {tm : Array Value} (ht : tm[4]? = some (.pointer (some ⟨n, 0, none⟩))) (h0 : W.heap[n]? = some (.cells #[.bool true] 4)) : (results Tryz.f44 tm).run Tryz.prog W = .ok (.bool true) W := by
  have q0 : W.cell? ⟨n, 0, none⟩ = some (.bool true) := by simp only [World.cell?, h0]; rfl
  simp [results, go_sem, ht, q0]
theorem cm_end {w W : World} {D : Nat} (hb : Below w.heap.size w W) (h0 : W.heap[w.heap.size]? = some (.cells #[.bool false] 4)) (hD : w.heap.size ≤ D) (hK : ((W.setCell ⟨w.heap.size, 0, none⟩ (.bool true)).drew).heap[D]? = some (.deferred (some []))) :
    (((W.setCell ⟨w.heap.size, 0, none⟩ (.bool true)).drew).putObj D (.deferred none)).heap[w.heap.size]? = some (.cells #[.bool true] 4) ∧ Below w.heap.size w (((W.setCell ⟨w.heap.size, 0, none⟩ (.bool true)).drew).putObj D (.deferred none)) := by
  have e0 : ((W.setCell ⟨w.heap.size, 0, none⟩ (.bool true)).drew).heap[w.heap.size]? = some (.cells #[.bool true] 4) := heap_setCell_same h0 _
  have b0 : Below w.heap.size w ((W.setCell ⟨w.heap.size, 0, none⟩ (.bool true)).drew) := (hb.setCell (p := ⟨w.heap.size, 0, none⟩) (Nat.le_refl _) _).drew
  generalize (W.setCell ⟨w.heap.size, 0, none⟩ (.bool true)).drew = X at *
  exact ⟨cells_kept e0 (grownBy_putObj' X D (.deferred none)) (fun r e => by cases e; exact ⟨_, hK, rfl⟩), b0.trans (belowK_b (w := w) (Nat.le_refl _) X D _ _ hD hK rfl rfl)⟩
/-- CheckMid's world at the first loop. -/
theorem cm_start (w : World) (nq : Nat) (t : Tbl) : Cm w (((w.alloc (.cells #[.bool false] 4)).drewN nq).alloc (.cells #[.bool false, .bool false, .bool false, .bool false, .bool false, .bool false, .bool false, .bool false, .bool false, .bool false, .bool false, .bool false, .bool false, .bool false, .bool false, .bool false, .bool false, .bool false, .bool false, .bool false, .bool false, .bool false, .bool false, .bool false, .bool false, .bool false, .bool false, .bool false, .bool false, .bool false, .bool false, .bool false] 134)) t (D1 0) := by
  have b1 := below_drewN (below_one w (.cells #[.bool false] 4)) nq
  have e1 : ((w.alloc (.cells #[.bool false] 4)).drewN nq).heap = w.heap.push (.cells #[.bool false] 4) := by rw [heap_drewN]; rfl
  have hs : ((w.alloc (.cells #[.bool false] 4)).drewN nq).heap.size = w.heap.size + 1 := by rw [e1]; simp
  refine ⟨b1.alloc (by omega) _, ?_, List.replicate 32 false, ⟨?_, rfl⟩, Dn.start _ _⟩
  · rw [Below.heap_alloc _ _ _ (by omega), e1]
    simp
  · have := World.alloc_heap_new ((w.alloc (.cells #[.bool false] 4)).drewN nq) (.cells #[.bool false, .bool false, .bool false, .bool false, .bool false, .bool false, .bool false, .bool false, .bool false, .bool false, .bool false, .bool false, .bool false, .bool false, .bool false, .bool false, .bool false, .bool false, .bool false, .bool false, .bool false, .bool false, .bool false, .bool false, .bool false, .bool false, .bool false, .bool false, .bool false, .bool false, .bool false, .bool false] 134)
    rw [hs] at this
    exact this
set_option maxRecDepth 100000 in
set_option maxHeartbeats 8000000 in
theorem checkMid_in (own : Nat → Nat) (x : Nat) (reps : List TabR) (count h : Nat) (r : TabR) (w : World) (H : RealAt own w x reps count) (hr : reps[h]? = some r) :
    CallsIn Fence.wide 4 Tryz.prog 44 #[.pointer (some ⟨x, 0, none⟩), .int .i64 (h : Int)] w fun e w' => e = .returned (.bool true) ∧ Below w.heap.size w w' := by
  obtain ⟨nb, vt, ht, hrow, hvc⟩ := H.tabs
  have hlm := H.max
  have hh : h < reps.length := (List.getElem?_eq_some_iff.1 hr).1
  obtain ⟨hrep, _⟩ := H.rep h r hr
  obtain ⟨A, cap, rfl, hta⟩ := tabAt_of hrow hr hrep
  obtain ⟨x0, x1, x2, _, lx⟩ := id ht
  obtain ⟨a0, a1, a2, a3, a4, a5, _, lA, _⟩ := id hta
  obtain ⟨ada, ac, hva⟩ := row_slice hrep.arr
  obtain ⟨ado, oc, hvo⟩ := row_slice hrep.ord
  rw [hva] at a1
  rw [hvo] at a0
  have hsum := hrep.sum
  have hl32 := hrep.inv.len
  have l1 := fun m ty => (hrep.nums.block (w' := (w.alloc (.cells #[.bool false] 4)).drewN m) (by rw [heap_drewN]; exact Below.heap_alloc _ _ _ hrep.nums.lt)).len Tryz.underlying102 ty
  have l2 := fun m ty => (hrep.strs.block (w' := (w.alloc (.cells #[.bool false] 4)).drewN m) (by rw [heap_drewN]; exact Below.heap_alloc _ _ _ hrep.strs.lt)).len Tryz.underlying103 ty
  have l3 := fun m ty => (hrep.refs.block (w' := (w.alloc (.cells #[.bool false] 4)).drewN m) (by rw [heap_drewN]; exact Below.heap_alloc _ _ _ hrep.refs.lt)).len Tryz.underlying102 ty
  have HX : Hid (TabsAt w x (.pointer (some ⟨nb, 0, none⟩)) (.slice (some ⟨A, 0, none⟩) reps.length cap) count) := ht
  have HA : Hid (TabAt own w A h r) := hta
  have HVA : Hid (r.va = .slice ada r.a.length ac) := hva
  have HAL : Hid (r.a.length + r.nn + r.ns + r.nr = r.t.length) := hsum
  have nx : ¬ x = w.heap.size := by omega
  have nA : ¬ A = w.heap.size := by omega
  have d1 : decide ((h : Int) < 0) = false := decide_eq_false (by omega)
  have d2 : decide ((reps.length : Int) ≤ (h : Int)) = false := decide_eq_false (by omega)
  have d3 : decide (reps.length ≤ h) = false := decide_eq_false (by omega)
  have q1 : r.a.length ≤ 32 := by omega
  have q2 : r.nn ≤ 32 := by omega
  have q3 : r.ns ≤ 32 := by omega
  have q4 : r.nr ≤ 32 := by omega
  rw [← hsum] at a0 hl32
  obtain ⟨al, hal⟩ : ∃ al, al = r.a.length := ⟨_, rfl⟩
  rw [← hal] at a0 a1 HVA q1 hl32
  have HLEN : Hid (al = r.a.length) := hal
  clear hrow hvc ht hrep hta hva hvo hr H hsum hal
  generalize reps.length = rl at *
  refine callsIn_of_wp_marks Tryz.func44 rfl trivial ?_ rfl
  simp only [Tryz.ntmps44, List.size_toArray, List.length_cons, List.length_nil, Nat.reduceAdd, Nat.reduceSub, Array.replicate_succ, Array.replicate_zero, List.push_toArray, List.append_toArray, List.nil_append, List.cons_append]
  gi_wp2
  gi_quiet (fail)
  gi_wp2
  have hcm0 := cm_start w nq r.t
  generalize ((w.alloc (.cells #[.bool false] 4)).drewN nq).alloc (.cells #[.bool false, .bool false, .bool false, .bool false, .bool false, .bool false, .bool false, .bool false, .bool false, .bool false, .bool false, .bool false, .bool false, .bool false, .bool false, .bool false, .bool false, .bool false, .bool false, .bool false, .bool false, .bool false, .bool false, .bool false, .bool false, .bool false, .bool false, .bool false, .bool false, .bool false, .bool false, .bool false] 134) = W0 at hcm0 ⊢
  have HC0 : Hid (Cm w W0 r.t (D1 0)) := hcm0
  clear hcm0 l1 l2 l3 a0 a1 a2 a3 a4 a5 x0 x1 x2 d1 d2 d3
  gi_loopw [102] (fun iv wr => ∃ n : Nat, iv = .int .i64 (n : Int) ∧ n ≤ al ∧ Hid (Cm w wr r.t (D1 n))) (fun iv _ => al - (intOf iv).toNat)
  case atStart => exact ⟨0, rfl, by omega, HC0⟩
  case round =>
    obtain ⟨n, rfl, hn, HC⟩ := hrel
    have hB := HC.out.below
    by_cases hlt : n < al
    · have hrep := (HA.out.below hB).rep
      obtain ⟨p, e, h1, h2, h3⟩ := hrep.inv.arr n (by rw [← HLEN.out]; exact hlt)
      obtain ⟨g, cc, hva, hc, hg, hcell⟩ := row_cell hrep.arr (i := n) (x := i32V p) (by rw [List.getElem?_map, h1]; rfl)
      rw [HVA.out, ← HLEN.out] at hva
      cases hva
      unfold i32V at hcell
      have x0 := (HX.out.below hB).c0
      have HFI := fun p w => fromInt_any p ((n : Int) + 1) w
      have efl : Ieee.double.nearest (decide ((n : Int) + 1 < 0)) ((n : Int) + 1).natAbs 0 = fl (n + 1) := by
        rw [decide_eq_false (by omega), show ((n : Int) + 1).natAbs = n + 1 by omega]; rfl
      rw [efl] at HFI
      have HPT := cm_points HA.out HC.out (p := p) (k := numKey (n + 1)) (v := e.2) (by rw [h2, ← h3]) (D1_new (by omega))
      rw [show valV (numKey (n + 1)) = .agg #[.int .i64 2, .int .u64 (fl (n + 1)), .string ⟨#[]⟩] from rfl] at HPT
      have HNEW : Hid (D1 (n + 1) (numKey (n + 1))) := ⟨n, by omega, rfl⟩
      generalize fl (n + 1) = FN at *
      have dn : decide ((n : Int) < (al : Int)) = true := decide_eq_true (by omega)
      clear hrep h1 h2 h3 efl hB
      gi_wp2
      refine ⟨trivial, ?_⟩
      refine (callsIn_wide.2 (HFI _ _)).mono ?_
      rintro e w1 ⟨rfl, rfl⟩
      gi_wp2
      refine ⟨trivial, ?_⟩
      refine (callsIn_wide.2 HPT).mono ?_
      rintro e w2 ⟨rfl, hcm2, _⟩
      have HC2 : Hid (Cm w w2 r.t (D1 (n + 1))) := hcm2 _ (D1_succ n) HNEW.out
      clear hcm2 HPT
      gi_wp2
      go_roundw
      case rel => exact ⟨n + 1, by go_num, by omega, HC2⟩
      case measure => simp [intOf]; omega
    · obtain rfl : n = al := by omega
      have hT := HA.out.below hB
      have a2 := hT.c2
      have HM2 := hT.rep.nums
      have hrI := HC.out.lt
      clear hB hT hlt
      gi_wp2_with (gi_at_range; refine wpListIn_range_map _ HM2 rfl (.tmp 124) 102 rfl nums_keyed Tryz.underlying102 rfl ?_; intro w2 hrg2 hg2 hs2)
      go_frame
      obtain ⟨rI, hri⟩ : ∃ rI, rI = wr.heap.size := ⟨_, rfl⟩
      rw [← hri] at hrg2 hrI ⊢
      have hbn : r.bn < w.heap.size := HA.out.rep.nums.lt
      have HC2 : Hid (Cm w w2 r.t (D2 (fun kl => (numsF r.t r.a.length kl).isSome))) := by
        refine (HC.out.grown hg2 (fun r e => by cases e)).mono ?_
        intro k hk
        rw [HLEN.out] at hk
        exact D1_D2 (by rw [← HLEN.out]; exact q1) k hk
      clear HM2 a2 hg2 hs2 hri HC HC0 hn
      gi_loopw [126] (fun _ wr2 => ∃ left, Rng 31 wr2 r.bn rI r.nn (numsF r.t r.a.length) left ∧ Hid (Cm w wr2 r.t (D2 left))) (fun _ wr2 => wr2.rangeLeft r.bn rI)
      case atStart => exact ⟨_, hrg2, HC2⟩
      case round =>
        obtain ⟨left, hrg, HC⟩ := hrel
        clear HC2 hrg2
        gi_wp2_with (gi_at_next; refine wpListIn_next_u64 _ hrg rfl (.tmp 125) rfl rfl ?_ ?_)
        · intro hl0
          have hB := HC.out.below
          have hT := HA.out.below hB
          have a3 := hT.c3
          have HM3 := hT.rep.strs
          have hrI3 := HC.out.lt
          clear hB hT hrg
          gi_wp2_with (gi_at_range; refine wpListIn_range_map _ HM3 rfl (.tmp 174) 103 rfl strs_keyed Tryz.underlying103 rfl ?_; intro w3 hrg3 hg3 hs3)
          go_frame
          obtain ⟨rJ, hrj⟩ : ∃ rJ, rJ = wr.heap.size := ⟨_, rfl⟩
          rw [← hrj] at hrg3 hrI3 ⊢
          have hbs : r.bs < w.heap.size := HA.out.rep.strs.lt
          have HC3 : Hid (Cm w w3 r.t (D3 (fun kl => (strsF r.t kl).isSome))) := (HC.out.grown hg3 (fun r e => by cases e)).mono (fun k hk => .inl hk.1)
          clear HM3 a3 hg3 hs3 hrj HC hl0
          gi_loopw [176] (fun _ wr3 => ∃ left, Rng 9 wr3 r.bs rJ r.ns (strsF r.t) left ∧ Hid (Cm w wr3 r.t (D3 left))) (fun _ wr3 => wr3.rangeLeft r.bs rJ)
          case atStart => exact ⟨_, hrg3, HC3⟩
          case round =>
            obtain ⟨left, hrg, HC⟩ := hrel
            clear HC3 hrg3
            gi_wp2_with (gi_at_next; refine wpListIn_next_str _ hrg rfl (.tmp 175) rfl rfl ?_ ?_)
            · intro hl0
              have hB := HC.out.below
              have hT := HA.out.below hB
              have a4 := hT.c4
              have HM4 := hT.rep.refs
              have hrI4 := HC.out.lt
              clear hB hT hrg
              gi_wp2_with (gi_at_range; refine wpListIn_range_map _ HM4 rfl (.tmp 190) 102 rfl nums_keyed Tryz.underlying102 rfl ?_; intro w4 hrg4 hg4 hs4)
              go_frame
              obtain ⟨rK, hrk⟩ : ∃ rK, rK = wr.heap.size := ⟨_, rfl⟩
              rw [← hrk] at hrg4 hrI4 ⊢
              have hbr : r.br < w.heap.size := HA.out.rep.refs.lt
              have HC4 : Hid (Cm w w4 r.t (D4 (fun kl => (refsF r.t kl).isSome))) := (HC.out.grown hg4 (fun r e => by cases e)).mono (fun k hk => hk.elim .inl (fun h => .inr (.inl h.1)))
              clear HM4 a4 hg4 hs4 hrk HC hl0
              gi_loopw [192] (fun _ wr4 => ∃ left, Rng 31 wr4 r.br rK r.nr (refsF r.t) left ∧ Hid (Cm w wr4 r.t (D4 left))) (fun _ wr4 => wr4.rangeLeft r.br rK)
              case atStart => exact ⟨_, hrg4, HC4⟩
              case round =>
                obtain ⟨left, hrg, HC⟩ := hrel
                clear HC4 hrg4
                gi_wp2_with (gi_at_next; refine wpListIn_next_u64 _ hrg rfl (.tmp 191) rfl rfl ?_ ?_)
                · intro hl0
                  clear hrg hl0
                  gi_wp2
                  refine ⟨trivial, ?_⟩
                  refine (callsIn_wide.2 (places_any A h 0 true _)).mono ?_
                  rintro e w5 ⟨rfl, rfl⟩
                  gi_wp2
                  have hltr := HC.out.lt
                  obtain ⟨W1, hW1⟩ : ∃ W1, wr.alloc (.cells #[.int .i64 0] 3) = W1 := ⟨_, rfl⟩
                  have hs1 : W1.heap.size = wr.heap.size + 1 := by rw [← hW1]; simp
                  have hb1 : Below wr.heap.size wr W1 := by rw [← hW1]; exact below_one _ _
                  have hdb1 : W1.heap[wr.heap.size]? = some (.cells #[.int .i64 0] 3) := by rw [← hW1]; exact World.alloc_heap_new _ _
                  rw [hW1]
                  clear hW1
                  have hbw1 : Below w.heap.size w W1 := HC.out.below.trans (hb1.mono HC.out.below.size)
                  obtain ⟨W2, hW2⟩ : ∃ W2, ((W1.alloc (.cells #[.pointer (some ⟨A, h * 6, none⟩)] 119)).alloc (.cells #[.int .i64 0] 3)).alloc (.cells #[.bool true] 4) = W2 := ⟨_, rfl⟩
                  obtain ⟨hsz, hb2, _, hit, hbf⟩ := loopAt2 HA.out hbw1 lA 0 true hW2
                  rw [hW2]
                  clear hW2
                  have hI0 : cI w wr.heap.size r.t [] W2 := by
                    refine ⟨⟨?_, ?_⟩, hbw1.trans (hb2.mono (by omega))⟩
                    · rw [hb2.block _ (by omega)]; exact hdb1
                    · rw [hb2.block _ (by omega), hb1.block _ (by omega)]; exact HC.out.res
                  have HINV : Hid (Inv r.t r.a) := HA.out.rep.inv
                  obtain ⟨db, hdb⟩ : ∃ db, db = wr.heap.size := ⟨_, rfl⟩
                  rw [← hdb] at hI0 hs1 hltr hdb1 ⊢
                  clear hb1 hb2 hdb1 hbw1 HC hdb
                  rw [hs1] at hit hbf hsz
                  refine wpIn_places 4 (by omega) own w.heap.size (db + 1) A h r 0 true 21 rfl hit hbf (by omega) (by omega) rfl (cI w db r.t) (fun c pre _ => c = .ret ∧ ∃ x ∈ pre, r.t.length ≤ x) (cI_own (by omega)) (fun _ _ _ _ _ h _ _ => h) hI0 ?assign ?body ?done ?stop
                  case assign =>
                    intro l p W K hK
                    obtain ⟨ev, hev⟩ : ∃ ev, ev = r.t[p]?.getD dE := ⟨_, rfl⟩
                    rw [← hev] at hK ⊢
                    obtain ⟨⟨kT, kN, kS⟩, ⟨vT, vN, vS⟩⟩ := ev
                    simp only [entV] at hK ⊢
                    have HK : Hid (∀ a', _ → K a' _) := hK
                    clear hK
                    gi_wp2
                    exact HK.out _ (by simp [boxedA])
                  case body =>
                    rintro l pre p Bx W a' ha hBx hbx hW hci hpl
                    have hgood := good_getD HINV.out p
                    have hsW : db + 1 + 3 ≤ W.heap.size := by omega
                    have hwW : w.heap.size ≤ W.heap.size := by omega
                    have hdl : dcnt r.t pre ≤ 32 := by have : dcnt r.t pre ≤ pre.length := List.countP_le_length; omega
                    have HLV : Hid (isNilB (r.t[p]?.getD dE).2 = false → ∀ X, Below W.heap.size W X → KeepsFrom W2.heap.size W X ∧ KpI w.heap.size (db + 1) W X ∧ cI w db r.t (pre ++ [p]) X) := fun hn X hX => cI_live hci hX hwW hsW hn
                    have HDD : Hid (isNilB (r.t[p]?.getD dE).2 = true → ∀ X, Below W.heap.size W X → KeepsFrom W2.heap.size W (X.setCell ⟨db, 0, none⟩ (.int .i64 ((dcnt r.t pre : Int) + 1))) ∧ KpI w.heap.size (db + 1) W (X.setCell ⟨db, 0, none⟩ (.int .i64 ((dcnt r.t pre : Int) + 1))) ∧ cI w db r.t (pre ++ [p]) (X.setCell ⟨db, 0, none⟩ (.int .i64 ((dcnt r.t pre : Int) + 1)))) := fun hn X hX => cI_dead hci hX hwW hsW (by omega) (by omega) hn
                    have HDB : Hid (W.heap[db]? = some (.cells #[.int .i64 (dcnt r.t pre : Int)] 3)) := hci.1.1
                    have HRB : Hid (W.heap[w.heap.size]? = some (.cells #[.bool false] 4)) := hci.1.2
                    have HBXo : Hid (W.heap[Bx]? = some (entO (r.t[p]?.getD dE))) := hbx
                    have HKEY : Hid (p < r.t.length → isNilB (r.t[p]?.getD dE).1 = false) := by
                      intro hp
                      rw [List.getElem?_eq_getElem hp]
                      have hk := HINV.out.keys _ (List.getElem_mem hp)
                      exact (eqV_no _ _).2 (fun e => hk.nil (congrArg V.T (show r.t[p].1 = nilV from e)))
                    have HBAD : Hid (¬ p < r.t.length → isNilB (r.t[p]?.getD dE).1 = true) := by
                      intro hp
                      rw [List.getElem?_eq_none (by omega)]
                      rfl
                    clear hci hbx hit hbf hI0
                    generalize r.t[p]?.getD dE = ev at *
                    obtain ⟨ek, ev⟩ := ev
                    have HWk := fun w => wf_any ek w (wf_ok hgood.1.wf hgood.1.N)
                    have HWv := fun w => wf_any ev w (wf_ok hgood.2.wf hgood.2.N)
                    rw [hgood.1.wf] at HWk
                    rw [hgood.2.wf] at HWv
                    have HNk := fun w => isNil_any ek w
                    have HNv := fun w => isNil_any ev w
                    generalize dcnt r.t pre = dc at *
                    clear hgood
                    obtain ⟨kT, kN, kS⟩ := ek
                    obtain ⟨vT, vN, vS⟩ := ev
                    simp only [valV_mk] at HWk HWv HNk HNv
                    simp only at HKEY HBAD HLV HDD
                    generalize isNilB ⟨kT, kN, kS⟩ = bk at *
                    generalize isNilB ⟨vT, vN, vS⟩ = bv at *
                    have HBXc : Hid (∀ X, Below W.heap.size W X → X.cell? ⟨Bx, 0, none⟩ = some (.int .i64 kT) ∧ X.cell? ⟨Bx, 1, none⟩ = some (.int .u64 kN) ∧ X.cell? ⟨Bx, 2, none⟩ = some (.string ⟨kS.toArray⟩) ∧ X.cell? ⟨Bx, 3, none⟩ = some (.int .i64 vT) ∧ X.cell? ⟨Bx, 4, none⟩ = some (.int .u64 vN) ∧ X.cell? ⟨Bx, 5, none⟩ = some (.string ⟨vS.toArray⟩)) := by
                      intro X hX
                      have e := (hX.block Bx (Array.getElem?_eq_some_iff.1 HBXo.out).1).trans HBXo.out
                      simp [World.cell?, e]
                    have HDBc : Hid (∀ X, Below W.heap.size W X → X.cell? ⟨db, 0, none⟩ = some (.int .i64 (dc : Int)) ∧ X.frozen? ⟨db, 0, none⟩ = false) := by
                      intro X hX
                      have e := (hX.block db (Array.getElem?_eq_some_iff.1 HDB.out).1).trans HDB.out
                      simp [World.cell?, World.frozen?, e]
                    have HRBc : Hid (∀ X, Below W.heap.size W X → X.cell? ⟨w.heap.size, 0, none⟩ = some (.bool false) ∧ X.frozen? ⟨w.heap.size, 0, none⟩ = false) := by
                      intro X hX
                      have e := (hX.block w.heap.size (Array.getElem?_eq_some_iff.1 HRB.out).1).trans HRB.out
                      simp [World.cell?, World.frozen?, e]
                    clear HBXo HDB HRB
                    simp [boxedA, entV] at ha
                    subst ha
                    obtain ⟨b0, b1, b2, b3, b4, b5⟩ := HBXc.out W (Below.refl _ _)
                    gi_wp2
                    refine ⟨trivial, ?_⟩
                    refine (CallsIn.inRound l (callsIn_wide.2 (HWk _))).mono ?_
                    rintro e X1 ⟨rfl, hX1⟩
                    have HX1 : Hid (Below W.heap.size W X1) := hX1
                    clear b0 b1 b2 b3 b4 b5
                    obtain ⟨b0, b1, b2, b3, b4, b5⟩ := HBXc.out X1 hX1
                    clear hX1
                    gi_wp2
                    refine ⟨trivial, ?_⟩
                    refine (CallsIn.inRound l (callsIn_wide.2 (HWv _))).mono ?_
                    rintro e X2 ⟨rfl, hX2⟩
                    have HX2 : Hid (Below W.heap.size W X2) := below_two HX1.out hX2
                    clear b0 b1 b2 b3 b4 b5
                    obtain ⟨b0, b1, b2, b3, b4, b5⟩ := HBXc.out X2 HX2.out
                    clear hX2
                    gi_wp2
                    refine ⟨trivial, ?_⟩
                    refine (CallsIn.inRound l (callsIn_wide.2 (HNk _))).mono ?_
                    rintro e X3 ⟨rfl, hX3⟩
                    have HX3 : Hid (Below W.heap.size W X3) := below_two HX2.out hX3
                    clear b0 b1 b2 b3 b4 b5
                    obtain ⟨b0, b1, b2, b3, b4, b5⟩ := HBXc.out X3 HX3.out
                    clear hX3
                    by_cases hpt : p < r.t.length
                    · obtain rfl := HKEY.out hpt
                      clear hpt HBAD HKEY
                      gi_wp2
                      refine ⟨trivial, ?_⟩
                      refine (CallsIn.inRound l (callsIn_wide.2 (HNv _))).mono ?_
                      rintro e X4 ⟨rfl, hX4⟩
                      have HX4 : Hid (Below W.heap.size W X4) := below_two HX3.out hX4
                      obtain ⟨c0, c1⟩ := HDBc.out X4 HX4.out
                      clear b0 b1 b2 b3 b4 b5 hX4
                      cases bv
                      · gi_wp2
                        exact HLV.out (by first | rfl | trivial) _ HX4.out
                      · gi_wp2
                        exact HDD.out (by first | rfl | trivial) _ HX4.out
                    · obtain rfl := HBAD.out hpt
                      obtain ⟨c0, c1⟩ := HRBc.out X3 HX3.out
                      have HPT : Hid (r.t.length ≤ p) := by show _ ≤ _; omega
                      clear hpt HBAD HKEY
                      gi_wp2
                      exact ⟨((KeepsOthers.of_below HX3.out).trans (KeepsOthers.setCell _ _ _)).from _, rfl, p, by simp, HPT.out⟩
                  case done =>
                    rintro D W hD hci hK
                    rw [cI, dcnt_all] at hci
                    obtain ⟨⟨h1, h2⟩, hbw⟩ := hci
                    have c0 : W.cell? ⟨db, 0, none⟩ = some (.int .i64 (deadN r.t : Int)) := by simp [World.cell?, h1]
                    have c1 : W.cell? ⟨w.heap.size, 0, none⟩ = some (.bool false) := by simp [World.cell?, h2]
                    have c2 : W.frozen? ⟨w.heap.size, 0, none⟩ = false := by simp [World.frozen?, h2]
                    have a5 := (HA.out.below hbw).c5
                    have HE : Hid (Below w.heap.size w W ∧ W.heap[D]? = some (.deferred (some [])) ∧ W.heap[w.heap.size]? = some (.cells #[.bool false] 4)) := ⟨hbw, hK, h2⟩
                    have hD2 : w.heap.size ≤ D := by omega
                    generalize deadN r.t = dn at *
                    clear h1 h2 hbw hK hit hbf hI0
                    gi_wp2
                    gi_region
                    all_goals gi_wp2
                    all_goals
                      have hK2 : ((W.setCell ⟨w.heap.size, 0, none⟩ (.bool true)).drew).heap[D]? = some (.deferred (some [])) := (KeepsOthers.setCell W ⟨w.heap.size, 0, none⟩ (.bool true)).same D _ HE.out.2.1 rfl
                      refine ⟨by simp, .inl ⟨_, _, rfl, run_takeDeferred hK2, ?_⟩⟩
                      obtain ⟨q1, q2⟩ := cm_end HE.out.1 HE.out.2.2 hD2 hK2
                      exact ⟨_, cm_res rfl q1, rfl, q2⟩
                  case stop =>
                    rintro D c pre W hD ⟨k, hk, rfl⟩ ⟨rfl, q, hq, hlq⟩ hK
                    unfold items at hq
                    have := List.mem_range.1 (List.mem_filter.1 hq).1
                    omega
                · intro N p w3 hN hlx hp hrg3 hlt3 hg3 hs3 hen
                  obtain ⟨k, v, htp, k2, k3, hpk⟩ := refs_at hp
                  have hkey := HA.out.rep.inv.keys _ (List.mem_of_getElem? htp)
                  have k0 : k.T ≠ 0 := hkey.nil
                  have hC3 := HC.out.grown hg3 (fun r e => by cases e; exact hrI4)
                  have HC3 : Hid (Cm w w3 r.t (D4 left)) := hC3
                  have HPT := fun W (hW : Cm w W r.t (D4 left)) => cm_points HA.out hW (p := p) (k := k) (v := v) htp (fun hd => by
                    rcases hd with h | h | h
                    · exact k2 h
                    · exact k3 h
                    · rw [hpk, hlx] at h; cases h)
                  have HUN := fun w => unpack_any k w hkey.wf k2 k3
                  rw [hpk] at HUN
                  have HNEW : Hid (D4 (fun z => left z && !z.sameKey (.int .u64 (N : Int))) k) := .inr (.inr (by rw [hpk]; exact and_self trivial))
                  have HRG3 : Hid (Rng 31 w3 r.br rK r.nr (refsF r.t) (fun z => left z && !z.sameKey (.int .u64 (N : Int)))) := hrg3
                  have HLT : Hid (w3.rangeLeft r.br rK < wr.rangeLeft r.br rK) := hlt3
                  obtain ⟨T, N', S⟩ := k
                  simp only [valV_mk] at *
                  have b0 : (T == 0) = false := by simpa using k0
                  have b2 : (T == 2) = false := by simpa using k2
                  have b3 : (T == 3) = false := by simpa using k3
                  clear hrg hp hrg3 hlt3 hg3 hs3 htp hkey hC3 hlx hpk k0 k2 k3
                  gi_wp2
                  refine ⟨trivial, ?_⟩
                  refine (callsIn_wide.2 (HUN _)).mono ?_
                  rintro e w4 ⟨rfl, hb4⟩
                  have HB4 : Hid (Below w3.heap.size w3 w4) := hb4
                  clear hb4
                  gi_wp2
                  refine ⟨trivial, ?_⟩
                  have hs4 := HB4.out.size
                  refine (callsIn_wide.2 (HPT _ (HC3.out.of_below ?_))).mono ?_
                  · repeat (first | refine Below.setCell ?_ (by dsimp only; omega) _ | refine below_drewN ?_ _)
                    exact HB4.out.alloc (by omega) _
                  rintro e w5 ⟨rfl, hcm5, hg5⟩
                  have HC5 : Hid (Cm w w5 r.t (D4 (fun z => left z && !z.sameKey (.int .u64 (N : Int))))) := hcm5 _ (D4_step _) HNEW.out
                  have hk5 := fun hb => rng_two HRG3.out hb hg5 (by omega) (by omega)
                  obtain ⟨hR5, hL5⟩ := hk5 (by
                    repeat (first | refine Below.setCell ?_ (by dsimp only; omega) _ | refine below_drewN ?_ _)
                    exact HB4.out.alloc (by omega) _)
                  clear hk5
                  have HR5 : Hid (Rng 31 w5 r.br rK r.nr (refsF r.t) (fun z => left z && !z.sameKey (.int .u64 (N : Int))) ∧ w5.rangeLeft r.br rK < wr.rangeLeft r.br rK) := ⟨hR5, by rw [hL5]; exact HLT.out⟩
                  clear hcm5 hR5 hL5 hg5 HPT HRG3 hen HLT HC
                  gi_wp2
                  go_roundw
                  case rel => exact ⟨_, HR5.out.1, HC5⟩
                  case measure => exact HR5.out.2
            · intro s p w3 hlx hp hrg3 hlt3 hg3 hs3 hen
              obtain ⟨v, htp⟩ := strs_at hp
              have hC3 := HC.out.grown hg3 (fun r e => by cases e; exact hrI3)
              have HPT := cm_points HA.out hC3 (p := p) (k := ⟨3, 0, s⟩) (v := v) htp (fun hd => by
                rcases hd with h | h
                · cases h
                · have := h.2; rw [hlx] at this; cases this)
              rw [valV_mk] at HPT
              have HNEW : Hid (D3 (fun z => left z && !z.sameKey (.string s)) ⟨3, 0, s⟩) := .inr ⟨rfl, and_self trivial⟩
              have HRG3 : Hid (Rng 9 w3 r.bs rJ r.ns (strsF r.t) (fun z => left z && !z.sameKey (.string s))) := hrg3
              have HLT : Hid (w3.rangeLeft r.bs rJ < wr.rangeLeft r.bs rJ) := hlt3
              clear hrg hp hrg3 hlt3 hg3 hs3 htp hC3 hlx
              gi_wp2
              refine ⟨trivial, ?_⟩
              refine (callsIn_wide.2 HPT).mono ?_
              rintro e w4 ⟨rfl, hcm4, hg4⟩
              have HC4 : Hid (Cm w w4 r.t (D3 (fun z => left z && !z.sameKey (.string s)))) := hcm4 _ (D3_step _) HNEW.out
              obtain ⟨hR4, hL4⟩ := HRG3.out.kept hg4 (by intro e; injection e; omega) (by intro e; injection e; omega)
              have HR4 : Hid (Rng 9 w4 r.bs rJ r.ns (strsF r.t) (fun z => left z && !z.sameKey (.string s)) ∧ w4.rangeLeft r.bs rJ < wr.rangeLeft r.bs rJ) := ⟨hR4, by rw [hL4]; exact HLT.out⟩
              clear hcm4 hR4 hL4 hg4 HPT HRG3 hen HLT HC
              gi_wp2
              go_roundw
              case rel => exact ⟨_, HR4.out.1, HC4⟩
              case measure => exact HR4.out.2
        · intro N p w3 hN hlx hp hrg3 hlt3 hg3 hs3 hen
          obtain ⟨hia, v, htp⟩ := nums_at hp
          have hkey := HA.out.rep.inv.keys _ (List.mem_of_getElem? htp)
          have hnz : N ≠ 9223372036854775808 := hkey.zero rfl
          have hnan := hkey.nan rfl
          have hC3 := HC.out.grown hg3 (fun r e => by cases e; exact hrI)
          have HPT := cm_points HA.out hC3 (p := p) (k := ⟨2, N, []⟩) (v := v) htp (fun hd => by have := hd.2; rw [hlx] at this; cases this)
          rw [valV_mk] at HPT
          have HNEW : Hid (D2 (fun z => left z && !z.sameKey (.int .u64 (N : Int))) ⟨2, N, []⟩) := ⟨rfl, and_self trivial⟩
          have HRG3 : Hid (Rng 31 w3 r.bn rI r.nn (numsF r.t r.a.length) (fun z => left z && !z.sameKey (.int .u64 (N : Int)))) := hrg3
          have HLT : Hid (w3.rangeLeft r.bn rI < wr.rangeLeft r.bn rI) := hlt3
          have HCMP := fun p w => cmp_R p 2 N N w
          rw [cmp_self hN, decide_eq_false (by exact hnan)] at HCMP
          have HTI := fun p w => toInt_R p N w hN
          rw [← HLEN.out] at hia
          have hcs : toIntB N = false ∨ (toIntB N = true ∧ toIntV N < 1) ∨ (toIntB N = true ∧ 1 ≤ toIntV N ∧ (n : Int) < toIntV N) := by
            unfold inArr at hia
            simp at hia
            cases hBB : toIntB N
            · exact .inl rfl
            · right
              by_cases c : 1 ≤ toIntV N
              · exact .inr ⟨rfl, c, by have := hia c; omega⟩
              · exact .inl ⟨rfl, by omega⟩
          have bn1 : ((N : Int) == 9223372036854775808) = false := by rw [beq_eq_false_iff_ne]; omega
          have bn2 : decide ((N : Int) = 9223372036854775808) = false := decide_eq_false (by omega)
          have bn3 : decide (N = 9223372036854775808) = false := decide_eq_false hnz
          clear hrg hp hrg3 hlt3 hg3 hs3 htp hkey hnz hnan hC3 hlx hia
          generalize toIntV N = I at *
          generalize toIntB N = Bo at *
          gi_wp2
          refine ⟨trivial, ?_⟩
          refine (callsIn_wide.2 HPT).mono ?_
          rintro e w4 ⟨rfl, hcm4, hg4⟩
          have hC4 := hcm4 (D2 (fun z => left z && !z.sameKey (.int .u64 (N : Int)))) (D2_step _) HNEW.out
          have HC4 : Hid (Cm w w4 r.t (D2 (fun z => left z && !z.sameKey (.int .u64 (N : Int))))) := hC4
          obtain ⟨hR4, hL4⟩ := HRG3.out.kept hg4 (by intro e; injection e; omega) (by intro e; injection e; omega)
          have HR4 : Hid (Rng 31 w4 r.bn rI r.nn (numsF r.t r.a.length) (fun z => left z && !z.sameKey (.int .u64 (N : Int))) ∧ w4.rangeLeft r.bn rI < wr.rangeLeft r.bn rI) := ⟨hR4, by rw [hL4]; exact HLT.out⟩
          have x0 := (HX.out.below hC4.below).c0
          have a1 := (HA.out.below hC4.below).c1
          rw [HVA.out] at a1
          clear hcm4 hC4 hR4 hL4 hg4 HPT HRG3 hen HLT HC
          gi_wp2
          refine ⟨trivial, ?_⟩
          refine (callsIn_wide.2 (HCMP _ _)).mono ?_
          rintro e w5 ⟨rfl, rfl⟩
          gi_wp2
          refine ⟨trivial, ?_⟩
          refine (callsIn_wide.2 (HTI _ _)).mono ?_
          rintro e w5 ⟨rfl, rfl⟩
          rcases hcs with rfl | ⟨rfl, hI⟩ | ⟨rfl, hI, hI2⟩
          all_goals
            gi_wp2
            go_roundw
            case rel => exact ⟨_, HR4.out.1, HC4⟩
            case measure => exact HR4.out.2
/-- **CheckMid** holds of every table of the arena. -/
theorem checkMid_any (own : Nat → Nat) (x : Nat) (reps : List TabR) (count h : Nat) (r : TabR) (w : World) (H : RealAt own w x reps count) (hr : reps[h]? = some r) :
    Calls Tryz.prog 44 #[.pointer (some ⟨x, 0, none⟩), .int .i64 (h : Int)] w fun e w' => e = .returned (.bool true) ∧ Below w.heap.size w w' := callsIn_wide.1 (checkMid_in own x reps count h r w H hr)
end Go.Proofs.Qxb6500293aGreatRR
