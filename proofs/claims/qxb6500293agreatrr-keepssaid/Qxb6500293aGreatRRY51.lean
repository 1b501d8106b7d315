/-
  Exec walked.
-/
import Derived.Test.Qxb6500293aGreatRRY50
import Derived.Deep.LoopGhost
namespace Go.Proofs.Qxb6500293aGreatRR
open Go.RowKit
open Ieee (double)
set_option linter.unusedVariables false
set_option linter.unusedSimpArgs false

theorem Vm.enE {own : Nat → Nat} {W : World} {m a nb tp : Nat} {M : Mc} (HV : Vm own W m a nb tp M) : W.cell? ⟨m, 12, none⟩ = some (.int .i64 M.en) := by
  obtain ⟨vals, L, H⟩ := HV
  exact H.cen
/-- Exec refuses. -/
theorem exec_bad {M : Mc} {th : Int} {x y : V} (h : M.en ≠ 0 ∨ th < 0 ∨ (M.th.length : Int) ≤ th) : execP M th x y = (M, badEv) := by
  unfold execP
  rw [if_pos h]
abbrev badV : Value := .agg #[.int .i64 6, .int .i64 0, .int .i64 0, .int .i64 0, .int .u64 0, .string ⟨#[]⟩, .int .i64 0, .int .u64 0, .string ⟨#[]⟩]
set_option maxRecDepth 8000 in
set_option maxHeartbeats 2000000 in
theorem exec_1 {own : Nat → Nat} {W : World} {m a nb tp : Nat} {M : Mc} (HV : Vm own W m a nb tp M) (th : Int) (x y : V) (h : M.en ≠ 0 ∨ th < 0 ∨ (M.th.length : Int) ≤ th) :
    Calls Tryz.prog 37 #[.pointer (some ⟨m, 0, none⟩), .int .i64 th, valV x, valV y] W fun e W' => e = .returned (evV (execP M th x y).2) ∧ Nx own W m a nb tp (execP M th x y).1 W' := by
  have HO : Hid (execP M th x y = (M, badEv)) := exec_bad h
  have h' : Hid ((M.en != 0) = true ∨ ((M.en != 0) = false ∧ th < 0) ∨ ((M.en != 0) = false ∧ ¬ th < 0 ∧ (M.th.length : Int) ≤ th)) := by
    by_cases h1 : M.en = 0
    · have : (M.en != 0) = false := by simpa using h1
      by_cases h2 : th < 0
      · exact .inr (.inl ⟨this, h2⟩)
      · refine .inr (.inr ⟨this, h2, ?_⟩)
        rcases h with h | h | h
        · exact absurd h1 h
        · exact absurd h h2
        · exact h
    · exact .inl (by simpa using h1)
  obtain ⟨xT, xN, xS⟩ := x
  obtain ⟨yT, yN, yS⟩ := y
  have R1 : Rm own W m a nb tp 0 [(W.heap.size + 1 + 1, zEv), (W.heap.size + 1, vBox yT yN yS), (W.heap.size, vBox xT xN xS)] M (((W.alloc (vBox xT xN xS)).alloc (vBox yT yN yS)).alloc zEv) := (((Rm.start HV).alloc (vBox xT xN xS) rfl).alloc (vBox yT yN yS) (n := W.heap.size + 1) (by simp)).alloc zEv (n := W.heap.size + 1 + 1) (by simp)
  have HB1 : Hid (Below W.heap.size W (((W.alloc (vBox xT xN xS)).alloc (vBox yT yN yS)).alloc zEv)) := below_two (below_two (below_one _ _) (below_one _ _)) (below_one _ _)
  rw [valV_mk, valV_mk]
  clear HV h
  go_enter Tryz.func37, Tryz.ntmps37
  go_upto_region 1 with fail
  generalize ((W.alloc (.cells #[.int .i64 xT, .int .u64 (xN : Int), .string ⟨xS.toArray⟩] 33)).alloc (.cells #[.int .i64 yT, .int .u64 (yN : Int), .string ⟨yS.toArray⟩] 33)).alloc zEv = w1 at *
  obtain ⟨own1, hv1, hN1, hX1⟩ := R1.vmX
  have c12 := hv1.enE
  obtain ⟨c9, h5⟩ := hv1.c9V
  obtain ⟨_, _, qm⟩ := hv1.cellM (Below.refl _ _)
  obtain ⟨e60, e61, e62, e63, e64, e65, e66, e67, e68, z6⟩ := cells9 (R1.rn.box (b := W.heap.size + 1 + 1) (o := zEv) (by simp)).1
  have HF : Hid (∀ x0 x1 x2 x3 x4 x5 x6 x7 x8, Nx own W m a nb tp M (putE w1 (W.heap.size + 1 + 1) x0 x1 x2 x3 x4 x5 x6 x7 x8)) := fun x0 x1 x2 x3 x4 x5 x6 x7 x8 => R1.rn.putE (by simp) x0 x1 x2 x3 x4 x5 x6 x7 x8
  have hh := h'.out
  generalize M.en = en at *
  generalize M.th.length = tl at *
  clear h' hv1 hN1 hX1 R1 HB1
  rcases hh with h1 | ⟨h1, h2⟩ | ⟨h1, h2, h3⟩
  all_goals
    go_wp2_with fail
    refine bodyPost_ret (v := badV) (by simp [results, go_sem, e60, e61, e62, e63, e64, e65, e66, e67, e68]) rfl ?_
    rw [HO.out]
    exact ⟨rfl, HF.out _ _ _ _ _ _ _ _ _⟩
theorem Rn.setE0 {own : Nat → Nat} {W w : World} {m a nb tp i : Nat} {fs : Option Value} {B : List (Nat × Obj)} {M : Mc} (h : Rn own W m a nb tp i fs B M w) {n : Nat} (h1 : (n, zEv) ∈ B) (x0 x1 x2 x3 x4 x5 x6 x7 x8 : Value) : Rn own W m a nb tp i fs [(n, .cells #[x0, x1, x2, x3, x4, x5, x6, x7, x8] 85)] M (Go.Proofs.Qxb6500293aGreatRR.putE w n x0 x1 x2 x3 x4 x5 x6 x7 x8) := by
  have m1 : n ∈ B.map Prod.fst := List.mem_map_of_mem (f := Prod.fst) h1
  have hz := ((((((((h.weak.put m1 0 x0).put m1 1 x1).put m1 2 x2).put m1 3 x3).put m1 4 x4).put m1 5 x5).put m1 6 x6).put m1 7 x7).put m1 8 x8
  refine hz.rn ?_
  intro p hp
  rw [List.mem_singleton] at hp
  subst hp
  exact ⟨m1, putE_block (h.box h1).1 x0 x1 x2 x3 x4 x5 x6 x7 x8⟩
set_option maxRecDepth 8000 in
set_option maxHeartbeats 4000000 in
theorem exec_2 {own : Nat → Nat} {W : World} {m a nb tp : Nat} {M : Mc} (HV : Vm own W m a nb tp M) (hA : Alive M none) {i : Nat} (hi : i < M.th.length) (x y : V) (hx : x.Ok) (hy : y.Ok) (h : validP M x = false ∨ validP M y = false) :
    Calls Tryz.prog 37 #[.pointer (some ⟨m, 0, none⟩), .int .i64 (i : Int), valV x, valV y] W fun e W' => e = .returned (evV (execP M (i : Int) x y).2) ∧ Nx own W m a nb tp (execP M (i : Int) x y).1 W' := by
  have HH : Hid (validP M x = false ∨ validP M y = false) := h
  clear h
  have hen : (M.en != 0) = false := by simp [hA.en]
  have hcs9 : M.cs.length ≤ 100000 := by have := hA.cl.cs24; omega
  have HI : Hid (i < M.th.length ∧ Alive M none) := ⟨hi, hA⟩
  have HVX : Hid (∀ {own' : Nat → Nat} {w : World}, Vm own' w m a nb tp M → Calls Tryz.prog 58 #[.pointer (some ⟨m, 0, none⟩), valV x] w fun e w' => e = .returned (.bool (validP M x)) ∧ Below w.heap.size w w') := fun hv => valid_any hv x hx hcs9
  have HVY : Hid (∀ {own' : Nat → Nat} {w : World}, Vm own' w m a nb tp M → Calls Tryz.prog 58 #[.pointer (some ⟨m, 0, none⟩), valV y] w fun e w' => e = .returned (.bool (validP M y)) ∧ Below w.heap.size w w') := fun hv => valid_any hv y hy hcs9
  obtain ⟨xT, xN, xS⟩ := x
  obtain ⟨yT, yN, yS⟩ := y
  have R1 : Rm own W m a nb tp i [(W.heap.size + 1 + 1, zEv), (W.heap.size + 1, vBox yT yN yS), (W.heap.size, vBox xT xN xS)] M (((W.alloc (vBox xT xN xS)).alloc (vBox yT yN yS)).alloc zEv) := (((Rm.start HV).alloc (vBox xT xN xS) rfl).alloc (vBox yT yN yS) (n := W.heap.size + 1) (by simp)).alloc zEv (n := W.heap.size + 1 + 1) (by simp)
  rw [valV_mk, valV_mk]
  clear HV hA hx hy
  go_enter Tryz.func37, Tryz.ntmps37
  go_upto_region 1 with fail
  generalize ((W.alloc (.cells #[.int .i64 xT, .int .u64 (xN : Int), .string ⟨xS.toArray⟩] 33)).alloc (.cells #[.int .i64 yT, .int .u64 (yN : Int), .string ⟨yS.toArray⟩] 33)).alloc zEv = w1 at *
  obtain ⟨own1, hv1, hN1, hX1⟩ := R1.vmX
  have c12 := hv1.enE
  obtain ⟨c9, h5⟩ := hv1.c9V
  obtain ⟨_, _, qm⟩ := hv1.cellM (Below.refl _ _)
  obtain ⟨x0, x1, x2, _⟩ := R1.val (b := W.heap.size) (T := xT) (N := xN) (S := xS) (by simp)
  have hVX := HVX.out hv1
  rw [valV_mk] at hVX
  have hlti : (i : Int) < (M.th.length : Int) := by omega
  have hi0 : ¬ (i : Int) < 0 := by omega
  have hnle : ¬ (M.th.length : Int) ≤ (i : Int) := by omega
  have HLEN : Hid (∃ tl, tl = M.th.length) := ⟨_, rfl⟩
  obtain ⟨tl, htl⟩ : ∃ tl, tl = M.th.length := ⟨_, rfl⟩
  rw [← htl] at c9 h5 hlti hnle hi
  have HTL : Hid (tl = M.th.length) := htl
  clear htl HLEN hv1 hN1 hX1 HVX hcs9
  generalize M.en = en at *
  go_wp2_with fail
  refine hVX.mono ?_; rintro e w2 ⟨rfl, hb2⟩
  have R2 := R1.below hb2
  obtain ⟨own2, hv2, _⟩ := R2.vm
  obtain ⟨y0, y1, y2, _⟩ := R2.val (b := W.heap.size + 1) (T := yT) (N := yN) (S := yS) (by simp)
  have hVY := HVY.out hv2
  rw [valV_mk] at hVY
  clear hVX hb2 R1 hv2 HVY x0 x1 x2 c9 c12 qm
  go_wp2_with fail
  refine hVY.mono ?_; rintro e w3 ⟨rfl, hb3⟩
  have R3 := R2.below hb3
  clear hVY hb3 R2 y0 y1 y2
  obtain ⟨own3, hv3, hN3, hX3⟩ := R3.vmX
  obtain ⟨c9, h5'⟩ := hv3.c9V
  rw [← HTL.out] at c9
  obtain ⟨_, _, qm⟩ := hv3.cellM (Below.refl _ _)
  have i1 := hv3.stE HI.out.1
  have i2 : w3.frozen? ⟨a, i * 5, none⟩ = false := by obtain ⟨vals, L, H⟩ := hv3; exact H.az _
  have ialt := hv3.alt
  obtain ⟨e60, e61, e62, e63, e64, e65, e66, e67, e68, z6⟩ := cells9 (R3.rn.box (b := W.heap.size + 1 + 1) (o := zEv) (by simp)).1
  have HO : Hid (execP M (i : Int) ⟨xT, xN, xS⟩ ⟨yT, yN, yS⟩ = (M, badEv)) := by show _ = _; unfold execP; rw [if_neg (by intro h; rcases h with h | h | h; exact h HI.out.2.en; omega; have := HI.out.1; omega)]; rw [if_pos HH.out]
  have HF : Hid (∀ x0 x1 x2 x3 x4 x5 x6 x7 x8, Nx own W m a nb tp M (putE w3 (W.heap.size + 1 + 1) x0 x1 x2 x3 x4 x5 x6 x7 x8)) := fun x0 x1 x2 x3 x4 x5 x6 x7 x8 => R3.rn.putE (by simp) x0 x1 x2 x3 x4 x5 x6 x7 x8
  have hh := HH.out
  generalize validP M ⟨xT, xN, xS⟩ = vx at *
  generalize validP M ⟨yT, yN, yS⟩ = vy at *
  clear hv3 hN3 hX3 R3 HH
  cases vx
  · go_wp2_with fail
    refine bodyPost_ret (v := badV) (by simp [results, go_sem, e60, e61, e62, e63, e64, e65, e66, e67, e68]) rfl ?_
    rw [HO.out]
    exact ⟨rfl, HF.out _ _ _ _ _ _ _ _ _⟩
  · cases vy
    · go_wp2_with fail
      refine bodyPost_ret (v := badV) (by simp [results, go_sem, e60, e61, e62, e63, e64, e65, e66, e67, e68]) rfl ?_
      rw [HO.out]
      exact ⟨rfl, HF.out _ _ _ _ _ _ _ _ _⟩
    · exfalso
      rcases hh with h | h <;> cases h
set_option maxRecDepth 8000 in
set_option maxHeartbeats 4000000 in
theorem exec_3 {own : Nat → Nat} {W : World} {m a nb tp : Nat} {M : Mc} (HV : Vm own W m a nb tp M) (hA : Alive M none) {i : Nat} (hi : i < M.th.length) (x y : V) (hx : x.Ok) (hy : y.Ok) (hv1 : validP M x = true) (hv2 : validP M y = true) (hs : (M.t i).st ≠ 1 ∧ (M.t i).st ≠ 2 ∧ (M.t i).st ≠ 3) :
    Calls Tryz.prog 37 #[.pointer (some ⟨m, 0, none⟩), .int .i64 (i : Int), valV x, valV y] W fun e W' => e = .returned (evV (execP M (i : Int) x y).2) ∧ Nx own W m a nb tp (execP M (i : Int) x y).1 W' := by
  have HVV : Hid (validP M x = true ∧ validP M y = true) := ⟨hv1, hv2⟩
  clear hv1 hv2
  have HS : Hid ((M.t i).st ≠ 1 ∧ (M.t i).st ≠ 2 ∧ (M.t i).st ≠ 3) := hs
  clear hs
  have hen : (M.en != 0) = false := by simp [hA.en]
  have hcs9 : M.cs.length ≤ 100000 := by have := hA.cl.cs24; omega
  have HI : Hid (i < M.th.length ∧ Alive M none) := ⟨hi, hA⟩
  have HVX : Hid (∀ {own' : Nat → Nat} {w : World}, Vm own' w m a nb tp M → Calls Tryz.prog 58 #[.pointer (some ⟨m, 0, none⟩), valV x] w fun e w' => e = .returned (.bool (validP M x)) ∧ Below w.heap.size w w') := fun hv => valid_any hv x hx hcs9
  have HVY : Hid (∀ {own' : Nat → Nat} {w : World}, Vm own' w m a nb tp M → Calls Tryz.prog 58 #[.pointer (some ⟨m, 0, none⟩), valV y] w fun e w' => e = .returned (.bool (validP M y)) ∧ Below w.heap.size w w') := fun hv => valid_any hv y hy hcs9
  obtain ⟨xT, xN, xS⟩ := x
  obtain ⟨yT, yN, yS⟩ := y
  have R1 : Rm own W m a nb tp i [(W.heap.size + 1 + 1, zEv), (W.heap.size + 1, vBox yT yN yS), (W.heap.size, vBox xT xN xS)] M (((W.alloc (vBox xT xN xS)).alloc (vBox yT yN yS)).alloc zEv) := (((Rm.start HV).alloc (vBox xT xN xS) rfl).alloc (vBox yT yN yS) (n := W.heap.size + 1) (by simp)).alloc zEv (n := W.heap.size + 1 + 1) (by simp)
  rw [valV_mk, valV_mk]
  clear HV hA hx hy
  go_enter Tryz.func37, Tryz.ntmps37
  go_upto_region 1 with fail
  generalize ((W.alloc (.cells #[.int .i64 xT, .int .u64 (xN : Int), .string ⟨xS.toArray⟩] 33)).alloc (.cells #[.int .i64 yT, .int .u64 (yN : Int), .string ⟨yS.toArray⟩] 33)).alloc zEv = w1 at *
  obtain ⟨own1, hv1, hN1, hX1⟩ := R1.vmX
  have c12 := hv1.enE
  obtain ⟨c9, h5⟩ := hv1.c9V
  obtain ⟨_, _, qm⟩ := hv1.cellM (Below.refl _ _)
  obtain ⟨x0, x1, x2, _⟩ := R1.val (b := W.heap.size) (T := xT) (N := xN) (S := xS) (by simp)
  have hVX := HVX.out hv1
  rw [valV_mk] at hVX
  have hlti : (i : Int) < (M.th.length : Int) := by omega
  have hi0 : ¬ (i : Int) < 0 := by omega
  have hnle : ¬ (M.th.length : Int) ≤ (i : Int) := by omega
  have HLEN : Hid (∃ tl, tl = M.th.length) := ⟨_, rfl⟩
  obtain ⟨tl, htl⟩ : ∃ tl, tl = M.th.length := ⟨_, rfl⟩
  rw [← htl] at c9 h5 hlti hnle hi
  have HTL : Hid (tl = M.th.length) := htl
  clear htl HLEN hv1 hN1 hX1 HVX hcs9
  generalize M.en = en at *
  go_wp2_with fail
  refine hVX.mono ?_; rintro e w2 ⟨rfl, hb2⟩
  have R2 := R1.below hb2
  obtain ⟨own2, hv2, _⟩ := R2.vm
  obtain ⟨y0, y1, y2, _⟩ := R2.val (b := W.heap.size + 1) (T := yT) (N := yN) (S := yS) (by simp)
  have hVY := HVY.out hv2
  rw [valV_mk] at hVY
  clear hVX hb2 R1 hv2 HVY x0 x1 x2 c9 c12 qm
  go_wp2_with fail
  refine hVY.mono ?_; rintro e w3 ⟨rfl, hb3⟩
  have R3 := R2.below hb3
  clear hVY hb3 R2 y0 y1 y2
  obtain ⟨own3, hv3, hN3, hX3⟩ := R3.vmX
  obtain ⟨c9, h5'⟩ := hv3.c9V
  rw [← HTL.out] at c9
  obtain ⟨_, _, qm⟩ := hv3.cellM (Below.refl _ _)
  have i1 := hv3.stE HI.out.1
  have i2 : w3.frozen? ⟨a, i * 5, none⟩ = false := by obtain ⟨vals, L, H⟩ := hv3; exact H.az _
  have ialt := hv3.alt
  obtain ⟨e60, e61, e62, e63, e64, e65, e66, e67, e68, z6⟩ := cells9 (R3.rn.box (b := W.heap.size + 1 + 1) (o := zEv) (by simp)).1
  have HO : Hid (execP M (i : Int) ⟨xT, xN, xS⟩ ⟨yT, yN, yS⟩ = (M, badEv)) := by show _ = _; unfold execP; rw [if_neg (by intro h; rcases h with h | h | h; exact h HI.out.2.en; omega; have := HI.out.1; omega)]; rw [if_neg (by rw [HVV.out.1, HVV.out.2]; decide), Int.toNat_natCast, if_neg HS.out.1, if_neg (fun h => by rcases h with h | h; exact HS.out.2.1 h; exact HS.out.2.2 h)]
  have HF : Hid (∀ x0 x1 x2 x3 x4 x5 x6 x7 x8, Nx own W m a nb tp M (putE w3 (W.heap.size + 1 + 1) x0 x1 x2 x3 x4 x5 x6 x7 x8)) := fun x0 x1 x2 x3 x4 x5 x6 x7 x8 => R3.rn.putE (by simp) x0 x1 x2 x3 x4 x5 x6 x7 x8
  rw [HVV.out.1, HVV.out.2]
  obtain ⟨g1, g2, g3⟩ := HS.out
  generalize (M.t i).st = sx at *
  have q1 : ((sx : Int) == 1) = false := by rw [beq_eq_false_iff_ne]; omega
  have q2 : ((sx : Int) == 2) = false := by rw [beq_eq_false_iff_ne]; omega
  have q3 : ((sx : Int) == 3) = false := by rw [beq_eq_false_iff_ne]; omega
  clear hv3 hN3 hX3 R3 HS g1 g2 g3
  go_wp2_with fail
  refine bodyPost_ret (v := badV) (by simp [results, go_sem, e60, e61, e62, e63, e64, e65, e66, e67, e68]) rfl ?_
  rw [HO.out]
  exact ⟨rfl, HF.out _ _ _ _ _ _ _ _ _⟩
theorem Vm.fnE {own : Nat → Nat} {W : World} {m a nb tp : Nat} {M : Mc} (HV : Vm own W m a nb tp M) {k : Nat} (hk : k < M.th.length) : W.cell? ⟨a, k * 5 + 1, none⟩ = some (i64 (M.t k).fn) := by
  obtain ⟨vals, L, H⟩ := HV
  obtain ⟨e1, h5', _⟩ := H.thr hk
  have ts := (H.ts k h5').2
  rw [e1] at ts
  exact ts
set_option maxRecDepth 8000 in
set_option maxHeartbeats 4000000 in
theorem exec_4 {own : Nat → Nat} {W : World} {m a nb tp : Nat} {M : Mc} (HV : Vm own W m a nb tp M) (hA : Alive M none) {i : Nat} (hi : i < M.th.length) (x y : V) (hx : x.Ok) (hy : y.Ok) (hv1 : validP M x = true) (hv2 : validP M y = true) (hs : (M.t i).st = 1) :
    Calls Tryz.prog 37 #[.pointer (some ⟨m, 0, none⟩), .int .i64 (i : Int), valV x, valV y] W fun e W' => e = .returned (evV (execP M (i : Int) x y).2) ∧ Nx own W m a nb tp (execP M (i : Int) x y).1 W' := by
  have HVV : Hid (validP M x = true ∧ validP M y = true) := ⟨hv1, hv2⟩
  clear hv1 hv2
  have HS : Hid ((M.t i).st = 1) := hs
  clear hs
  have hen : (M.en != 0) = false := by simp [hA.en]
  have hcs9 : M.cs.length ≤ 100000 := by have := hA.cl.cs24; omega
  have HOK : Hid (x.N < 18446744073709551616 ∧ y.N < 18446744073709551616) := ⟨hx.N, hy.N⟩
  have HI : Hid (i < M.th.length ∧ Alive M none) := ⟨hi, hA⟩
  have HVX : Hid (∀ {own' : Nat → Nat} {w : World}, Vm own' w m a nb tp M → Calls Tryz.prog 58 #[.pointer (some ⟨m, 0, none⟩), valV x] w fun e w' => e = .returned (.bool (validP M x)) ∧ Below w.heap.size w w') := fun hv => valid_any hv x hx hcs9
  have HVY : Hid (∀ {own' : Nat → Nat} {w : World}, Vm own' w m a nb tp M → Calls Tryz.prog 58 #[.pointer (some ⟨m, 0, none⟩), valV y] w fun e w' => e = .returned (.bool (validP M y)) ∧ Below w.heap.size w w') := fun hv => valid_any hv y hy hcs9
  obtain ⟨xT, xN, xS⟩ := x
  obtain ⟨yT, yN, yS⟩ := y
  have R1 : Rm own W m a nb tp i [(W.heap.size + 1 + 1, zEv), (W.heap.size + 1, vBox yT yN yS), (W.heap.size, vBox xT xN xS)] M (((W.alloc (vBox xT xN xS)).alloc (vBox yT yN yS)).alloc zEv) := (((Rm.start HV).alloc (vBox xT xN xS) rfl).alloc (vBox yT yN yS) (n := W.heap.size + 1) (by simp)).alloc zEv (n := W.heap.size + 1 + 1) (by simp)
  rw [valV_mk, valV_mk]
  clear HV hA hx hy
  go_enter Tryz.func37, Tryz.ntmps37
  go_upto_region 1 with fail
  generalize ((W.alloc (.cells #[.int .i64 xT, .int .u64 (xN : Int), .string ⟨xS.toArray⟩] 33)).alloc (.cells #[.int .i64 yT, .int .u64 (yN : Int), .string ⟨yS.toArray⟩] 33)).alloc zEv = w1 at *
  obtain ⟨own1, hv1, hN1, hX1⟩ := R1.vmX
  have c12 := hv1.enE
  obtain ⟨c9, h5⟩ := hv1.c9V
  obtain ⟨_, _, qm⟩ := hv1.cellM (Below.refl _ _)
  obtain ⟨x0, x1, x2, _⟩ := R1.val (b := W.heap.size) (T := xT) (N := xN) (S := xS) (by simp)
  have hVX := HVX.out hv1
  rw [valV_mk] at hVX
  have hlti : (i : Int) < (M.th.length : Int) := by omega
  have hi0 : ¬ (i : Int) < 0 := by omega
  have hnle : ¬ (M.th.length : Int) ≤ (i : Int) := by omega
  have HLEN : Hid (∃ tl, tl = M.th.length) := ⟨_, rfl⟩
  obtain ⟨tl, htl⟩ : ∃ tl, tl = M.th.length := ⟨_, rfl⟩
  rw [← htl] at c9 h5 hlti hnle hi
  have HTL : Hid (tl = M.th.length) := htl
  clear htl HLEN hv1 hN1 hX1 HVX hcs9
  generalize M.en = en at *
  go_wp2_with fail
  refine hVX.mono ?_; rintro e w2 ⟨rfl, hb2⟩
  have R2 := R1.below hb2
  obtain ⟨own2, hv2, _⟩ := R2.vm
  obtain ⟨y0, y1, y2, _⟩ := R2.val (b := W.heap.size + 1) (T := yT) (N := yN) (S := yS) (by simp)
  have hVY := HVY.out hv2
  rw [valV_mk] at hVY
  clear hVX hb2 R1 hv2 HVY x0 x1 x2 c9 c12 qm
  go_wp2_with fail
  refine hVY.mono ?_; rintro e w3 ⟨rfl, hb3⟩
  have R3 := R2.below hb3
  clear hVY hb3 R2 y0 y1 y2
  obtain ⟨own3, hv3, hN3, hX3⟩ := R3.vmX
  obtain ⟨c9, h5'⟩ := hv3.c9V
  rw [← HTL.out] at c9
  obtain ⟨_, _, qm⟩ := hv3.cellM (Below.refl _ _)
  have i1 := hv3.stE HI.out.1
  have i2 : w3.frozen? ⟨a, i * 5, none⟩ = false := by obtain ⟨vals, L, H⟩ := hv3; exact H.az _
  have ialt := hv3.alt
  obtain ⟨e60, e61, e62, e63, e64, e65, e66, e67, e68, z6⟩ := cells9 (R3.rn.box (b := W.heap.size + 1 + 1) (o := zEv) (by simp)).1
  rw [HVV.out.1, HVV.out.2]
  rw [HS.out] at i1
  have va : okV M ⟨xT, xN, xS⟩ := ⟨HVV.out.1, HOK.out.1⟩
  have hA := HI.out.2
  have hti := hA.th i HI.out.1
  have hcl := hA.clo hti.fn
  have hpe := hA.st.each _ (hA.prc hti.fn)
  have h24 := hA.cl.cs24
  have h13 := hA.st.pr13
  have hemp := hti.dead (.inl HS.out)
  have f1 := hv3.fnE HI.out.1
  have hstk : ∀ n cp, w3.cell? ⟨a, i * 5 + 2, none⟩ = some (.slice (some ⟨w3.heap.size, 0, none⟩) n cp) → False := fun n cp h => by
    obtain ⟨vals, L, H⟩ := hv3
    obtain ⟨s2, srow, _⟩ := H.skRow HI.out.1
    rw [s2] at h
    injection h with h
    have := ownsRow_lt srow w3.heap.size (by rw [h]; rfl)
    omega
  have R4 := (R3.below (below_drewN (Below.refl _ _) 1)).alloc (vBox xT xN xS) (n := w3.heap.size) rfl
  obtain ⟨own4, hv4, hN4, hX4⟩ := R4.vmX
  have hb34 : Below w3.heap.size w3 ((w3.drewN 1).alloc (vBox xT xN xS)) := below_two (below_drewN (Below.refl _ _) 1) (below_one _ _)
  have hAV : AV ((w3.drewN 1).alloc (vBox xT xN xS)).heap.size ((w3.drewN 1).alloc (vBox xT xN xS)) (.slice (some ⟨w3.heap.size, 0, none⟩) 1 1) [⟨xT, xN, xS⟩] := by
    have bb := (R4.rn.box (b := w3.heap.size) (o := vBox xT xN xS) (by simp)).1
    refine ⟨w3.heap.size, 0, 1, rfl, heap_lt bb, ?_, .inl rfl⟩
    intro j u hu
    rw [Nat.zero_add, box_cell bb]
    simpa [valC] using hu
  have hEN := enter_any hv4 HI.out.1 (c := (M.t i).fn) hti.fn hcl.1 hpe.1 hpe.2.2.1 (by omega) (by omega) (by rw [hemp.1]; simp) (by rw [hemp.2.1]; simp) [⟨xT, xN, xS⟩] w3.heap.size 0 (by simp) hAV (by omega) (fun n cp h => (hstk n cp ((hb34.cell (p := ⟨a, i * 5 + 2, none⟩) ialt).symm.trans h)).elim) 0 (by omega) false
  have hPL : i < (enterP M i (M.t i).fn [⟨xT, xN, xS⟩] 0 false).th.length := by unfold enterP; rw [th_setT]; exact HI.out.1
  have HPL : Hid (i < (enterP M i (M.t i).fn [⟨xT, xN, xS⟩] 0 false).th.length) := hPL
  have HX4 : Hid (∀ M2 w2, Nx own4 ((w3.drewN 1).alloc (vBox xT xN xS)) m a nb tp M2 w2 → Rn own W m a nb tp i (w2.cell? ⟨a, i * 5 + 3, none⟩) [(w3.heap.size, vBox xT xN xS), (W.heap.size + 1 + 1, zEv), (W.heap.size + 1, vBox yT yN yS), (W.heap.size, vBox xT xN xS)] M2 w2) := hX4
  have HAK : Hid (Alive (firstP M i ⟨xT, xN, xS⟩) (some i) ∧ i < (firstP M i ⟨xT, xN, xS⟩).th.length) := ⟨hA.first HI.out.1 HS.out [⟨xT, xN, xS⟩] (fun v hv => by rw [List.mem_singleton] at hv; rw [hv]; exact va), by show i < (Mc.setT _ i _).th.length; rw [th_setT]; exact hPL⟩
  have HO : Hid (execP M (i : Int) ⟨xT, xN, xS⟩ ⟨yT, yN, yS⟩ = execL (firstP M i ⟨xT, xN, xS⟩) i) := by show _ = _; unfold execP; rw [if_neg (by intro h; rcases h with h | h | h; exact h HI.out.2.en; omega; have := HI.out.1; omega)]; rw [if_neg (by rw [HVV.out.1, HVV.out.2]; decide), Int.toNat_natCast, if_pos HS.out]
  have HFI : Hid ((firstP M i ⟨xT, xN, xS⟩) = (enterP M i (M.t i).fn [⟨xT, xN, xS⟩] 0 false).setT i { (enterP M i (M.t i).fn [⟨xT, xN, xS⟩] 0 false).t i with st := 4 }) := rfl
  obtain ⟨x0, x1, x2, _⟩ := R3.val (b := W.heap.size) (T := xT) (N := xN) (S := xS) (by simp)
  have hlx := (R3.rn.box (b := W.heap.size) (o := vBox xT xN xS) (by simp)).2.2.1
  have hfn9 : (M.t i).fn ≤ 100 := by have := hti.fn; omega
  clear hv3 hN3 hX3 R3 va hPL hA hti hcl hpe hemp hstk R4 hv4 hN4 hX4 hb34 hAV
  rw [show ([⟨xT, xN, xS⟩] : List V).length = 1 from rfl] at hEN
  generalize (enterP M i (M.t i).fn [⟨xT, xN, xS⟩] 0 false) = M5 at *
  generalize (firstP M i ⟨xT, xN, xS⟩) = MF at *
  generalize (M.t i).fn = fn at *
  go_wp2_with fail
  go_region_with (go_at_call 59; refine hEN.mono ?_; rintro e w5 ⟨rfl, hnx⟩; have HNX : Hid (Nx own4 ((w3.drewN 1).alloc (vBox xT xN xS)) m a nb tp M5 w5) := hnx; clear hnx)
  all_goals
    have R5 := HX4.out _ _ HNX.out
    obtain ⟨own5, hv5, hN5, hX5⟩ := R5.vm
    have i1 := hv5.stE HPL.out
    have i2 : w5.frozen? ⟨a, i * 5, none⟩ = false := by obtain ⟨vals, L, H⟩ := hv5; exact H.az _
    have ialt5 := hv5.alt
    have R6 : Rn own W m a nb tp i ((w5.setCell ⟨a, i * 5, none⟩ (.int .i64 4)).cell? ⟨a, i * 5 + 3, none⟩) [(w3.heap.size, vBox xT xN xS), (W.heap.size + 1 + 1, zEv), (W.heap.size + 1, vBox yT yN yS), (W.heap.size, vBox xT xN xS)] MF (w5.setCell ⟨a, i * 5, none⟩ (.int .i64 4)) := by rw [HFI.out]; exact hX5 _ _ (hv5.setSt HPL.out 4)
    clear hEN R5 hv5 hN5 hX5 HX4 HNX HFI
    generalize (M5.t i).st = s5 at *
    go_upto_region 16 with fail
    go_loopg [13] (meas MF i) (fun g s13 wr => ∃ Mx : Mc, Hid (meas Mx i = g ∧ Alive Mx (some i) ∧ i < Mx.th.length ∧ (∃ fs, Rn own W m a nb tp i fs [(W.heap.size + 1 + 1, zEv)] Mx wr) ∧ execL MF i = execL Mx i))
    case atStart => exact ⟨MF, rfl, HAK.out.1, HAK.out.2, ⟨_, R6.sub (by simp)⟩, rfl⟩
    case round =>
      obtain ⟨Mx, HR⟩ := hrel
      obtain ⟨hg, hAx, hix, ⟨fs, Rx⟩, hex⟩ := HR.out
      obtain ⟨ownx, hvx, hNx', hXx⟩ := Rx.vm
      have HRU := run_vm hvx hAx hix
      have hRK := run_keeps hAx hix
      have HX : Hid (∀ M2 w2, Nx ownx wr m a nb tp M2 w2 → Rn own W m a nb tp i (w2.cell? ⟨a, i * 5 + 3, none⟩) [(W.heap.size + 1 + 1, zEv)] M2 w2) := hXx
      have HGO : Hid ((runP Mx i).2.2 = false → (meas (runP Mx i).1 i < gk ∧ Alive (runP Mx i).1 (some i) ∧ i < (runP Mx i).1.th.length ∧ execL MF i = execL (runP Mx i).1 i)) := fun h => ⟨by have := (hRK.on h).2.1; omega, (hRK.on h).1, by have := (hRK.on h).2.2; omega, by rw [hex]; exact execL_go hAx hix h⟩
      have HEND : Hid ((runP Mx i).2.2 = true → execL MF i = ((runP Mx i).1, (runP Mx i).2.1)) := fun h => by rw [hex]; exact execL_end h
      clear hRK hXx hNx' hvx Rx HR hAx hix hex hg
      generalize runP Mx i = r at *
      obtain ⟨rM, ⟨K', h', E', ⟨pT, pN, pS⟩, ⟨sT, sN, sS⟩⟩, rb⟩ := r
      simp only [evV] at HRU HGO HEND
      go_wp2_with fail
      refine HRU.mono ?_; rintro e w7 ⟨rfl, hnx⟩
      have R7 := HX.out _ _ hnx
      have R8 := R7.alloc (.cells #[i64 K', i64 h', .int .i64 E', .int .i64 pT, .int .u64 (pN : Int), .string ⟨pS.toArray⟩, .int .i64 sT, .int .u64 (sN : Int), .string ⟨sS.toArray⟩] 85)
      obtain ⟨f60, f61, f62, f63, f64, f65, f66, f67, f68, zf⟩ := cells9 (R7.box (b := W.heap.size + 1 + 1) (o := zEv) (by simp)).1
      have hlt7 := (R7.box (b := W.heap.size + 1 + 1) (o := zEv) (by simp)).2.2.1
      have HR8 : Hid (Rn own W m a nb tp i _ _ rM (w7.alloc (.cells #[i64 K', i64 h', .int .i64 E', .int .i64 pT, .int .u64 (pN : Int), .string ⟨pS.toArray⟩, .int .i64 sT, .int .u64 (sN : Int), .string ⟨sS.toArray⟩] 85))) := R8
      have HR9 : Hid (Rn own W m a nb tp i (w7.cell? ⟨a, i * 5 + 3, none⟩) _ rM ((putE w7 (W.heap.size + 1 + 1) (i64 K') (i64 h') (.int .i64 E') (.int .i64 pT) (.int .u64 (pN : Int)) (.string ⟨pS.toArray⟩) (.int .i64 sT) (.int .u64 (sN : Int)) (.string ⟨sS.toArray⟩)).alloc (.cells #[i64 K', i64 h', .int .i64 E', .int .i64 pT, .int .u64 (pN : Int), .string ⟨pS.toArray⟩, .int .i64 sT, .int .u64 (sN : Int), .string ⟨sS.toArray⟩] 85))) := (R7.setE0 (n := W.heap.size + 1 + 1) (by simp) (i64 K') (i64 h') (.int .i64 E') (.int .i64 pT) (.int .u64 (pN : Int)) (.string ⟨pS.toArray⟩) (.int .i64 sT) (.int .u64 (sN : Int)) (.string ⟨sS.toArray⟩)).alloc _
      clear hnx HRU HX R7 R8
      cases rb
      · have HG := HGO.out rfl
        have HG2 : Hid (meas rM i < gk ∧ Alive rM (some i) ∧ i < rM.th.length ∧ execL MF i = execL rM i) := HG
        clear HG HGO HEND HR9
        go_wp2_with fail
        go_roundg (meas rM i)
        case measure => exact HG2.out.1
        case rel => exact ⟨rM, rfl, HG2.out.2.1, HG2.out.2.2.1, ⟨_, HR8.out.sub (by simp)⟩, HG2.out.2.2.2⟩
      · have HE2 : Hid (execL MF i = (rM, ⟨K', h', E', ⟨pT, pN, pS⟩, ⟨sT, sN, sS⟩⟩)) := HEND.out rfl
        clear HGO HEND HR8
        go_wp2_with fail
        clear f60 f61 f62 f63 f64 f65 f66 f67 f68 zf
        have R9 := HR9.out
        unfold putE at R9
        generalize (((((((((w7.setCell ⟨W.heap.size + 1 + 1, 0, none⟩ (i64 K')).setCell ⟨W.heap.size + 1 + 1, 1, none⟩ (i64 h')).setCell ⟨W.heap.size + 1 + 1, 2, none⟩ (.int .i64 E')).setCell ⟨W.heap.size + 1 + 1, 3, none⟩ (.int .i64 pT)).setCell ⟨W.heap.size + 1 + 1, 4, none⟩ (.int .u64 (pN : Int))).setCell ⟨W.heap.size + 1 + 1, 5, none⟩ (.string ⟨pS.toArray⟩)).setCell ⟨W.heap.size + 1 + 1, 6, none⟩ (.int .i64 sT)).setCell ⟨W.heap.size + 1 + 1, 7, none⟩ (.int .u64 (sN : Int))).setCell ⟨W.heap.size + 1 + 1, 8, none⟩ (.string ⟨sS.toArray⟩)).alloc (.cells #[i64 K', i64 h', .int .i64 E', .int .i64 pT, .int .u64 (pN : Int), .string ⟨pS.toArray⟩, .int .i64 sT, .int .u64 (sN : Int), .string ⟨sS.toArray⟩] 85) = w9 at *
        obtain ⟨c0, c1, c2, c3, c4, c5, c6, c7, c8, _⟩ := cells9 (R9.box (List.mem_cons_of_mem _ (List.mem_cons_self ..))).1
        refine bodyPost_ret (v := .agg #[i64 K', i64 h', .int .i64 E', .int .i64 pT, .int .u64 (pN : Int), .string ⟨pS.toArray⟩, .int .i64 sT, .int .u64 (sN : Int), .string ⟨sS.toArray⟩]) (by simp [results, go_sem, c0, c1, c2, c3, c4, c5, c6, c7, c8]) rfl ?_
        rw [HO.out, HE2.out]
        exact ⟨rfl, R9.nx⟩
set_option maxRecDepth 8000 in
set_option maxHeartbeats 4000000 in
theorem exec_52 {own : Nat → Nat} {W : World} {m a nb tp : Nat} {M : Mc} (HV : Vm own W m a nb tp M) (hA : Alive M none) {i : Nat} (hi : i < M.th.length) (x y : V) (hx : x.Ok) (hy : y.Ok) (hv1 : validP M x = true) (hv2 : validP M y = true) (hs : (M.t i).st = 2) :
    Calls Tryz.prog 37 #[.pointer (some ⟨m, 0, none⟩), .int .i64 (i : Int), valV x, valV y] W fun e W' => e = .returned (evV (execP M (i : Int) x y).2) ∧ Nx own W m a nb tp (execP M (i : Int) x y).1 W' := by
  have HVV : Hid (validP M x = true ∧ validP M y = true) := ⟨hv1, hv2⟩
  clear hv1 hv2
  have HS : Hid ((M.t i).st = 2) := hs
  clear hs
  have hen : (M.en != 0) = false := by simp [hA.en]
  have hcs9 : M.cs.length ≤ 100000 := by have := hA.cl.cs24; omega
  have HOK : Hid (x.N < 18446744073709551616 ∧ y.N < 18446744073709551616) := ⟨hx.N, hy.N⟩
  have HI : Hid (i < M.th.length ∧ Alive M none) := ⟨hi, hA⟩
  have HVX : Hid (∀ {own' : Nat → Nat} {w : World}, Vm own' w m a nb tp M → Calls Tryz.prog 58 #[.pointer (some ⟨m, 0, none⟩), valV x] w fun e w' => e = .returned (.bool (validP M x)) ∧ Below w.heap.size w w') := fun hv => valid_any hv x hx hcs9
  have HVY : Hid (∀ {own' : Nat → Nat} {w : World}, Vm own' w m a nb tp M → Calls Tryz.prog 58 #[.pointer (some ⟨m, 0, none⟩), valV y] w fun e w' => e = .returned (.bool (validP M y)) ∧ Below w.heap.size w w') := fun hv => valid_any hv y hy hcs9
  obtain ⟨xT, xN, xS⟩ := x
  obtain ⟨yT, yN, yS⟩ := y
  have R1 : Rm own W m a nb tp i [(W.heap.size + 1 + 1, zEv), (W.heap.size + 1, vBox yT yN yS), (W.heap.size, vBox xT xN xS)] M (((W.alloc (vBox xT xN xS)).alloc (vBox yT yN yS)).alloc zEv) := (((Rm.start HV).alloc (vBox xT xN xS) rfl).alloc (vBox yT yN yS) (n := W.heap.size + 1) (by simp)).alloc zEv (n := W.heap.size + 1 + 1) (by simp)
  rw [valV_mk, valV_mk]
  clear HV hA hx hy
  go_enter Tryz.func37, Tryz.ntmps37
  go_upto_region 1 with fail
  generalize ((W.alloc (.cells #[.int .i64 xT, .int .u64 (xN : Int), .string ⟨xS.toArray⟩] 33)).alloc (.cells #[.int .i64 yT, .int .u64 (yN : Int), .string ⟨yS.toArray⟩] 33)).alloc zEv = w1 at *
  obtain ⟨own1, hv1, hN1, hX1⟩ := R1.vmX
  have c12 := hv1.enE
  obtain ⟨c9, h5⟩ := hv1.c9V
  obtain ⟨_, _, qm⟩ := hv1.cellM (Below.refl _ _)
  obtain ⟨x0, x1, x2, _⟩ := R1.val (b := W.heap.size) (T := xT) (N := xN) (S := xS) (by simp)
  have hVX := HVX.out hv1
  rw [valV_mk] at hVX
  have hlti : (i : Int) < (M.th.length : Int) := by omega
  have hi0 : ¬ (i : Int) < 0 := by omega
  have hnle : ¬ (M.th.length : Int) ≤ (i : Int) := by omega
  have HLEN : Hid (∃ tl, tl = M.th.length) := ⟨_, rfl⟩
  obtain ⟨tl, htl⟩ : ∃ tl, tl = M.th.length := ⟨_, rfl⟩
  rw [← htl] at c9 h5 hlti hnle hi
  have HTL : Hid (tl = M.th.length) := htl
  clear htl HLEN hv1 hN1 hX1 HVX hcs9
  generalize M.en = en at *
  go_wp2_with fail
  refine hVX.mono ?_; rintro e w2 ⟨rfl, hb2⟩
  have R2 := R1.below hb2
  obtain ⟨own2, hv2, _⟩ := R2.vm
  obtain ⟨y0, y1, y2, _⟩ := R2.val (b := W.heap.size + 1) (T := yT) (N := yN) (S := yS) (by simp)
  have hVY := HVY.out hv2
  rw [valV_mk] at hVY
  clear hVX hb2 R1 hv2 HVY x0 x1 x2 c9 c12 qm
  go_wp2_with fail
  refine hVY.mono ?_; rintro e w3 ⟨rfl, hb3⟩
  have R3 := R2.below hb3
  clear hVY hb3 R2 y0 y1 y2
  obtain ⟨own3, hv3, hN3, hX3⟩ := R3.vmX
  obtain ⟨c9, h5'⟩ := hv3.c9V
  rw [← HTL.out] at c9
  obtain ⟨_, _, qm⟩ := hv3.cellM (Below.refl _ _)
  have i1 := hv3.stE HI.out.1
  have i2 : w3.frozen? ⟨a, i * 5, none⟩ = false := by obtain ⟨vals, L, H⟩ := hv3; exact H.az _
  have ialt := hv3.alt
  obtain ⟨e60, e61, e62, e63, e64, e65, e66, e67, e68, z6⟩ := cells9 (R3.rn.box (b := W.heap.size + 1 + 1) (o := zEv) (by simp)).1
  rw [HVV.out.1, HVV.out.2]
  rw [HS.out] at i1
  have va : okV M ⟨xT, xN, xS⟩ := ⟨HVV.out.1, HOK.out.1⟩
  have vb : okV M ⟨yT, yN, yS⟩ := ⟨HVV.out.2, HOK.out.2⟩
  have hsk := sk_bound HI.out.2 HI.out.1
  have HP := R3.push2 HI.out.1 (by omega) ⟨xT, xN, xS⟩ ⟨yT, yN, yS⟩
  have hPL : i < (pushP M i [⟨xT, xN, xS⟩, ⟨yT, yN, yS⟩]).th.length := by unfold pushP; rw [th_setT]; exact HI.out.1
  have HPL : Hid (i < (pushP M i [⟨xT, xN, xS⟩, ⟨yT, yN, yS⟩]).th.length) := hPL
  have HAK : Hid (Alive (goOnP M i ⟨xT, xN, xS⟩ ⟨yT, yN, yS⟩) (some i) ∧ i < (goOnP M i ⟨xT, xN, xS⟩ ⟨yT, yN, yS⟩).th.length) := ⟨HI.out.2.goOn HI.out.1 (by rw [HS.out]; omega) va vb, by show i < (Mc.setT _ i _).th.length; rw [th_setT]; exact hPL⟩
  have HO : Hid (execP M (i : Int) ⟨xT, xN, xS⟩ ⟨yT, yN, yS⟩ = execL (goOnP M i ⟨xT, xN, xS⟩ ⟨yT, yN, yS⟩) i) := by show _ = _; unfold execP; rw [if_neg (by intro h; rcases h with h | h | h; exact h HI.out.2.en; omega; have := HI.out.1; omega)]; rw [if_neg (by rw [HVV.out.1, HVV.out.2]; decide), Int.toNat_natCast, if_neg (by rw [HS.out]; decide), if_pos (by rw [HS.out]; decide)]
  obtain ⟨x0, x1, x2, _⟩ := R3.val (b := W.heap.size) (T := xT) (N := xN) (S := xS) (by simp)
  obtain ⟨y0, y1, y2, _⟩ := R3.val (b := W.heap.size + 1) (T := yT) (N := yN) (S := yS) (by simp)
  clear hv3 hN3 hX3 R3 va vb hsk hPL
  go_wp2_with fail
  refine HP.mono ?_; rintro e w5 ⟨rfl, R5⟩
  obtain ⟨own5, hv5, hN5, hX5⟩ := R5.vmX
  have i1 := hv5.stE HPL.out
  have i2 : w5.frozen? ⟨a, i * 5, none⟩ = false := by obtain ⟨vals, L, H⟩ := hv5; exact H.az _
  have ialt5 := hv5.alt
  have R6 : Rn own W m a nb tp i _ _ (goOnP M i ⟨xT, xN, xS⟩ ⟨yT, yN, yS⟩) (w5.setCell ⟨a, i * 5, none⟩ (.int .i64 4)) := hX5 _ _ (hv5.setSt HPL.out 4)
  clear HP R5 hv5 hN5 hX5
  generalize ((pushP M i [⟨xT, xN, xS⟩, ⟨yT, yN, yS⟩]).t i).st = s5 at *
  go_upto_region 16 with fail
  go_loopg [13] (meas (goOnP M i ⟨xT, xN, xS⟩ ⟨yT, yN, yS⟩) i) (fun g s13 wr => ∃ Mx : Mc, Hid (meas Mx i = g ∧ Alive Mx (some i) ∧ i < Mx.th.length ∧ (∃ fs, Rn own W m a nb tp i fs [(W.heap.size + 1 + 1, zEv)] Mx wr) ∧ execL (goOnP M i ⟨xT, xN, xS⟩ ⟨yT, yN, yS⟩) i = execL Mx i))
  case atStart => exact ⟨(goOnP M i ⟨xT, xN, xS⟩ ⟨yT, yN, yS⟩), rfl, HAK.out.1, HAK.out.2, ⟨_, R6.sub (by simp)⟩, rfl⟩
  case round =>
    obtain ⟨Mx, HR⟩ := hrel
    obtain ⟨hg, hAx, hix, ⟨fs, Rx⟩, hex⟩ := HR.out
    obtain ⟨ownx, hvx, hNx', hXx⟩ := Rx.vm
    have HRU := run_vm hvx hAx hix
    have hRK := run_keeps hAx hix
    have HX : Hid (∀ M2 w2, Nx ownx wr m a nb tp M2 w2 → Rn own W m a nb tp i (w2.cell? ⟨a, i * 5 + 3, none⟩) [(W.heap.size + 1 + 1, zEv)] M2 w2) := hXx
    have HGO : Hid ((runP Mx i).2.2 = false → (meas (runP Mx i).1 i < gk ∧ Alive (runP Mx i).1 (some i) ∧ i < (runP Mx i).1.th.length ∧ execL (goOnP M i ⟨xT, xN, xS⟩ ⟨yT, yN, yS⟩) i = execL (runP Mx i).1 i)) := fun h => ⟨by have := (hRK.on h).2.1; omega, (hRK.on h).1, by have := (hRK.on h).2.2; omega, by rw [hex]; exact execL_go hAx hix h⟩
    have HEND : Hid ((runP Mx i).2.2 = true → execL (goOnP M i ⟨xT, xN, xS⟩ ⟨yT, yN, yS⟩) i = ((runP Mx i).1, (runP Mx i).2.1)) := fun h => by rw [hex]; exact execL_end h
    clear hRK hXx hNx' hvx Rx HR hAx hix hex hg
    generalize runP Mx i = r at *
    obtain ⟨rM, ⟨K', h', E', ⟨pT, pN, pS⟩, ⟨sT, sN, sS⟩⟩, rb⟩ := r
    simp only [evV] at HRU HGO HEND
    go_wp2_with fail
    refine HRU.mono ?_; rintro e w7 ⟨rfl, hnx⟩
    have R7 := HX.out _ _ hnx
    have R8 := R7.alloc (.cells #[i64 K', i64 h', .int .i64 E', .int .i64 pT, .int .u64 (pN : Int), .string ⟨pS.toArray⟩, .int .i64 sT, .int .u64 (sN : Int), .string ⟨sS.toArray⟩] 85)
    obtain ⟨f60, f61, f62, f63, f64, f65, f66, f67, f68, zf⟩ := cells9 (R7.box (b := W.heap.size + 1 + 1) (o := zEv) (by simp)).1
    have hlt7 := (R7.box (b := W.heap.size + 1 + 1) (o := zEv) (by simp)).2.2.1
    have HR8 : Hid (Rn own W m a nb tp i _ _ rM (w7.alloc (.cells #[i64 K', i64 h', .int .i64 E', .int .i64 pT, .int .u64 (pN : Int), .string ⟨pS.toArray⟩, .int .i64 sT, .int .u64 (sN : Int), .string ⟨sS.toArray⟩] 85))) := R8
    have HR9 : Hid (Rn own W m a nb tp i (w7.cell? ⟨a, i * 5 + 3, none⟩) _ rM ((putE w7 (W.heap.size + 1 + 1) (i64 K') (i64 h') (.int .i64 E') (.int .i64 pT) (.int .u64 (pN : Int)) (.string ⟨pS.toArray⟩) (.int .i64 sT) (.int .u64 (sN : Int)) (.string ⟨sS.toArray⟩)).alloc (.cells #[i64 K', i64 h', .int .i64 E', .int .i64 pT, .int .u64 (pN : Int), .string ⟨pS.toArray⟩, .int .i64 sT, .int .u64 (sN : Int), .string ⟨sS.toArray⟩] 85))) := (R7.setE0 (n := W.heap.size + 1 + 1) (by simp) (i64 K') (i64 h') (.int .i64 E') (.int .i64 pT) (.int .u64 (pN : Int)) (.string ⟨pS.toArray⟩) (.int .i64 sT) (.int .u64 (sN : Int)) (.string ⟨sS.toArray⟩)).alloc _
    clear hnx HRU HX R7 R8
    cases rb
    · have HG := HGO.out rfl
      have HG2 : Hid (meas rM i < gk ∧ Alive rM (some i) ∧ i < rM.th.length ∧ execL (goOnP M i ⟨xT, xN, xS⟩ ⟨yT, yN, yS⟩) i = execL rM i) := HG
      clear HG HGO HEND HR9
      go_wp2_with fail
      go_roundg (meas rM i)
      case measure => exact HG2.out.1
      case rel => exact ⟨rM, rfl, HG2.out.2.1, HG2.out.2.2.1, ⟨_, HR8.out.sub (by simp)⟩, HG2.out.2.2.2⟩
    · have HE2 : Hid (execL (goOnP M i ⟨xT, xN, xS⟩ ⟨yT, yN, yS⟩) i = (rM, ⟨K', h', E', ⟨pT, pN, pS⟩, ⟨sT, sN, sS⟩⟩)) := HEND.out rfl
      clear HGO HEND HR8
      go_wp2_with fail
      clear f60 f61 f62 f63 f64 f65 f66 f67 f68 zf
      have R9 := HR9.out
      unfold putE at R9
      generalize (((((((((w7.setCell ⟨W.heap.size + 1 + 1, 0, none⟩ (i64 K')).setCell ⟨W.heap.size + 1 + 1, 1, none⟩ (i64 h')).setCell ⟨W.heap.size + 1 + 1, 2, none⟩ (.int .i64 E')).setCell ⟨W.heap.size + 1 + 1, 3, none⟩ (.int .i64 pT)).setCell ⟨W.heap.size + 1 + 1, 4, none⟩ (.int .u64 (pN : Int))).setCell ⟨W.heap.size + 1 + 1, 5, none⟩ (.string ⟨pS.toArray⟩)).setCell ⟨W.heap.size + 1 + 1, 6, none⟩ (.int .i64 sT)).setCell ⟨W.heap.size + 1 + 1, 7, none⟩ (.int .u64 (sN : Int))).setCell ⟨W.heap.size + 1 + 1, 8, none⟩ (.string ⟨sS.toArray⟩)).alloc (.cells #[i64 K', i64 h', .int .i64 E', .int .i64 pT, .int .u64 (pN : Int), .string ⟨pS.toArray⟩, .int .i64 sT, .int .u64 (sN : Int), .string ⟨sS.toArray⟩] 85) = w9 at *
      obtain ⟨c0, c1, c2, c3, c4, c5, c6, c7, c8, _⟩ := cells9 (R9.box (List.mem_cons_of_mem _ (List.mem_cons_self ..))).1
      refine bodyPost_ret (v := .agg #[i64 K', i64 h', .int .i64 E', .int .i64 pT, .int .u64 (pN : Int), .string ⟨pS.toArray⟩, .int .i64 sT, .int .u64 (sN : Int), .string ⟨sS.toArray⟩]) (by simp [results, go_sem, c0, c1, c2, c3, c4, c5, c6, c7, c8]) rfl ?_
      rw [HO.out, HE2.out]
      exact ⟨rfl, R9.nx⟩
set_option maxRecDepth 8000 in
set_option maxHeartbeats 4000000 in
theorem exec_53 {own : Nat → Nat} {W : World} {m a nb tp : Nat} {M : Mc} (HV : Vm own W m a nb tp M) (hA : Alive M none) {i : Nat} (hi : i < M.th.length) (x y : V) (hx : x.Ok) (hy : y.Ok) (hv1 : validP M x = true) (hv2 : validP M y = true) (hs : (M.t i).st = 3) :
    Calls Tryz.prog 37 #[.pointer (some ⟨m, 0, none⟩), .int .i64 (i : Int), valV x, valV y] W fun e W' => e = .returned (evV (execP M (i : Int) x y).2) ∧ Nx own W m a nb tp (execP M (i : Int) x y).1 W' := by
  have HVV : Hid (validP M x = true ∧ validP M y = true) := ⟨hv1, hv2⟩
  clear hv1 hv2
  have HS : Hid ((M.t i).st = 3) := hs
  clear hs
  have hen : (M.en != 0) = false := by simp [hA.en]
  have hcs9 : M.cs.length ≤ 100000 := by have := hA.cl.cs24; omega
  have HOK : Hid (x.N < 18446744073709551616 ∧ y.N < 18446744073709551616) := ⟨hx.N, hy.N⟩
  have HI : Hid (i < M.th.length ∧ Alive M none) := ⟨hi, hA⟩
  have HVX : Hid (∀ {own' : Nat → Nat} {w : World}, Vm own' w m a nb tp M → Calls Tryz.prog 58 #[.pointer (some ⟨m, 0, none⟩), valV x] w fun e w' => e = .returned (.bool (validP M x)) ∧ Below w.heap.size w w') := fun hv => valid_any hv x hx hcs9
  have HVY : Hid (∀ {own' : Nat → Nat} {w : World}, Vm own' w m a nb tp M → Calls Tryz.prog 58 #[.pointer (some ⟨m, 0, none⟩), valV y] w fun e w' => e = .returned (.bool (validP M y)) ∧ Below w.heap.size w w') := fun hv => valid_any hv y hy hcs9
  obtain ⟨xT, xN, xS⟩ := x
  obtain ⟨yT, yN, yS⟩ := y
  have R1 : Rm own W m a nb tp i [(W.heap.size + 1 + 1, zEv), (W.heap.size + 1, vBox yT yN yS), (W.heap.size, vBox xT xN xS)] M (((W.alloc (vBox xT xN xS)).alloc (vBox yT yN yS)).alloc zEv) := (((Rm.start HV).alloc (vBox xT xN xS) rfl).alloc (vBox yT yN yS) (n := W.heap.size + 1) (by simp)).alloc zEv (n := W.heap.size + 1 + 1) (by simp)
  rw [valV_mk, valV_mk]
  clear HV hA hx hy
  go_enter Tryz.func37, Tryz.ntmps37
  go_upto_region 1 with fail
  generalize ((W.alloc (.cells #[.int .i64 xT, .int .u64 (xN : Int), .string ⟨xS.toArray⟩] 33)).alloc (.cells #[.int .i64 yT, .int .u64 (yN : Int), .string ⟨yS.toArray⟩] 33)).alloc zEv = w1 at *
  obtain ⟨own1, hv1, hN1, hX1⟩ := R1.vmX
  have c12 := hv1.enE
  obtain ⟨c9, h5⟩ := hv1.c9V
  obtain ⟨_, _, qm⟩ := hv1.cellM (Below.refl _ _)
  obtain ⟨x0, x1, x2, _⟩ := R1.val (b := W.heap.size) (T := xT) (N := xN) (S := xS) (by simp)
  have hVX := HVX.out hv1
  rw [valV_mk] at hVX
  have hlti : (i : Int) < (M.th.length : Int) := by omega
  have hi0 : ¬ (i : Int) < 0 := by omega
  have hnle : ¬ (M.th.length : Int) ≤ (i : Int) := by omega
  have HLEN : Hid (∃ tl, tl = M.th.length) := ⟨_, rfl⟩
  obtain ⟨tl, htl⟩ : ∃ tl, tl = M.th.length := ⟨_, rfl⟩
  rw [← htl] at c9 h5 hlti hnle hi
  have HTL : Hid (tl = M.th.length) := htl
  clear htl HLEN hv1 hN1 hX1 HVX hcs9
  generalize M.en = en at *
  go_wp2_with fail
  refine hVX.mono ?_; rintro e w2 ⟨rfl, hb2⟩
  have R2 := R1.below hb2
  obtain ⟨own2, hv2, _⟩ := R2.vm
  obtain ⟨y0, y1, y2, _⟩ := R2.val (b := W.heap.size + 1) (T := yT) (N := yN) (S := yS) (by simp)
  have hVY := HVY.out hv2
  rw [valV_mk] at hVY
  clear hVX hb2 R1 hv2 HVY x0 x1 x2 c9 c12 qm
  go_wp2_with fail
  refine hVY.mono ?_; rintro e w3 ⟨rfl, hb3⟩
  have R3 := R2.below hb3
  clear hVY hb3 R2 y0 y1 y2
  obtain ⟨own3, hv3, hN3, hX3⟩ := R3.vmX
  obtain ⟨c9, h5'⟩ := hv3.c9V
  rw [← HTL.out] at c9
  obtain ⟨_, _, qm⟩ := hv3.cellM (Below.refl _ _)
  have i1 := hv3.stE HI.out.1
  have i2 : w3.frozen? ⟨a, i * 5, none⟩ = false := by obtain ⟨vals, L, H⟩ := hv3; exact H.az _
  have ialt := hv3.alt
  obtain ⟨e60, e61, e62, e63, e64, e65, e66, e67, e68, z6⟩ := cells9 (R3.rn.box (b := W.heap.size + 1 + 1) (o := zEv) (by simp)).1
  rw [HVV.out.1, HVV.out.2]
  rw [HS.out] at i1
  have va : okV M ⟨xT, xN, xS⟩ := ⟨HVV.out.1, HOK.out.1⟩
  have vb : okV M ⟨yT, yN, yS⟩ := ⟨HVV.out.2, HOK.out.2⟩
  have hsk := sk_bound HI.out.2 HI.out.1
  have HP := R3.push2 HI.out.1 (by omega) ⟨xT, xN, xS⟩ ⟨yT, yN, yS⟩
  have hPL : i < (pushP M i [⟨xT, xN, xS⟩, ⟨yT, yN, yS⟩]).th.length := by unfold pushP; rw [th_setT]; exact HI.out.1
  have HPL : Hid (i < (pushP M i [⟨xT, xN, xS⟩, ⟨yT, yN, yS⟩]).th.length) := hPL
  have HAK : Hid (Alive (goOnP M i ⟨xT, xN, xS⟩ ⟨yT, yN, yS⟩) (some i) ∧ i < (goOnP M i ⟨xT, xN, xS⟩ ⟨yT, yN, yS⟩).th.length) := ⟨HI.out.2.goOn HI.out.1 (by rw [HS.out]; omega) va vb, by show i < (Mc.setT _ i _).th.length; rw [th_setT]; exact hPL⟩
  have HO : Hid (execP M (i : Int) ⟨xT, xN, xS⟩ ⟨yT, yN, yS⟩ = execL (goOnP M i ⟨xT, xN, xS⟩ ⟨yT, yN, yS⟩) i) := by show _ = _; unfold execP; rw [if_neg (by intro h; rcases h with h | h | h; exact h HI.out.2.en; omega; have := HI.out.1; omega)]; rw [if_neg (by rw [HVV.out.1, HVV.out.2]; decide), Int.toNat_natCast, if_neg (by rw [HS.out]; decide), if_pos (by rw [HS.out]; decide)]
  obtain ⟨x0, x1, x2, _⟩ := R3.val (b := W.heap.size) (T := xT) (N := xN) (S := xS) (by simp)
  obtain ⟨y0, y1, y2, _⟩ := R3.val (b := W.heap.size + 1) (T := yT) (N := yN) (S := yS) (by simp)
  clear hv3 hN3 hX3 R3 va vb hsk hPL
  go_wp2_with fail
  refine HP.mono ?_; rintro e w5 ⟨rfl, R5⟩
  obtain ⟨own5, hv5, hN5, hX5⟩ := R5.vmX
  have i1 := hv5.stE HPL.out
  have i2 : w5.frozen? ⟨a, i * 5, none⟩ = false := by obtain ⟨vals, L, H⟩ := hv5; exact H.az _
  have ialt5 := hv5.alt
  have R6 : Rn own W m a nb tp i _ _ (goOnP M i ⟨xT, xN, xS⟩ ⟨yT, yN, yS⟩) (w5.setCell ⟨a, i * 5, none⟩ (.int .i64 4)) := hX5 _ _ (hv5.setSt HPL.out 4)
  clear HP R5 hv5 hN5 hX5
  generalize ((pushP M i [⟨xT, xN, xS⟩, ⟨yT, yN, yS⟩]).t i).st = s5 at *
  go_upto_region 16 with fail
  go_loopg [13] (meas (goOnP M i ⟨xT, xN, xS⟩ ⟨yT, yN, yS⟩) i) (fun g s13 wr => ∃ Mx : Mc, Hid (meas Mx i = g ∧ Alive Mx (some i) ∧ i < Mx.th.length ∧ (∃ fs, Rn own W m a nb tp i fs [(W.heap.size + 1 + 1, zEv)] Mx wr) ∧ execL (goOnP M i ⟨xT, xN, xS⟩ ⟨yT, yN, yS⟩) i = execL Mx i))
  case atStart => exact ⟨(goOnP M i ⟨xT, xN, xS⟩ ⟨yT, yN, yS⟩), rfl, HAK.out.1, HAK.out.2, ⟨_, R6.sub (by simp)⟩, rfl⟩
  case round =>
    obtain ⟨Mx, HR⟩ := hrel
    obtain ⟨hg, hAx, hix, ⟨fs, Rx⟩, hex⟩ := HR.out
    obtain ⟨ownx, hvx, hNx', hXx⟩ := Rx.vm
    have HRU := run_vm hvx hAx hix
    have hRK := run_keeps hAx hix
    have HX : Hid (∀ M2 w2, Nx ownx wr m a nb tp M2 w2 → Rn own W m a nb tp i (w2.cell? ⟨a, i * 5 + 3, none⟩) [(W.heap.size + 1 + 1, zEv)] M2 w2) := hXx
    have HGO : Hid ((runP Mx i).2.2 = false → (meas (runP Mx i).1 i < gk ∧ Alive (runP Mx i).1 (some i) ∧ i < (runP Mx i).1.th.length ∧ execL (goOnP M i ⟨xT, xN, xS⟩ ⟨yT, yN, yS⟩) i = execL (runP Mx i).1 i)) := fun h => ⟨by have := (hRK.on h).2.1; omega, (hRK.on h).1, by have := (hRK.on h).2.2; omega, by rw [hex]; exact execL_go hAx hix h⟩
    have HEND : Hid ((runP Mx i).2.2 = true → execL (goOnP M i ⟨xT, xN, xS⟩ ⟨yT, yN, yS⟩) i = ((runP Mx i).1, (runP Mx i).2.1)) := fun h => by rw [hex]; exact execL_end h
    clear hRK hXx hNx' hvx Rx HR hAx hix hex hg
    generalize runP Mx i = r at *
    obtain ⟨rM, ⟨K', h', E', ⟨pT, pN, pS⟩, ⟨sT, sN, sS⟩⟩, rb⟩ := r
    simp only [evV] at HRU HGO HEND
    go_wp2_with fail
    refine HRU.mono ?_; rintro e w7 ⟨rfl, hnx⟩
    have R7 := HX.out _ _ hnx
    have R8 := R7.alloc (.cells #[i64 K', i64 h', .int .i64 E', .int .i64 pT, .int .u64 (pN : Int), .string ⟨pS.toArray⟩, .int .i64 sT, .int .u64 (sN : Int), .string ⟨sS.toArray⟩] 85)
    obtain ⟨f60, f61, f62, f63, f64, f65, f66, f67, f68, zf⟩ := cells9 (R7.box (b := W.heap.size + 1 + 1) (o := zEv) (by simp)).1
    have hlt7 := (R7.box (b := W.heap.size + 1 + 1) (o := zEv) (by simp)).2.2.1
    have HR8 : Hid (Rn own W m a nb tp i _ _ rM (w7.alloc (.cells #[i64 K', i64 h', .int .i64 E', .int .i64 pT, .int .u64 (pN : Int), .string ⟨pS.toArray⟩, .int .i64 sT, .int .u64 (sN : Int), .string ⟨sS.toArray⟩] 85))) := R8
    have HR9 : Hid (Rn own W m a nb tp i (w7.cell? ⟨a, i * 5 + 3, none⟩) _ rM ((putE w7 (W.heap.size + 1 + 1) (i64 K') (i64 h') (.int .i64 E') (.int .i64 pT) (.int .u64 (pN : Int)) (.string ⟨pS.toArray⟩) (.int .i64 sT) (.int .u64 (sN : Int)) (.string ⟨sS.toArray⟩)).alloc (.cells #[i64 K', i64 h', .int .i64 E', .int .i64 pT, .int .u64 (pN : Int), .string ⟨pS.toArray⟩, .int .i64 sT, .int .u64 (sN : Int), .string ⟨sS.toArray⟩] 85))) := (R7.setE0 (n := W.heap.size + 1 + 1) (by simp) (i64 K') (i64 h') (.int .i64 E') (.int .i64 pT) (.int .u64 (pN : Int)) (.string ⟨pS.toArray⟩) (.int .i64 sT) (.int .u64 (sN : Int)) (.string ⟨sS.toArray⟩)).alloc _
    clear hnx HRU HX R7 R8
    cases rb
    · have HG := HGO.out rfl
      have HG2 : Hid (meas rM i < gk ∧ Alive rM (some i) ∧ i < rM.th.length ∧ execL (goOnP M i ⟨xT, xN, xS⟩ ⟨yT, yN, yS⟩) i = execL rM i) := HG
      clear HG HGO HEND HR9
      go_wp2_with fail
      go_roundg (meas rM i)
      case measure => exact HG2.out.1
      case rel => exact ⟨rM, rfl, HG2.out.2.1, HG2.out.2.2.1, ⟨_, HR8.out.sub (by simp)⟩, HG2.out.2.2.2⟩
    · have HE2 : Hid (execL (goOnP M i ⟨xT, xN, xS⟩ ⟨yT, yN, yS⟩) i = (rM, ⟨K', h', E', ⟨pT, pN, pS⟩, ⟨sT, sN, sS⟩⟩)) := HEND.out rfl
      clear HGO HEND HR8
      go_wp2_with fail
      clear f60 f61 f62 f63 f64 f65 f66 f67 f68 zf
      have R9 := HR9.out
      unfold putE at R9
      generalize (((((((((w7.setCell ⟨W.heap.size + 1 + 1, 0, none⟩ (i64 K')).setCell ⟨W.heap.size + 1 + 1, 1, none⟩ (i64 h')).setCell ⟨W.heap.size + 1 + 1, 2, none⟩ (.int .i64 E')).setCell ⟨W.heap.size + 1 + 1, 3, none⟩ (.int .i64 pT)).setCell ⟨W.heap.size + 1 + 1, 4, none⟩ (.int .u64 (pN : Int))).setCell ⟨W.heap.size + 1 + 1, 5, none⟩ (.string ⟨pS.toArray⟩)).setCell ⟨W.heap.size + 1 + 1, 6, none⟩ (.int .i64 sT)).setCell ⟨W.heap.size + 1 + 1, 7, none⟩ (.int .u64 (sN : Int))).setCell ⟨W.heap.size + 1 + 1, 8, none⟩ (.string ⟨sS.toArray⟩)).alloc (.cells #[i64 K', i64 h', .int .i64 E', .int .i64 pT, .int .u64 (pN : Int), .string ⟨pS.toArray⟩, .int .i64 sT, .int .u64 (sN : Int), .string ⟨sS.toArray⟩] 85) = w9 at *
      obtain ⟨c0, c1, c2, c3, c4, c5, c6, c7, c8, _⟩ := cells9 (R9.box (List.mem_cons_of_mem _ (List.mem_cons_self ..))).1
      refine bodyPost_ret (v := .agg #[i64 K', i64 h', .int .i64 E', .int .i64 pT, .int .u64 (pN : Int), .string ⟨pS.toArray⟩, .int .i64 sT, .int .u64 (sN : Int), .string ⟨sS.toArray⟩]) (by simp [results, go_sem, c0, c1, c2, c3, c4, c5, c6, c7, c8]) rfl ?_
      rw [HO.out, HE2.out]
      exact ⟨rfl, R9.nx⟩
/-- Exec. -/
theorem exec_any {own : Nat → Nat} {W : World} {m a nb tp : Nat} {M : Mc} (HV : Vm own W m a nb tp M) (hR : Rest M) (th : Int) (x y : V) (hx : x.Ok) (hy : y.Ok) :
    Calls Tryz.prog 37 #[.pointer (some ⟨m, 0, none⟩), .int .i64 th, valV x, valV y] W fun e W' => e = .returned (evV (execP M th x y).2) ∧ Nx own W m a nb tp (execP M th x y).1 W' := by
  by_cases h : M.en ≠ 0 ∨ th < 0 ∨ (M.th.length : Int) ≤ th
  · exact exec_1 HV th x y h
  · have he : M.en = 0 := Decidable.byContradiction fun q => h (.inl q)
    have h2 : ¬ th < 0 := fun q => h (.inr (.inl q))
    have h3 : ¬ (M.th.length : Int) ≤ th := fun q => h (.inr (.inr q))
    obtain ⟨i, rfl⟩ : ∃ i : Nat, th = (i : Int) := ⟨th.toNat, by omega⟩
    have hi : i < M.th.length := by omega
    have hA : Alive M none := by
      rcases hR with q | q
      · exact q
      · exact absurd he q.en
    cases hvx : validP M x
    · exact exec_2 HV hA hi x y hx hy (.inl hvx)
    cases hvy : validP M y
    · exact exec_2 HV hA hi x y hx hy (.inr hvy)
    by_cases s1 : (M.t i).st = 1
    · exact exec_4 HV hA hi x y hx hy hvx hvy s1
    by_cases s2 : (M.t i).st = 2
    · exact exec_52 HV hA hi x y hx hy hvx hvy s2
    by_cases s3 : (M.t i).st = 3
    · exact exec_53 HV hA hi x y hx hy hvx hvy s3
    · exact exec_3 HV hA hi x y hx hy hvx hvy ⟨s1, s2, s3⟩
end Go.Proofs.Qxb6500293aGreatRR
