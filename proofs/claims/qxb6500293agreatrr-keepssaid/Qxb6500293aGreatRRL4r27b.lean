import Derived.Test.Qxb6500293aGreatRRL4r27
import Derived.Deep.RegionHeldLaw
namespace Go.Proofs.Qxb6500293aGreatRR
open Go.RowKit
open Ieee (double)
set_option linter.unusedVariables false
set_option linter.unusedSimpArgs false

set_option maxRecDepth 16000 in
set_option maxHeartbeats 16000000 in
theorem th_L4r27b : pt_L4r27.a1 := by
  intro own W m a nb tp rb bb cap M r a2 p2 a3 p3 a4 p4 a5 p5 dl hds9 kl hks9 cl hco9 ix1 w1 pb w2 c ri np y0 ns y1 nup y2 r0 w3 u50 u51 u52 u53 u54 u55 u56 u57 u58 u59 u60 u61 u62 u63 B r1 i0x1 u65 u66 u67 jx1 kx1 i2x1 i2x2 u7 i0x2 i0x3 i0x4 i0x5 i0x6 i0x7 i0x8 i0x9 i0x10 i0x11 i0x12 i0x13 i0x14 i0x15 i0x16 i0x17 i0x18 i0x19 i0x20 i0x21 i0x22 i0x23 i0x24 i0x25 i0x26 i0x27 i0x28 i0x29 i0x30 i0x31 i0x32 i0x33 i0x34 i0x35 i0x36 i0x37 i0x38 i0x39 i0x40 i0x41 i0x42 i0x43 i0x44 i0x45 jx3 jx4 jx5 jx6 i3x1 i3x2 dk i3x3 i3x4 lx1 lx2 u68 u69 u70 u71 u72 u73 u74 u75 u76 u77 u79 u80 u81 u82 u83 u84 u85 u86 u87 u88 u89 u90 u91 u92 u93 u94 u95 u96 u97 u98 u99 u100 u101 u102 u103 u104 u105 u106 u107 u108 u109 u110 u111 i4x1 w6 nk yk r3 i1x1 i9x1 i6x1 i6x2 i4x2 i4x3 i4x4 i4x5 i4x6 i4x7 i4x8 i4x9 i4x10 i4x11 i4x12 i4x13 i4x14 i4x15 i4x16 i4x17 i2x3 i2x4 i2x5 i2x6 i7x1 i7x2 kk i7x3 i7x4 i3x5 i3x6 u117 u118 u119 u120 u121 u122 u123 u124 u125 u126 u128 u129 u130 u131 u132 i8x1 w6' nc yc r5 i5x1 w8 gk wr u12 i8x2 i8x3 i8x4 i8x5 i8x6 i8x7 i8x8 i8x9 i8x10 i8x11 i8x12 i8x13 i8x14 i8x15 i8x16 i8x17 i8x18 i8x19 i8x20 i8x21 i8x22 i8x23 i8x24 i8x25 i8x26 i8x27 i8x28 i8x29 i8x30 i8x31 i8x32 i8x33 i8x34 i8x35 i8x36 i8x37 i8x38 i8x39 i8x40 i8x41 i8x42 i8x43 i6x3 i6x4 i6x5 i6x6 k rk cc hkg bd i7x5 i7x6 u138 u139 u140 u141 u142 u143 u144 u145 u146 u147 u149 u150 u151 u152 u153 u154 u155 u156 u157 u158 u159 u160 u161 u162 u163 u164 u165 u166 u167 u168 u169 u170 u171 u172 u173 u174 u175 u176 u177 u178 u179 b0 b1 b2 b3 b4 b5 b6 b7 bz hpbl own6 ad cp ad' cp' w7 f2 hml5 hpm x0 x1 x2 x3 x4 x5 x6 x7 xz prl i9x2 happ f0 f1 HRp hcut
  refine wp_region_held_drew (S := fun w' => w'.cell? ⟨pb, 0, none⟩ = some (.int .i64 (np : Int)) ∧ w'.cell? ⟨pb, 1, none⟩ = some (.int .i64 (ns : Int)) ∧ w'.cell? ⟨pb, 2, none⟩ = some (.int .i64 (dl : Int)) ∧ w'.cell? ⟨pb, 3, none⟩ = some (.int .i64 (nup : Int)) ∧ w'.cell? ⟨pb, 4, none⟩ = some (.int .i64 (kl : Int)) ∧ w'.cell? ⟨pb, 5, none⟩ = some (.int .i64 (nk : Int)) ∧ w'.cell? ⟨pb, 6, none⟩ = some (.int .i64 (cl : Int)) ∧ w'.cell? ⟨pb, 7, none⟩ = some (.int .i64 (nc : Int))) (by kernel_rfl) ?_ (fun hHeld => ?_)
  · exact ⟨b0, b1, b2, b3, b4, b5, b6, b7⟩
  refine wpAnyH_take (i := 0) (v := ?_) rfl (by kernel_rfl) (by kernel_rfl) (by kernel_rfl) (fun _ _ _ h => h) (Or.inl ⟨by rfl, ?_⟩) (by assumption) ?_
  rotate_left
  · intro w hSw
    (try dsimp only at hSw)
    go_simp
    all_goals with_reducible rfl
  (try simp only [Act.put, List.setIfInBounds_toArray, List.set_cons_zero, List.set_cons_succ])
  refine wpAnyH_take (i := 1) (v := ?_) rfl (by kernel_rfl) (by kernel_rfl) (by kernel_rfl) (fun _ _ _ h => h) (Or.inl ⟨by rfl, ?_⟩) (by assumption) ?_
  rotate_left
  · intro w hSw
    (try dsimp only at hSw)
    go_simp
    all_goals with_reducible rfl
  (try simp only [Act.put, List.setIfInBounds_toArray, List.set_cons_zero, List.set_cons_succ])
  refine wpAnyH_take (i := 2) (v := ?_) rfl (by kernel_rfl) (by kernel_rfl) (by kernel_rfl) (fun _ _ _ h => h) (Or.inl ⟨by rfl, ?_⟩) (by assumption) ?_
  rotate_left
  · intro w hSw
    (try dsimp only at hSw)
    go_simp
    all_goals with_reducible rfl
  (try simp only [Act.put, List.setIfInBounds_toArray, List.set_cons_zero, List.set_cons_succ])
  refine wpAnyH_take (i := 3) (v := ?_) rfl (by kernel_rfl) (by kernel_rfl) (by kernel_rfl) (fun _ _ _ h => h) (Or.inl ⟨by rfl, ?_⟩) (by assumption) ?_
  rotate_left
  · intro w hSw
    (try dsimp only at hSw)
    go_simp
    all_goals with_reducible rfl
  (try simp only [Act.put, List.setIfInBounds_toArray, List.set_cons_zero, List.set_cons_succ])
  refine wpAnyH_take (i := 5) (v := ?_) rfl (by kernel_rfl) (by kernel_rfl) (by kernel_rfl) (fun _ _ _ h => h) (Or.inl ⟨by rfl, ?_⟩) (by assumption) ?_
  rotate_left
  · intro w hSw
    (try dsimp only at hSw)
    go_simp
    all_goals with_reducible rfl
  (try simp only [Act.put, List.setIfInBounds_toArray, List.set_cons_zero, List.set_cons_succ])
  refine wpAnyH_ready (rs := [4, 6]) (by kernel_rfl) (by simp) ?_
  refine AllReadyH.cons rfl (fun K hK => ?_) (AllReadyH.cons rfl (fun K hK => ?_) AllReadyH.nil)
  · go_simp
    refine hK.out _ _ ?_ (fun hHeld => ?_)
    · exact hHeld
    clear hK K
    refine wpAnyH_ready (rs := [6]) (by kernel_rfl) (by simp) ?_
    refine AllReadyH.cons rfl (fun K hK => ?_) AllReadyH.nil
    go_simp
    refine hK.out _ _ ?_ (fun hHeld => ?_)
    · (try dsimp only); go_keep
    clear hK K
    refine wpAnyH_ready (rs := [7]) (by kernel_rfl) (by simp) ?_
    refine AllReadyH.cons rfl (fun K hK => ?_) AllReadyH.nil
    refine step_append_eq rfl (.tmp 184) (.tmp 186) 51 rfl _ _ _ _ (by simp [Act.eval, Act.put]) (by simp [Act.eval, Act.put]) happ ?_
    refine hK.out _ _ ?_ (fun hHeld => ?_)
    · exact ⟨x0, x1, x2, x3, x4, x5, x6, x7⟩
    clear hK K
    refine wpAnyH_take (i := 8) (v := ?_) rfl (by kernel_rfl) (by kernel_rfl) (by kernel_rfl) (fun _ _ _ h => h) (Or.inl ⟨by rfl, ?_⟩) (by assumption) ?_
    rotate_left
    · intro w hSw
      (try dsimp only at hSw)
      go_simp
      all_goals with_reducible rfl
    (try simp only [Act.put, List.setIfInBounds_toArray, List.set_cons_zero, List.set_cons_succ])
    refine wpAnyH_take (i := 9) (v := ?_) rfl (by kernel_rfl) (by kernel_rfl) (by kernel_rfl) (fun _ _ _ h => h) (Or.inl ⟨by rfl, ?_⟩) (by assumption) ?_
    rotate_left
    · intro w hSw
      (try dsimp only at hSw)
      go_simp
      all_goals with_reducible rfl
    (try simp only [Act.put, List.setIfInBounds_toArray, List.set_cons_zero, List.set_cons_succ])
    refine wpAnyH_ready (rs := [10]) (by kernel_rfl) (by simp) ?_
    refine AllReadyH.cons rfl (fun K hK => ?_) AllReadyH.nil
    go_simp
    refine hK.out _ _ ?_ (fun hHeld => ?_)
    · exact ⟨(World.cell?_setCell_far _ _ _ _ (fun h => hpm h.symm)).trans x0, (World.cell?_setCell_far _ _ _ _ (fun h => hpm h.symm)).trans x1, (World.cell?_setCell_far _ _ _ _ (fun h => hpm h.symm)).trans x2, (World.cell?_setCell_far _ _ _ _ (fun h => hpm h.symm)).trans x3, (World.cell?_setCell_far _ _ _ _ (fun h => hpm h.symm)).trans x4, (World.cell?_setCell_far _ _ _ _ (fun h => hpm h.symm)).trans x5, (World.cell?_setCell_far _ _ _ _ (fun h => hpm h.symm)).trans x6, (World.cell?_setCell_far _ _ _ _ (fun h => hpm h.symm)).trans x7⟩
    clear hK K
    refine wpAnyH_done (by kernel_rfl) ?_ _
    go_wp2_with fail
    go_end0
    exact ⟨rfl, HRp.out⟩
  · go_simp
    refine hK.out _ _ ?_ (fun hHeld => ?_)
    · (try dsimp only); go_keep
    clear hK K
    refine wpAnyH_ready (rs := [4]) (by kernel_rfl) (by simp) ?_
    refine AllReadyH.cons rfl (fun K hK => ?_) AllReadyH.nil
    go_simp
    refine hK.out _ _ ?_ (fun hHeld => ?_)
    · exact hHeld
    clear hK K
    refine wpAnyH_ready (rs := [7]) (by kernel_rfl) (by simp) ?_
    refine AllReadyH.cons rfl (fun K hK => ?_) AllReadyH.nil
    refine step_append_eq rfl (.tmp 184) (.tmp 186) 51 rfl _ _ _ _ (by simp [Act.eval, Act.put]) (by simp [Act.eval, Act.put]) happ ?_
    refine hK.out _ _ ?_ (fun hHeld => ?_)
    · exact ⟨x0, x1, x2, x3, x4, x5, x6, x7⟩
    clear hK K
    refine wpAnyH_take (i := 8) (v := ?_) rfl (by kernel_rfl) (by kernel_rfl) (by kernel_rfl) (fun _ _ _ h => h) (Or.inl ⟨by rfl, ?_⟩) (by assumption) ?_
    rotate_left
    · intro w hSw
      (try dsimp only at hSw)
      go_simp
      all_goals with_reducible rfl
    (try simp only [Act.put, List.setIfInBounds_toArray, List.set_cons_zero, List.set_cons_succ])
    refine wpAnyH_take (i := 9) (v := ?_) rfl (by kernel_rfl) (by kernel_rfl) (by kernel_rfl) (fun _ _ _ h => h) (Or.inl ⟨by rfl, ?_⟩) (by assumption) ?_
    rotate_left
    · intro w hSw
      (try dsimp only at hSw)
      go_simp
      all_goals with_reducible rfl
    (try simp only [Act.put, List.setIfInBounds_toArray, List.set_cons_zero, List.set_cons_succ])
    refine wpAnyH_ready (rs := [10]) (by kernel_rfl) (by simp) ?_
    refine AllReadyH.cons rfl (fun K hK => ?_) AllReadyH.nil
    go_simp
    refine hK.out _ _ ?_ (fun hHeld => ?_)
    · exact ⟨(World.cell?_setCell_far _ _ _ _ (fun h => hpm h.symm)).trans x0, (World.cell?_setCell_far _ _ _ _ (fun h => hpm h.symm)).trans x1, (World.cell?_setCell_far _ _ _ _ (fun h => hpm h.symm)).trans x2, (World.cell?_setCell_far _ _ _ _ (fun h => hpm h.symm)).trans x3, (World.cell?_setCell_far _ _ _ _ (fun h => hpm h.symm)).trans x4, (World.cell?_setCell_far _ _ _ _ (fun h => hpm h.symm)).trans x5, (World.cell?_setCell_far _ _ _ _ (fun h => hpm h.symm)).trans x6, (World.cell?_setCell_far _ _ _ _ (fun h => hpm h.symm)).trans x7⟩
    clear hK K
    refine wpAnyH_done (by kernel_rfl) ?_ _
    go_wp2_with fail
    go_end0
    exact ⟨rfl, HRp.out⟩
end Go.Proofs.Qxb6500293aGreatRR
