/-
  run: the deferred closure.
-/
import Derived.Test.Qxb6500293aGreatRRY47
import Derived.Defers
import Derived.Recover
namespace Go.Proofs.Qxb6500293aGreatRR
open Go.RowKit
open Ieee (double)
set_option linter.unusedVariables false
set_option linter.unusedSimpArgs false
theorem as155_yes (W : World) (v : Value) : (Instr.typeAssert (.iface 155 v) 20 155 true).run Tryz.prog W = .ok (.tuple #[v, .bool true]) W := by kernel_rfl
theorem as159_yes (W : World) (v : Value) : (Instr.typeAssert (.iface 159 v) 20 159 true).run Tryz.prog W = .ok (.tuple #[v, .bool true]) W := by kernel_rfl
theorem as155_no (W : World) (v : Value) : (Instr.typeAssert (.iface 159 v) 20 155 true).run Tryz.prog W = .ok (.tuple #[.pointer none, .bool false]) W := by kernel_rfl
set_option maxRecDepth 8000 in
theorem catch_idle (a0 a1 a2 a3 : Value) (w : World) :
    CallsD Tryz.prog 75 #[a0, a1, a2, a3] .returning w fun e u' w' => e = .returned (.tuple #[]) ∧ u' = .returning ∧ w' = w := by
  refine callsD_of_wpS Tryz.func75 rfl fun c₀ cs hu => ?_
  apply wpS_seq
  apply wpS_region
  simp [wpOpsS, go_sem, recoverD, hu, Tryz.ntmps75, Exit.thenS]
  refine wpS_of_wp ?_
  simp only [Array.replicate_succ, Array.replicate_zero, List.push_toArray, List.append_toArray, List.nil_append, List.cons_append, List.setIfInBounds_toArray, List.set_cons_succ, List.set_cons_zero]
  go_wp2_with fail
  cases c₀
  simp_all [bodyPostS, results, Tryz.results75]
set_option maxRecDepth 8000 in
set_option maxHeartbeats 1000000 in
/-- An error is caught. -/
theorem catch_throw {own : Nat → Nat} {W w : World} {m a nb tp i : Nat} {B : List (Nat × Obj)} {K : Mc} {fs : Option Value} (R : Rn own W m a nb tp i fs B K w) {bm bt be bd b : Nat} {vT : Int} {vN : Nat} {vS : List UInt8}
   (h1 : w.cell? ⟨bm, 0, none⟩ = some (.pointer (some ⟨m, 0, none⟩))) (h2 : w.cell? ⟨bt, 0, none⟩ = some (.pointer (some ⟨a, i * 5, none⟩))) (h3 : w.cell? ⟨b, 0, none⟩ = some (.int .i64 vT)) (h4 : w.cell? ⟨b, 1, none⟩ = some (.int .u64 (vN : Int))) (h5 : w.cell? ⟨b, 2, none⟩ = some (.string ⟨vS.toArray⟩))
   (he : (be, zEv) ∈ B) (hd : (bd, .cells #[.bool false] 4) ∈ B) (hed : be ≠ bd) {u : Mc × Ev × Bool}
   (HU : Calls Tryz.prog 76 #[.pointer (some ⟨m, 0, none⟩), .pointer (some ⟨a, i * 5, none⟩), valV ⟨vT, vN, vS⟩] (w.drewN 1) fun e W' => e = .returned (.tuple #[evV u.2.1, .bool u.2.2]) ∧ ∃ fs', Rn own W m a nb tp i fs' B u.1 W') :
    CallsD Tryz.prog 75 #[.pointer (some ⟨bm, 0, none⟩), .pointer (some ⟨bt, 0, none⟩), .pointer (some ⟨be, 0, none⟩), .pointer (some ⟨bd, 0, none⟩)] (.panicking [{ v := .iface 155 (.pointer (some ⟨b, 0, none⟩)), recovered := false }]) w fun e u' w' => e = .returned (.tuple #[]) ∧ u' = .panicking [{ v := .iface 155 (.pointer (some ⟨b, 0, none⟩)), recovered := true }] ∧ ∃ w2 fs2, Rn own W m a nb tp i fs2 B u.1 w2 ∧ w' = (putE w2 be (i64 u.2.1.K) (i64 u.2.1.h) (.int .i64 u.2.1.E) (.int .i64 u.2.1.v.T) (.int .u64 (u.2.1.v.N : Int)) (.string ⟨u.2.1.v.S.toArray⟩) (.int .i64 u.2.1.w.T) (.int .u64 (u.2.1.w.N : Int)) (.string ⟨u.2.1.w.S.toArray⟩)).setCell ⟨bd, 0, none⟩ (.bool u.2.2) := by
  have q1 := as155_yes
  refine callsD_of_wpS Tryz.func75 rfl fun c₀ cs hu => ?_
  apply wpS_seq
  apply wpS_region
  simp [wpOpsS, go_sem, recoverD, hu, Tryz.ntmps75, Exit.thenS]
  refine wpS_of_wp ?_
  simp only [Array.replicate_succ, Array.replicate_zero, List.push_toArray, List.append_toArray, List.nil_append, List.cons_append, List.setIfInBounds_toArray, List.set_cons_succ, List.set_cons_zero]
  obtain ⟨uM, ⟨K', h', E', ⟨xT, xN, xS⟩, ⟨yT, yN, yS⟩⟩, ub⟩ := u
  rw [valV_mk] at HU
  simp only [evV] at HU
  have HR : Hid (Rn own W m a nb tp i fs B K w) := R
  have HBE : Hid ((be, zEv) ∈ B ∧ (bd, .cells #[.bool false] 4) ∈ B ∧ be ≠ bd) := ⟨he, hd, hed⟩
  clear R he hd hed
  go_wp2_with fail
  go_region_with (go_at_call 76; refine HU.mono ?_; rintro e w2 ⟨rfl, hR2⟩; obtain ⟨fs2, R2⟩ := hR2; have HR2 : Hid (Rn own W m a nb tp i fs2 B uM w2) := R2; obtain ⟨e60, e61, e62, e63, e64, e65, e66, e67, e68, z6⟩ := cells9 (R2.box HBE.out.1).1; have bb2 := (R2.box HBE.out.2.1).1; have d0 : w2.cell? ⟨bd, 0, none⟩ = some (.bool false) := (by rw [box_cell bb2]; rfl); have dz : w2.frozen? ⟨bd, 0, none⟩ = false := box_frozen bb2 0; have hnbd : ¬ be = bd := HBE.out.2.2; have hnbe : ¬ bd = be := (fun e => HBE.out.2.2 e.symm); clear R2 bb2)
  all_goals
    go_wp2_with fail
    clear HU e60 e61 e62 e63 e64 e65 e66 e67 e68 z6 d0 dz
    simp [bodyPostS, results, Tryz.results75]
    exact ⟨w2, ⟨fs2, HR2.out⟩, rfl⟩
set_option maxRecDepth 8000 in
set_option maxHeartbeats 1000000 in
/-- The machine is stopped. -/
theorem catch_trap {own : Nat → Nat} {W w : World} {m a nb tp i : Nat} {B : List (Nat × Obj)} {K : Mc} {fs : Option Value} (R : Rn own W m a nb tp i fs B K w) {bm bt be bd : Nat} {x : Int}
   (h1 : w.cell? ⟨bm, 0, none⟩ = some (.pointer (some ⟨m, 0, none⟩)))
   (he : (be, zEv) ∈ B) (hd : (bd, .cells #[.bool false] 4) ∈ B) (hed : be ≠ bd) :
    CallsD Tryz.prog 75 #[.pointer (some ⟨bm, 0, none⟩), .pointer (some ⟨bt, 0, none⟩), .pointer (some ⟨be, 0, none⟩), .pointer (some ⟨bd, 0, none⟩)] (.panicking [{ v := .iface 159 (.int .i64 x), recovered := false }]) w fun e u' w' => e = .returned (.tuple #[]) ∧ u' = .panicking [{ v := .iface 159 (.int .i64 x), recovered := true }] ∧ ∃ w2 fs2, Rn own W m a nb tp i fs2 B (wipeP K x) w2 ∧ w' = (putE w2 be (.int .i64 5) (.int .i64 0) (.int .i64 x) (.int .i64 0) (.int .u64 0) (.string ⟨#[]⟩) (.int .i64 0) (.int .u64 0) (.string ⟨#[]⟩)).setCell ⟨bd, 0, none⟩ (.bool true) := by
  have q1 := as155_no
  have q2 := as159_yes
  obtain ⟨own1, hv, hN, hX⟩ := R.vm
  have HW := wipe_any hv x
  have HX : Hid (∀ M2 w2, Nx own1 w m a nb tp M2 w2 → Rn own W m a nb tp i (w2.cell? ⟨a, i * 5 + 3, none⟩) B M2 w2) := hX
  have HBE : Hid ((be, zEv) ∈ B ∧ (bd, .cells #[.bool false] 4) ∈ B ∧ be ≠ bd) := ⟨he, hd, hed⟩
  clear R he hd hed hv hN hX
  refine callsD_of_wpS Tryz.func75 rfl fun c₀ cs hu => ?_
  apply wpS_seq
  apply wpS_region
  simp [wpOpsS, go_sem, recoverD, hu, Tryz.ntmps75, Exit.thenS]
  refine wpS_of_wp ?_
  simp only [Array.replicate_succ, Array.replicate_zero, List.push_toArray, List.append_toArray, List.nil_append, List.cons_append, List.setIfInBounds_toArray, List.set_cons_succ, List.set_cons_zero]
  go_wp2_with fail
  refine HW.mono ?_; rintro e w2 ⟨rfl, hnx⟩
  have R2 := HX.out _ _ hnx
  have HR2 : Hid (Rn own W m a nb tp i (w2.cell? ⟨a, i * 5 + 3, none⟩) B (wipeP K x) w2) := R2
  obtain ⟨e60, e61, e62, e63, e64, e65, e66, e67, e68, z6⟩ := cells9 (R2.box HBE.out.1).1
  have bb2 := (R2.box HBE.out.2.1).1
  have d0 : w2.cell? ⟨bd, 0, none⟩ = some (.bool false) := by rw [box_cell bb2]; rfl
  have dz : w2.frozen? ⟨bd, 0, none⟩ = false := box_frozen bb2 0
  have hnbd : ¬ be = bd := HBE.out.2.2
  have hnbe : ¬ bd = be := fun e => HBE.out.2.2 e.symm
  clear R2 bb2 HX HW hnx
  go_wp2_with fail
  clear e60 e61 e62 e63 e64 e65 e66 e67 e68 z6 d0 dz
  simp [bodyPostS, results, Tryz.results75]
  exact ⟨w2, ⟨_, HR2.out⟩, rfl⟩
end Go.Proofs.Qxb6500293aGreatRR
