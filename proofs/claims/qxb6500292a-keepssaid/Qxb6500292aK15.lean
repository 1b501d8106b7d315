/-
  Turn walked: a new slot.
-/
import Derived.Test.Qxb6500292aK11
namespace Go.Proofs.Qxb6500292a
open Go.RowKit
open Ieee (double)
set_option linter.unusedVariables false
set_option linter.unusedSimpArgs false

set_option maxRecDepth 8000 in
set_option maxHeartbeats 3200000 in
theorem turn_new (own : Nat → Nat) (g : Nat) (st : List Tbl) (gs : Gs) (A : Nat) (B C : Int) (S T : List UInt8) (k v : V) (t : Tbl) (w : World) (H : GhAt own w g st gs) (ht : st[A]? = some t) (hl : gs.length ≤ 384) (hl32 : t.length ≤ 32) (hv : v.T ≠ 0) :
    Calls Try.prog 22 #[.pointer (some ⟨g, 0, none⟩), opV 7 A B C S T, valV k, valV v, .int .i64 (plc none)] w fun e w' => e = .returned (.tuple #[]) ∧ GEnd own w g (st.set A (t ++ [(k, v)])) (gs ++ [(A, (k, v))]) w' := by
  have lg := H.lt
  have hm := H.max
  have hA : A < st.length := (List.getElem?_eq_some_iff.1 ht).1
  have hA12 : A < 12 := by omega
  have hne : ¬ g = w.heap.size := by omega
  have hne1 : ¬ g = w.heap.size + 1 := by omega
  have hne2 : ¬ g = w.heap.size + 1 + 1 := by omega
  have hB := tuW_below w 7 A B C S T k v
  obtain ⟨ad, cp, hrow⟩ := H.row
  have hr3 := hrow.below hB
  have hcs := hr3.cs
  have bv : (v.T != 0) = true := by simpa using hv
  have HG : Hid (GhAt own w g st gs) := H
  have HT : Hid (st[A]? = some t) := ht
  have HM : Hid (st.length ≤ 12) := hm
  have hb3 : ∀ W, Below (tuW w 7 A B C S T k v).heap.size (tuW w 7 A B C S T k v) W → (W.cell? ⟨w.heap.size, 1, none⟩ = some (.int .i64 (A : Int))) ∧ VB W (w.heap.size + 1) k ∧ VB W (w.heap.size + 1 + 1) v := by
    intro W hb
    obtain ⟨h1, h2⟩ := two_vals (w := w.alloc (.cells #[.int .i64 7, .int .i64 (A : Int), .int .i64 B, .int .i64 C, .string ⟨S.toArray⟩, .string ⟨T.toArray⟩] 47)) (k := k) (z := v) hb
    rw [World.size_alloc] at h1 h2
    refine ⟨?_, h1, h2.1⟩
    have h0 := World.alloc_heap_new w (.cells #[.int .i64 7, .int .i64 (A : Int), .int .i64 B, .int .i64 C, .string ⟨S.toArray⟩, .string ⟨T.toArray⟩] 47)
    have h3 := (below_two (below_two (below_one (w.alloc (.cells #[.int .i64 7, .int .i64 (A : Int), .int .i64 B, .int .i64 C, .string ⟨S.toArray⟩, .string ⟨T.toArray⟩] 47)) (.cells #[.int .i64 k.T, .int .u64 k.N, .string ⟨k.S.toArray⟩] 42)) (below_one _ (.cells #[.int .i64 v.T, .int .u64 v.N, .string ⟨v.S.toArray⟩] 42))) hb).block w.heap.size (by simp)
    rw [h0] at h3
    simp [World.cell?, h3]
  have HAP : Hid (∀ W, Below (tuW w 7 A B C S T k v).heap.size (tuW w 7 A B C S T k v) W → (W.alloc (slotO A k v)).cell? ⟨g, 13, none⟩ = some (.slice ad gs.length cp) ∧ ∃ b c w7, (Builtin.append_ #[36, 36] 36 #[.slice ad gs.length cp, .slice (some ⟨W.heap.size, 0, none⟩) 1 1]).run Try.prog (W.alloc (slotO A k v)) = .ok (.slice (some ⟨b, 0, none⟩) (gs.length + 1) c) w7 ∧ GMid own w g st (gs ++ [(A, (k, v))]) (w7.setCell ⟨g, 13, none⟩ (.slice (some ⟨b, 0, none⟩) (gs.length + 1) c)) ∧ w7.cell? ⟨g, 13, none⟩ = some (.slice ad gs.length cp) ∧ w7.frozen? ⟨g, 13, none⟩ = false ∧ (w7.setCell ⟨g, 13, none⟩ (.slice (some ⟨b, 0, none⟩) (gs.length + 1) c)).cell? ⟨w.heap.size, 1, none⟩ = some (.int .i64 (A : Int))) := by
    intro W hb
    have hW := below_two hB hb
    obtain ⟨vs, h1, h2, h3⟩ := (H.below hW).tabs
    have e1 : W.cell? ⟨g, 13, none⟩ = some vs := by simp [World.cell?, h1, (ghC_at st vs).2.1]
    have hcW := (hrow.below hW).cs
    rw [hcW] at e1
    cases e1
    obtain ⟨b, c, w7, happ, hr7, hg7, hgw⟩ := append_slots h2 (by omega) A k v 36
    obtain ⟨m1, m2, m3⟩ := gh_grown H hW hcW hr7 hg7 hgw
    refine ⟨((below_one W _).cell (p := ⟨g, 13, none⟩) (H.below hW).lt).trans hcW, b, c, w7, happ, m1, m2, m3, ?_⟩
    have hn : (Value.slice ad gs.length cp).ownBlock ≠ some w.heap.size := fun e => by
      obtain ⟨vs0, h01, h02, h03⟩ := H.tabs
      have e3 : w.cell? ⟨g, 13, none⟩ = some vs0 := by simp [World.cell?, h01, (ghC_at st vs0).2.1]
      rw [hrow.cs] at e3
      cases e3
      have := ownsRow_lt h02 _ e
      omega
    have hsW : w.heap.size < W.heap.size := by have := hb.size; simp at this; omega
    exact (World.cell?_of_block (a := ⟨w.heap.size, 1, none⟩) ((Below.heap_setCell _ _ _ _ (by dsimp only; omega)).trans (hg7.block _ hsW (Ne.symm hn)))).trans (hb3 W hb).1
  obtain ⟨kT, kN, kS⟩ := k
  obtain ⟨vT, vN, vS⟩ := v
  rw [opV_mk, valV_mk, valV_mk]
  simp only [plc]
  simp only at bv
  obtain ⟨s1, sk, sv⟩ := hb3 _ (Below.refl _ _)
  obtain ⟨k0, k1, k2, _⟩ := sk.cells
  obtain ⟨v0, v1, v2, _⟩ := sv.cells
  simp only [tuW] at *
  have HB3 : Hid (∀ W, _ → _) := hb3
  clear H ht hm hrow hr3 hb3 sk sv hv
  generalize gs.length = gl at *
  go_enter Try.func22, Try.ntmps22
  obtain ⟨nc, b, c, w7, happ0, p1, p2, p3, p4⟩ := HAP.out _ (Below.drew (Below.refl _ _))
  have HMD : Hid (GMid own w g st (gs ++ [(A, (⟨kT, kN, kS⟩, ⟨vT, vN, vS⟩))]) (w7.setCell ⟨g, 13, none⟩ (.slice (some ⟨b, 0, none⟩) (gl + 1) c))) := p1
  obtain ⟨p5, p6⟩ := gmid_cell p1 HT.out hA12
  have happ : (Builtin.append_ #[36, 36] 36 #[.slice ad gl cp, .slice (some ⟨w.heap.size + 1 + 1 + 1, 0, none⟩) 1 1]).run Try.prog (((tuW w 7 A B C S T ⟨kT, kN, kS⟩ ⟨vT, vN, vS⟩).alloc (slotO A ⟨kT, kN, kS⟩ ⟨vT, vN, vS⟩)).drew) = .ok (.slice (some ⟨b, 0, none⟩) (gl + 1) c) w7 := by
    have := happ0
    simp only [World.size_alloc, World.drew] at this ⊢
    exact this
  have nc2 := (HAP.out _ (Below.refl _ _)).1
  clear happ0 HAP HB3 p1
  go_upto_region 12 with fail
  go_cut [6] from 35 (fun v wx => v = .pointer (some ⟨w.heap.size, 0, none⟩) ∧ wx.cell? ⟨w.heap.size, 1, none⟩ = some (.int .i64 (A : Int)) ∧ wx.cell? ⟨g, 1 + A, none⟩ = some (.int .i64 (t.length : Int)) ∧ wx.frozen? ⟨g, 1 + A, none⟩ = false ∧ Hid (GMid own w g st (gs ++ [(A, (⟨kT, kN, kS⟩, ⟨vT, vN, vS⟩))]) wx))
  case first =>
    go_region_law (first
      | refine step_append_eq rfl (.tmp 52) (.tmp 58) 36 rfl _ _ _ _ (by simp [Act.eval, Act.put]) (by simp [Act.eval, Act.put]) happ ?_)
    all_goals
      go_wp2_with fail
      go_meet
      case rel => exact ⟨rfl, p4, p5, p6, HMD⟩
  case rest =>
    obtain ⟨rfl, m1, m2, m3, HMID⟩ := hcut
    have HEN : Hid (GEnd own w g (st.set A (t ++ [(⟨kT, kN, kS⟩, ⟨vT, vN, vS⟩)])) (gs ++ [(A, (⟨kT, kN, kS⟩, ⟨vT, vN, vS⟩))]) (wc.setCell ⟨g, 1 + A, none⟩ (.int .i64 ((t.length : Int) + 1)))) := gmid_end HG.out HMID.out HT.out HM.out
    clear nc2 happ HMD HMID p2 p3 p4 p5 p6 s1 k0 k1 k2 v0 v1 v2 hcs HG HT HM nc
    generalize t.length = tl at *
    go_wp2_with fail
    go_region
    all_goals go_wp2
    all_goals
      go_end0
      exact ⟨rfl, HEN.out.drew⟩
end Go.Proofs.Qxb6500292a
