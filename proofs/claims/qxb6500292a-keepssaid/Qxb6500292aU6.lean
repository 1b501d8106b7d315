import Derived.Test.Qxb6500292aU3
namespace Go.Proofs.Qxb6500292a
open Go.RowKit
open Ieee (double)
set_option linter.unusedVariables false
set_option linter.unusedSimpArgs false

/-- Nothing but the model's blocks has turned. -/
structure ChgM (own : Nat → Nat) (w w' : World) : Prop where
  os : w'.os = w.os
  tape : w'.tape = w.tape
  output : w'.output = w.output
  size : w.heap.size ≤ w'.heap.size
  block : ∀ k, k < w.heap.size → ¬ (101 ≤ own k ∧ own k < 130) → w'.heap[k]? = w.heap[k]?
theorem ChgM.of_below {own : Nat → Nat} {w w' : World} (h : Below w.heap.size w w') : ChgM own w w' := ⟨h.os, h.tape, h.output, h.size, fun k hk _ => h.block k hk⟩
theorem RealAt.kept {own own' : Nat → Nat} {w w' : World} {x : Nat} {reps : List TabR} {count : Nat} (H : RealAt own w x reps count) (hs : w.heap.size ≤ w'.heap.size) (hk : ∀ k, k < w.heap.size → 1 ≤ own k → own k < 100 → w'.heap[k]? = w.heap[k]?) (ho : ∀ k, k < w.heap.size → own' k = own k) : RealAt own' w' x reps count := by
  obtain ⟨nb, vt, h1, h2, h3⟩ := H.tabs
  have hm := H.max
  refine ⟨⟨nb, vt, h1.kept (hk _ h1.lt (by rw [H.xc]; omega) (by rw [H.xc]; omega)) hs, ownsRow_block h2 (fun g hg => hk g (ownsRow_lt h2 g hg) (by rw [h3 g hg]; omega) (by rw [h3 g hg]; omega)), fun g hg => (ho g (ownsRow_lt h2 g hg)).trans (h3 g hg)⟩, (ho x h1.lt).trans H.xc, ?_, H.cnt, H.max, H.wiped⟩
  intro h r hr
  have hh : h < reps.length := (List.getElem?_eq_some_iff.1 hr).1
  exact ⟨(H.rep h r hr).1.kept (fun k hk' e1 e2 => hk k hk' (by omega) (by omega)) ho, (H.rep h r hr).2⟩
theorem RealAt.chgM {own own' : Nat → Nat} {w w' : World} {x : Nat} {reps : List TabR} {count : Nat} (H : RealAt own w x reps count) (hc : ChgM own w w') (ho : ∀ k, k < w.heap.size → own' k = own k) : RealAt own' w' x reps count :=
  H.kept hc.size (fun k hk h1 h2 => hc.block k hk (by omega)) ho
theorem ModAt.chg {own own' : Nat → Nat} {w w' : World} {y : Nat} {st : List Tbl} (H : ModAt own w y st) (hc : Chg own w w') (ho : ∀ k, k < w.heap.size → own' k = own k) : ModAt own' w' y st :=
  H.kept hc.size (fun k hk h1 h2 => hc.block k hk (by omega)) ho
theorem ModS.setVt {w : World} {y : Nat} {np vt : Value} (h : ModS w y np vt) (v : Value) : ModS (w.setCell ⟨y, 1, none⟩ v) y np v :=
  ⟨(World.cell?_setCell_other _ _ _ _ (by intro e; injection e; omega)).trans h.c0, World.cell?_setCell_same' _ _ _ (by rw [h.c1]; rfl), fun j => (World.frozen?_setCell _ _ _ _).trans (h.fz j), by have := h.lt; simpa using this⟩
set_option maxHeartbeats 400000 in
theorem mreset_any (own : Nat → Nat) (y : Nat) (st : List Tbl) (w : World) (H : ModAt own w y st) : Calls Try.prog 38 #[.pointer (some ⟨y, 0, none⟩)] w fun e w' => e = .returned (.tuple #[]) ∧ ModAt own w' y [] ∧ ChgM own w w' := by
  obtain ⟨np, vt, vs, hs, h2, _⟩ := H.tabs
  have HE : Hid (ModAt own (w.setCell ⟨y, 1, none⟩ (.slice none 0 0)) y [] ∧ ChgM own w (w.setCell ⟨y, 1, none⟩ (.slice none 0 0))) := by
    refine ⟨⟨⟨np, _, [], hs.setVt _, World.ownsRow_nil _ _ _ _, (fun g hg => by cases hg), fun h t ht => by simp at ht⟩, H.yc, by simp⟩, ⟨rfl, rfl, rfl, by simp, fun k hk hn => Below.heap_setCell _ _ _ _ (by rintro rfl; exact hn (by rw [H.yc]; omega))⟩⟩
  obtain ⟨c0, c1, fz, lt⟩ := hs
  have fz1 := fz 1
  clear H h2 fz
  go_enter Try.func38, Try.ntmps38
  go_wp2
  go_end0
  exact ⟨rfl, HE.out⟩
theorem info110 : (Try.prog.info? 110).map (fun i => (i.zero, i.size, i.bytes)) = some (some (.slice none 0 0), 1, 24) := by kernel_rfl
theorem info111 : (Try.prog.info? 111).map (fun i => (i.zero, i.size, i.bytes)) = some (some zEnt, 6, 64) := by kernel_rfl
theorem append_rows {w : World} {vt : Value} {n : Nat} {xs : List Value} (h : w.ownsRow 0 110 1 vt n xs) (hn : n ≤ 64) (ty : TypeId) :
    ∃ g c w', (Builtin.append_ #[71, 71] ty #[vt, .slice (some ⟨w.heap.size, 0, none⟩) 1 1]).run Try.prog (w.alloc (.cells #[.slice none 0 0] 110)) = .ok (.slice (some ⟨g, 0, none⟩) (n + 1) c) w' ∧ w'.ownsRow 0 110 1 (.slice (some ⟨g, 0, none⟩) (n + 1) c) (n + 1) (xs ++ [.slice none 0 0]) ∧
      w.grownBy w' vt.ownBlock ∧ (vt.ownBlock = some g ∨ g = w.heap.size + 1) := by
  obtain ⟨i0, hi, hz0, hz1, hz2⟩ := info_parts info110
  obtain ⟨v', w', hr, h2, h3, h4, h5⟩ := run_append_own_at (P := Try.prog) (w.alloc (.cells #[.slice none 0 0] 110)) 0 71 ty 110 i0 (.slice none 0 0) 1 24 Try.underlying71 hi hz0 hz1 hz2 rfl (by decide) vt n xs (h.alloc _) ⟨w.heap.size, 0, none⟩ 1 1 [.slice none 0 0] rfl (cell_one_new _ _ _) (by simp [Value.oneCell']) (by unfold maxLen; omega) (by omega) (Nat.zero_le _)
  rcases h2.2 with ⟨_, hx⟩ | ⟨g, cap, cur, rfl, _⟩
  · omega
  refine ⟨g, cap, w', hr, h2, grown_trans (World.grownBy_alloc w _ _) h3, ?_⟩
  rcases h5 with h5 | h5
  · left; rw [← h5]; rfl
  · right; simp [Value.ownBlock] at h5; exact h5
theorem append_pairs {w : World} {vo : Value} {n : Nat} {xs : List Value} (h : w.ownsRow 0 111 6 vo n xs) (hn : n ≤ 64) (k v : V) (ty : TypeId) :
    ∃ g c w', (Builtin.append_ #[110, 110] ty #[vo, .slice (some ⟨w.heap.size, 0, none⟩) 1 1]).run Try.prog (w.alloc (.cells #[.int .i64 k.T, .int .u64 k.N, .string ⟨k.S.toArray⟩, .int .i64 v.T, .int .u64 v.N, .string ⟨v.S.toArray⟩] 111)) = .ok (.slice (some ⟨g, 0, none⟩) (n + 1) c) w' ∧ w'.ownsRow 0 111 6 (.slice (some ⟨g, 0, none⟩) (n + 1) c) (n + 1) (xs ++ entC (k, v)) ∧
      w.grownBy w' vo.ownBlock ∧ (vo.ownBlock = some g ∨ g = w.heap.size + 1) := by
  obtain ⟨i0, hi, hz0, hz1, hz2⟩ := info_parts info111
  obtain ⟨v', w', hr, h2, h3, h4, h5⟩ := run_append_own_at (P := Try.prog) (w.alloc (.cells #[.int .i64 k.T, .int .u64 k.N, .string ⟨k.S.toArray⟩, .int .i64 v.T, .int .u64 v.N, .string ⟨v.S.toArray⟩] 111)) 0 110 ty 111 i0 zEnt 6 64 Try.underlying110 hi hz0 hz1 hz2 rfl (by decide) vo n xs (h.alloc _) ⟨w.heap.size, 0, none⟩ 1 1 (entC (k, v)) rfl (cell_six_new _ _ _ _ _ _ _ _) (by simp [entC, Value.oneCell']) (by unfold maxLen; omega) (by omega) (Nat.zero_le _)
  rcases h2.2 with ⟨_, hx⟩ | ⟨g, cap, cur, rfl, _⟩
  · omega
  refine ⟨g, cap, w', hr, h2, grown_trans (World.grownBy_alloc w _ _) h3, ?_⟩
  rcases h5 with h5 | h5
  · left; rw [← h5]; rfl
  · right; simp [Value.ownBlock] at h5; exact h5
/-- What a step of the model leaves. -/
def MEnd (own : Nat → Nat) (w : World) (y : Nat) (st' : List Tbl) (w' : World) : Prop := ∃ own', (∀ k, k < w.heap.size → own' k = own k) ∧ ModAt own' w' y st' ∧ ChgM own w w'
theorem MEnd.same {own : Nat → Nat} {w w' : World} {y : Nat} {st : List Tbl} (H : ModAt own w y st) (hb : Below w.heap.size w w') : MEnd own w y st w' := ⟨own, fun _ _ => rfl, H.below hb, ChgM.of_below hb⟩
theorem mmake_grown {own : Nat → Nat} {w w7 : World} {y : Nat} {st : List Tbl} {np vt : Value} {vs : List Value} (H : ModAt own w y st) (hfull : st.length < 12)
    (hs : ModS w y np vt) (hrow : w.ownsRow 0 110 1 vt st.length vs) (hvc : ∀ g, vt.ownBlock = some g → own g = 102) (hrows : ∀ h t, st[h]? = some t → ∃ v, vs[h]? = some v ∧ w.ownsRow 0 111 6 v t.length (ordC t) ∧ ∀ g, v.ownBlock = some g → own g = 110 + h)
    {g cp : Nat} (hr7 : w7.ownsRow 0 110 1 (.slice (some ⟨g, 0, none⟩) (st.length + 1) cp) (st.length + 1) (vs ++ [.slice none 0 0])) (hg7 : w.grownBy w7 vt.ownBlock) (hgw : vt.ownBlock = some g ∨ g = w.heap.size + 1) :
    MEnd own w y (st ++ [[]]) (w7.setCell ⟨y, 1, none⟩ (.slice (some ⟨g, 0, none⟩) (st.length + 1) cp)) := by
  have hyc := H.yc
  have hvlt : ∀ k, vt.ownBlock = some k → k < w.heap.size := fun k hk => ownsRow_lt hrow k hk
  have hvy : vt.ownBlock ≠ some y := fun e => by have := hvc y e; omega
  have hgy : g ≠ y := by
    rintro rfl
    rcases hgw with e | e
    · exact hvy e
    · have := hs.lt; omega
  have hold : ∀ k, k < w.heap.size → k ≠ y → vt.ownBlock ≠ some k → (w7.setCell ⟨y, 1, none⟩ (.slice (some ⟨g, 0, none⟩) (st.length + 1) cp)).heap[k]? = w.heap[k]? := fun k hk h1 h2 => (Below.heap_setCell _ _ _ _ h1).trans (hg7.block k hk (Ne.symm h2))
  have hS7 : ModS w7 y np vt := hs.kept (hg7.block y hs.lt (Ne.symm hvy)) hg7.size
  obtain ⟨own', hown'⟩ : ∃ own' : Nat → Nat, own' = fun k => if k = g ∧ w.heap.size ≤ k then 102 else own k := ⟨_, rfl⟩
  have ho : ∀ k, k < w.heap.size → own' k = own k := by
    intro k hk
    rw [hown']
    dsimp only
    rw [if_neg (by omega)]
  have og : own' g = 102 := by
    rcases hgw with e | e
    · rw [ho g (hvlt g e)]; exact hvc g e
    · rw [hown']; dsimp only; rw [if_pos ⟨rfl, by omega⟩]
  have hvl : vs.length = st.length := by have := hrow.1; simpa using this
  refine ⟨own', ho, ⟨⟨np, _, vs ++ [.slice none 0 0], hS7.setVt _, ?_, fun g' hg' => by cases hg'; exact og, ?_⟩, (ho y hs.lt).trans hyc, by simp; omega⟩, ⟨hg7.os, hg7.tape, hg7.output, by simpa using hg7.size, fun k hk hn => hold k hk (by rintro rfl; exact hn (by rw [hyc]; omega)) (fun e => hn (by rw [hvc k e]; omega))⟩⟩
  · rw [List.length_append, List.length_singleton]
    exact ownsRow_block hr7 (fun k hk => by cases hk; exact Below.heap_setCell _ _ _ _ hgy)
  · intro h t ht
    rcases Nat.lt_or_ge h st.length with c | c
    · rw [List.getElem?_append_left c] at ht
      obtain ⟨v, h1, h2, h3⟩ := hrows h t ht
      refine ⟨v, by rw [List.getElem?_append_left (by omega)]; exact h1, ownsRow_block h2 (fun k hk => hold k (ownsRow_lt h2 k hk) (by rintro rfl; have := h3 _ hk; omega) (fun e => by have := hvc k e; have := h3 k hk; omega)), fun k hk => (ho k (ownsRow_lt h2 k hk)).trans (h3 k hk)⟩
    · have : h = st.length := by have := (List.getElem?_eq_some_iff.1 ht).1; simp at this; omega
      subst this
      rw [List.getElem?_append_right (Nat.le_refl _), Nat.sub_self] at ht
      simp at ht
      subst ht
      refine ⟨.slice none 0 0, by rw [← hvl, List.getElem?_append_right (Nat.le_refl _), Nat.sub_self]; rfl, World.ownsRow_nil _ _ _ _, fun g hg => by cases hg⟩
/-- What Make answers. -/
def makeP (st : List Tbl) : Int × Int × List Tbl := if 12 ≤ st.length then (-1, 8, st) else ((st.length : Int), 0, st ++ [[]])
set_option maxRecDepth 8000 in
set_option maxHeartbeats 3200000 in
theorem mmake_any (own : Nat → Nat) (y : Nat) (st : List Tbl) (w : World) (H : ModAt own w y st) :
    Calls Try.prog 37 #[.pointer (some ⟨y, 0, none⟩)] w fun e w' => e = .returned (.tuple #[.int .i64 (makeP st).1, .int .i64 (makeP st).2.1]) ∧ MEnd own w y (makeP st).2.2 w' := by
  obtain ⟨np, vt, vs, hs, hrow, hvc, hrows⟩ := H.tabs
  have hm := H.max
  obtain ⟨ad0, cp0, hvt⟩ := row_slice hrow
  by_cases hf : 12 ≤ st.length
  · have HE : Hid (makeP st = (-1, 8, st)) := by show _ = _; unfold makeP; rw [if_pos hf]
    have HM : Hid (MEnd own w y st w) := MEnd.same H (Below.refl _ _)
    obtain ⟨c0, c1, fz, lt⟩ := hs
    have h12 : st.length = 12 := by omega
    rw [hvt, h12] at c1
    clear H hrow hrows hvc hvt hf hm fz h12
    go_enter Try.func37, Try.ntmps37
    go_wp2
    go_ret2
    exact ⟨ret_ii (by rw [HE.out]) (by rw [HE.out]), by rw [HE.out]; exact HM.out⟩
  · have HE : Hid (makeP st = ((st.length : Int), 0, st ++ [[]])) := by show _ = _; unfold makeP; rw [if_neg hf]
    obtain ⟨g, c, w7, happ, hr7, hg7, hgw⟩ := append_rows hrow (by omega) 71
    have HM : Hid (MEnd own w y (st ++ [[]]) (w7.setCell ⟨y, 1, none⟩ (.slice (some ⟨g, 0, none⟩) (st.length + 1) c))) := mmake_grown H (by omega) hs hrow hvc hrows hr7 hg7 hgw
    have hvy : vt.ownBlock ≠ some y := fun e => by have := hvc y e; have := H.yc; omega
    have hS7 : ModS w7 y np vt := hs.kept (hg7.block y hs.lt (Ne.symm hvy)) hg7.size
    obtain ⟨c0, c1, fz, lt⟩ := hs
    obtain ⟨b0, b1, bfz, blt⟩ := hS7
    have bfz1 := bfz 1
    have hne : ¬ y = w.heap.size := by omega
    rw [hvt] at c1 b1 happ
    have hlt : st.length < 12 := by omega
    generalize st.length = sl at *
    have d12 : decide ((12 : Int) ≤ (sl : Int)) = false := decide_eq_false (by omega)
    clear H hrow hrows hvc hvt hf hm fz bfz hr7 hg7 hgw hvy
    go_enter Try.func37, Try.ntmps37
    go_wp2_with (at_builtin; refine wpList_append_eq rfl _ _ 71 rfl _ _ _ _ rfl rfl happ ?_)
    go_ret2
    exact ⟨ret_ii (by rw [HE.out]; try omega) (by rw [HE.out]), by rw [HE.out]; exact HM.out⟩
end Go.Proofs.Qxb6500292a
