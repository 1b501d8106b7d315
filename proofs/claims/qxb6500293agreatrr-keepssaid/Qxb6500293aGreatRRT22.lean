import Derived.Test.Qxb6500293aGreatRRT21
import Derived.Lib.AppendStr
import Derived.Maps.AppendAt
namespace Go.Proofs.Qxb6500293aGreatRR
open Go.RowKit Go.Shelf
set_option linter.unusedVariables false
set_option linter.unusedSimpArgs false

/-- Show's buffer: the box lies in block n. -/
structure BufV (n : Nat) (W : World) (m : Nat) (bs : List UInt8) (ao : Option Addr) (c : Nat) : Prop where
  box : Boxed W n 59 (.slice ao m c)
  row : W.ownsRow n 5 1 (.slice ao m c) m (bs.map cel)
theorem BufV.len {n : Nat} {W : World} {m : Nat} {bs : List UInt8} {ao : Option Addr} {c : Nat} (h : BufV n W m bs ao c) : bs.length = m := by
  have := h.row.1; simpa using this
def Buf (n : Nat) (W : World) (bs : List UInt8) : Prop := ∃ m ao c, BufV n W m bs ao c
/-- Only the box and blocks of bytes have turned. -/
structure Bts (B : Nat) (W W' : World) : Prop where
  below : Below B W W'
  same : ∀ k o, W.heap[k]? = some o → (∀ cs fr, o ≠ .cells cs 5 fr) → k ≠ B → W'.heap[k]? = some o
theorem Bts.refl (B : Nat) (W : World) : Bts B W W := ⟨Below.refl _ _, fun _ _ h _ _ => h⟩
theorem Bts.trans {B : Nat} {X Y Z : World} (h : Bts B X Y) (k : Bts B Y Z) : Bts B X Z := ⟨h.below.trans k.below, fun i o hi ho hB => k.same i o (h.same i o hi ho hB) ho hB⟩
theorem Bts.of_below {B : Nat} {W W' : World} (h : Below W.heap.size W W') (hB : B ≤ W.heap.size) : Bts B W W' := ⟨h.mono hB, fun k o hk _ _ => (h.block k (Array.getElem?_eq_some_iff.1 hk).1).trans hk⟩
theorem Bts.keeps {B : Nat} {W W' : World} (h : Bts B W W') {v : Value} (hv : Boxed W B 59 v) : KeepsOthers W W' :=
  ⟨h.below.size, fun k o hk ho => h.same k o hk (fun cs fr e => by rw [e] at ho; cases ho) (fun e => by subst e; rw [show W.heap[k]? = _ from hv] at hk; cases hk; cases ho)⟩
theorem buf_step {W w1 : World} {B n m : Nat} {v v' : Value} {xs ys : List Value} (hv : Boxed W B 59 v) (hrow : W.ownsRow B 5 1 v n xs) (hown' : w1.ownsRow B 5 1 v' m ys) (hg : W.grownBy w1 v.ownBlock) :
    Boxed w1 B 59 v ∧ Boxed (w1.setCell ⟨B, 0, none⟩ v') B 59 v' ∧ (w1.setCell ⟨B, 0, none⟩ v').ownsRow B 5 1 v' m ys ∧ Bts B W (w1.setCell ⟨B, 0, none⟩ v') ∧ Below B W w1 := by
  have hv1 : Boxed w1 B 59 v := hv.kept hg (hv.not_row (by decide) hrow)
  have hb1 : Below B W w1 := by
    refine (Below.refl B W).grown hg (Nat.le_of_lt hv.lt) fun j ej => ?_
    rcases hrow.2 with ⟨rfl, _⟩ | ⟨g, cap, cur, rfl, hb, _, _⟩
    · simp [Value.ownBlock] at ej
    · obtain rfl : g = j := by simpa [Value.ownBlock] using ej
      exact hb
  refine ⟨hv1, hv1.set v', hown'.kept (grownBy_setCell' w1 B v') (.inr (hv1.not_row (by decide) hown').symm), ⟨hb1.setCell (p := ⟨B, 0, none⟩) (Nat.le_refl _) v', ?_⟩, hb1⟩
  · intro k o hk ho hB
    rw [Below.heap_setCell _ _ _ _ (by exact hB)]
    refine (hg.block k (Array.getElem?_eq_some_iff.1 hk).1 (fun e => ?_)).trans hk
    rcases hrow.2 with ⟨rfl, _⟩ | ⟨g, cap, cur, rfl, _, hgb, _⟩
    · simp [Value.ownBlock] at e
    · obtain rfl : k = g := by simpa [Value.ownBlock] using e
      rw [hgb] at hk; cases hk
      exact ho _ _ rfl
theorem Tryz.infoU8 : (Tryz.prog.info? 5).map (fun i => (i.zero, i.size, i.bytes)) = some (some (.int .u8 0), 1, 1) := by kernel_rfl
theorem buf_shape {W : World} {B n : Nat} {v : Value} {xs : List Value} (h : W.ownsRow B 5 1 v n xs) : ∃ ao c, v = .slice ao n c := by
  rcases h.2 with ⟨rfl, rfl⟩ | ⟨g, cap, cur, rfl, _⟩
  · exact ⟨_, _, rfl⟩
  · exact ⟨_, _, rfl⟩
/-- 'out = append(out, c)'. -/
theorem BufV.byte {B : Nat} {W : World} {m : Nat} {bs : List UInt8} {ao : Option Addr} {cp : Nat} (h : BufV B W m bs ao cp) (hl : m ≤ 100000) (c : UInt8) (z : Int) (hz : (c.toNat : Int) = z) (ty : TypeId) : ∃ ao' cp' w1,
    (Builtin.append_ #[59, 59] ty #[.slice ao m cp, .slice (some ⟨W.heap.size, 0, none⟩) 1 1]).run Tryz.prog (W.alloc (.cells #[.int .u8 z] 5)) = .ok (.slice ao' (m + 1) cp') w1 ∧
    w1.cell? ⟨B, 0, none⟩ = some (.slice ao m cp) ∧ w1.frozen? ⟨B, 0, none⟩ = false ∧ Below B W w1 ∧ BufV B (w1.setCell ⟨B, 0, none⟩ (.slice ao' (m + 1) cp')) (m + 1) (bs ++ [c]) ao' cp' ∧ Bts B W (w1.setCell ⟨B, 0, none⟩ (.slice ao' (m + 1) cp')) := by
  subst hz
  obtain ⟨hv, hr⟩ := h
  obtain ⟨i0, hi, hz0, hz1, hz2⟩ := info_parts Tryz.infoU8
  obtain ⟨v', w', hrun, h2, h3, h4, h5⟩ := run_append_own_at (P := Tryz.prog) (W.alloc (.cells #[cel c] 5)) B 59 ty 5 i0 (.int .u8 0) 1 1 Tryz.underlying59 hi hz0 hz1 hz2 rfl (by decide) _ _ _ (hr.alloc _) ⟨W.heap.size, 0, none⟩ 1 1 [cel c] rfl (cell_one_new _ _ _) (by simp [Value.oneCell', cel]) (by unfold maxLen; omega) (by omega) (by have := hv.lt; simp; omega)
  obtain ⟨ao', cp', rfl⟩ := buf_shape h2
  obtain ⟨a1, a2, a3, a4, a5⟩ := buf_step hv hr h2 (grown_trans (World.grownBy_alloc W _ _) h3)
  exact ⟨ao', cp', w', hrun, a1.cell, a1.frozen, a5, ⟨a2, by simpa using a3⟩, a4⟩
theorem strCells_eq (S : List UInt8) : Go.Lib.strCells ⟨S.toArray⟩ = S.map cel := by
  unfold Go.Lib.strCells cel
  simp
/-- 'out = append(out, s...)'. -/
theorem BufV.str {B : Nat} {W : World} {m : Nat} {bs : List UInt8} {ao : Option Addr} {cp : Nat} (h : BufV B W m bs ao cp) (hl : m ≤ 100000) (S : List UInt8) (hS : S.length ≤ 100000) (ty : TypeId) : ∃ ao' cp' w1,
    (Builtin.append_ #[59, 9] ty #[.slice ao m cp, .string ⟨S.toArray⟩]).run Tryz.prog W = .ok (.slice ao' (m + S.length) cp') w1 ∧
    w1.cell? ⟨B, 0, none⟩ = some (.slice ao m cp) ∧ w1.frozen? ⟨B, 0, none⟩ = false ∧ Below B W w1 ∧ BufV B (w1.setCell ⟨B, 0, none⟩ (.slice ao' (m + S.length) cp')) (m + S.length) (bs ++ S) ao' cp' ∧ Bts B W (w1.setCell ⟨B, 0, none⟩ (.slice ao' (m + S.length) cp')) := by
  obtain ⟨hv, hr⟩ := h
  obtain ⟨i0, hi, hz0, hz1, hz2⟩ := info_parts Tryz.infoU8
  have hsz : (⟨S.toArray⟩ : ByteArray).size = S.length := by simp [ByteArray.size]
  obtain ⟨v', w', hrun, h2, h3, h4⟩ := Go.Lib.run_append_own_string (P := Tryz.prog) W B 59 9 ty 5 i0 Tryz.underlying59 Tryz.underlying9 hi hz0 hz1 hz2 _ _ _ hr ⟨S.toArray⟩ (by rw [hsz]; unfold maxLen; omega) (by rw [hsz]; omega) (Nat.le_of_lt hv.lt)
  rw [hsz, strCells_eq] at h2
  obtain ⟨ao', cp', rfl⟩ := buf_shape h2
  obtain ⟨a1, a2, a3, a4, a5⟩ := buf_step hv hr h2 h3
  exact ⟨ao', cp', w', hrun, a1.cell, a1.frozen, a5, ⟨a2, by simpa using a3⟩, a4⟩
theorem BufV.own (B m : Nat) (ao : Option Addr) (cp : Nat) : Own (fun bs W => BufV B W m bs ao cp) := by
  rintro s X Y row ⟨hv, hr⟩ hg hrow
  refine ⟨hv.kept hg (fun e' => ?_), hr.kept hg ?_⟩
  · obtain ⟨o, ho, hc⟩ := hrow B e'.symm
    rw [show X.heap[B]? = _ from hv] at ho; cases ho; cases hc
  · rcases hr.2 with ⟨e, _⟩ | ⟨g, cap, cur, e, _, hgb, _⟩
    · rw [e]; exact .inl rfl
    · rw [e]
      refine .inr fun e' => ?_
      obtain ⟨o, ho, hc⟩ := hrow g e'.symm
      rw [hgb] at ho; cases ho; cases hc
theorem Buf.own (B : Nat) : Own (fun bs W => Buf B W bs) := by
  rintro s X Y row ⟨m, ao, cp, hv⟩ hg hrow
  exact ⟨m, ao, cp, BufV.own B m ao cp s X Y row hv hg hrow⟩
theorem BufV.below {B m : Nat} {ao : Option Addr} {cp : Nat} {W W' : World} {bs : List UInt8} (h : BufV B W m bs ao cp) (hb : Below W.heap.size W W') : BufV B W' m bs ao cp := BufV.own B m ao cp bs W W' none h (grown_of_below hb _) (by intro r e; cases e)
theorem Buf.below {B : Nat} {W W' : World} {bs : List UInt8} (h : Buf B W bs) (hb : Below W.heap.size W W') : Buf B W' bs := by
  obtain ⟨m, ao, cp, hv⟩ := h; exact ⟨m, ao, cp, hv.below hb⟩
/-- 'string(out)'. -/
theorem Buf.conv {B : Nat} {W : World} {bs : List UInt8} (h : Buf B W bs) : ∃ ao cp, W.cell? ⟨B, 0, none⟩ = some (.slice ao bs.length cp) ∧ (convert 59 9 (.slice ao bs.length cp)).run Tryz.prog W = .ok (.string ⟨bs.toArray⟩) W := by
  obtain ⟨m, ao, cp, H⟩ := h
  obtain rfl := H.len
  obtain ⟨hv, hr⟩ := H
  refine ⟨ao, cp, hv.cell, ?_⟩
  rw [run_convert_bytes_string W 59 9 5 _ _ _ Tryz.underlying59 Tryz.underlying5 Tryz.underlying9]
  rcases hr.2 with ⟨e, h0⟩ | ⟨g, cap, cur, e, _⟩
  · have hb : bs = [] := List.eq_nil_of_length_eq_zero h0
    subst hb
    cases e
    simp [Conv.bytesToString, go_sem]
    rfl
  · have hc := hr.cells (g := g) (by rw [e]; rfl)
    cases e
    have hload := run_loadCells_list (P := Tryz.prog) W ⟨g, 0, none⟩ (bs.map cel) hc
    rw [List.length_map] at hload
    have := run_bytesToString (P := Tryz.prog) W ⟨g, 0, none⟩ bs.length cp (bs.map fun c => (c.toNat : Int)) (by rw [hload, List.map_map]; rfl)
    rw [this, fold_push]
    simp
/-- An append whose run is known, inside a fence. -/
theorem wpListIn_append_eq {F : Fence} {n : Nat} {P : Program} {w : World} {ops : Array Oper} {rest : List Oper} {o : Oper} {a : Act} {Q : Exit → Act → World → Prop} (hgd : o.guard = none) (s x : Operand) (t u : TypeId)
    (ho : o.op = .call { callee := .builtin .append, args := #[s, x], argTypes := #[t, u] }) (v y v' : Value) (w' : World) (hs : a.eval s = v) (hx : a.eval x = y)
    (hr : (Builtin.append_ #[t, u] o.type #[v, y]).run P w = .ok v' w') (h : wpListIn F n P ops Q rest (a.put o.dst v') w') : wpListIn F n P ops Q (o :: rest) a w := by
  refine wpListIn_plain hgd fun K hK => ?_
  unfold Oper.wpIn
  refine ⟨?_, ?_⟩
  · simp [Oper.about, ho, resolve, Target.leads, Sem.run_pure]
  · rw [Oper.semAt_plain F _ _ (by rw [ho]; intro c hc'; cases hc')]
    simp [execOp, ho, resolve, invoke, builtin, hs, hx, hr, Result.andThen]
    exact hK _ _ h

/-- The blocks for deferred calls that the loops over iterators have left. -/
def Marks (n₀ : Nat) (W : World) (ds : List Deferred) : Prop := ∃ Ds : List Nat, ds = Ds.map (fun D => { target := .collected D, args := #[] }) ∧ Ds.Nodup ∧ ∀ D ∈ Ds, n₀ ≤ D ∧ W.heap[D]? = some (.deferred (some []))
theorem Marks.nil (n₀ : Nat) (W : World) : Marks n₀ W [] := ⟨[], rfl, List.nodup_nil, by intro D h; cases h⟩
theorem Marks.keeps {n₀ : Nat} {W W' : World} {ds : List Deferred} (h : Marks n₀ W ds) (k : KeepsOthers W W') : Marks n₀ W' ds := by
  obtain ⟨Ds, h1, h2, h3⟩ := h
  exact ⟨Ds, h1, h2, fun D hD => ⟨(h3 D hD).1, k.same D _ (h3 D hD).2 rfl⟩⟩
theorem Marks.cons {n₀ : Nat} {W0 W : World} {ds : List Deferred} (h : Marks n₀ W0 ds) (k : KeepsFrom 0 W0 W) {D : Nat} (hn : n₀ ≤ W0.heap.size) (hK : W.heap[D]? = some (.deferred (some []))) (hD : W0.heap.size ≤ D) : Marks n₀ W ({ target := .collected D, args := #[] } :: ds) := by
  obtain ⟨Ds, h1, h2, h3⟩ := h
  refine ⟨D :: Ds, by rw [h1]; rfl, ?_, ?_⟩
  · rw [List.nodup_cons]
    refine ⟨fun hm => ?_, h2⟩
    have := (Array.getElem?_eq_some_iff.1 (h3 D hm).2).1
    omega
  · intro E hE
    rcases List.mem_cons.1 hE with rfl | hE
    · exact ⟨by omega, hK⟩
    · exact ⟨(h3 E hE).1, k.same E _ (Nat.zero_le _) (h3 E hE).2 rfl⟩
/-- At the return all of them are taken. -/
theorem leaves_marks {F : Fence} {n : Nat} {P : Program} {fn : Func} {tm : Array Value} {R : Ending → World → Prop} {n₀ : Nat} : ∀ (Ds : List Nat) (W : World), Ds.Nodup → (∀ D ∈ Ds, n₀ ≤ D ∧ W.heap[D]? = some (.deferred (some []))) → n₀ ≤ W.heap.size →
    (∀ W', Below n₀ W W' → LeavesInM F n P fn tm R [] .returning W') → LeavesInM F n P fn tm R (Ds.map (fun D => { target := .collected D, args := #[] })) .returning W
  | [], W, _, _, _, h => h W (Below.refl _ _)
  | D :: Ds, W, hn, hD, hs, h => by
    obtain ⟨h1, h2⟩ := List.nodup_cons.1 hn
    obtain ⟨hn0, hK⟩ := hD D (List.mem_cons_self ..)
    refine ⟨by simp, .inl ⟨_, _, rfl, run_takeDeferred hK, ?_⟩⟩
    have hb : Below n₀ W (W.putObj D (.deferred none)) := (Below.refl n₀ W).grown (grownBy_putObj' W D _) hs (fun k e => by cases e; exact hn0)
    refine leaves_marks Ds _ h2 (fun E hE => ?_) (Nat.le_trans hs hb.size) (fun W' hb' => h W' (hb.trans hb'))
    obtain ⟨e1, e2⟩ := hD E (List.mem_cons_of_mem _ hE)
    exact ⟨e1, (World.putObj_heap_other (by rintro rfl; exact h1 hE)).trans e2⟩
end Go.Proofs.Qxb6500293aGreatRR
