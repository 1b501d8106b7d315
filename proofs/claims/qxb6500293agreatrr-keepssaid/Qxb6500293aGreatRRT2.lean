/-
  A MAP TO int32 IN MEMORY: what it holds, as a function on keys, and how many.
-/
import Derived.Test.Qxb6500293aGreatRRT1
import Derived.Maps.RangeWalk
import Derived.Maps.OwnOps
namespace Go.Proofs.Qxb6500293aGreatRR
open Go.RowKit Go.MapKept Go.ChangeMaps
set_option linter.unusedVariables false

theorem nums_keyed : Maps.Keyed Tryz.prog 31 := Maps.int_keyed Tryz.underlying31
theorem strs_keyed : Maps.Keyed Tryz.prog 9 := Maps.string_keyed Tryz.underlying9
theorem zero21 (w : World) : (zeroValue 21).run Tryz.prog w = .ok (.int .i32 0) w := by kernel_rfl
theorem u64_wf {x : Nat} (h : x < 18446744073709551616) : (Lit.int .u64 (x : Int)).wf = true := by
  have hmin : IntKind.u64.min = 0 := by decide +kernel
  have hmax : IntKind.u64.max = 18446744073709551615 := by decide +kernel
  simp [Lit.wf, hmin, hmax]; omega
theorem i32_wf {p : Nat} (h : p < 2147483648) : (Lit.int .i32 (p : Int)).wf = true := by
  have hmin : IntKind.i32.min = -2147483648 := by decide +kernel
  have hmax : IntKind.i32.max = 2147483647 := by decide +kernel
  simp [Lit.wf, hmin, hmax]; omega

/-- Block b is a map to int32 of n entries; f says where each key leads. -/
def MapAt (kt : TypeId) (w : World) (b n : Nat) (f : Lit → Option Nat) : Prop :=
  ∃ D : DataW Unit, w.ownsMap Tryz.prog kt (plainElem Tryz.prog 21) b n D ∧ Maps.size D = n ∧ (∀ kl, Maps.has D kl = (f kl).isSome) ∧ ∀ kl p, f kl = some p → p < 2147483648 ∧ D.atKey kl (.lit (.int .i32 0)) = .lit (.int .i32 (p : Int))
theorem ownsMap_tight {kt : TypeId} {w : World} {b n : Nat} {D : DataW Unit} (h : w.ownsMap Tryz.prog kt (plainElem Tryz.prog 21) b n D) : w.ownsMap Tryz.prog kt (plainElem Tryz.prog 21) b (Maps.size D) D := by
  obtain ⟨es, clock, hb, F, hs, rfl⟩ := h
  refine ⟨es, clock, hb, F, ?_, rfl⟩
  rw [Maps.size_eq, length_sorted]; simp

section
variable {kt : TypeId} {w : World} {b n : Nat} {f : Lit → Option Nat}
theorem MapAt.lt (h : MapAt kt w b n f) : b < w.heap.size := by obtain ⟨D, h1, _⟩ := h; exact h1.lt
/-- The block as it lay. -/
theorem MapAt.block {w' : World} (h : MapAt kt w b n f) (e : w'.heap[b]? = w.heap[b]?) : MapAt kt w' b n f := by
  obtain ⟨D, ⟨es, clock, hb, r⟩, r2⟩ := h
  exact ⟨D, ⟨es, clock, e.trans hb, r⟩, r2⟩
theorem mapAt_made (w : World) (kt : TypeId) : MapAt kt (w.alloc (.map #[] 0)) w.heap.size 0 (fun _ => none) :=
  ⟨.map [], World.ownsMap_made w _ _ _, rfl, fun kl => rfl, fun kl p h => by cases h⟩
theorem MapAt.look {t : TypeId} (h : MapAt kt w b n f) (K : Maps.Keyed Tryz.prog kt) (ht : Tryz.prog.underlying t = some (.map kt 21)) {key : Value} {kl : Lit} (hkey : keyOf Tryz.prog kt key = some kl) :
    (Instr.lookup t (.map (some b)) key true).run Tryz.prog w = .ok (.tuple #[.int .i32 (((f kl).getD 0 : Nat) : Int), .bool (f kl).isSome]) w := by
  obtain ⟨D, h1, h2, h3, h4⟩ := h
  obtain ⟨v, ps, hrun, hv⟩ := h1.look_ok K ht (zero21 w) (plainElem_int Tryz.underlying21 (a := 0) (by decide)) hkey
  rw [hrun, h3]
  cases hf : f kl with
  | none =>
    rw [Maps.atKey_of_not_has (by rw [h3, hf]; rfl)] at hv
    obtain ⟨c, rfl, hc, _⟩ := plainElem_int_inv Tryz.underlying21 hv
    simp only [Prod.mk.injEq, DataW.lit.injEq, Lit.int.injEq, true_and] at hc
    rw [← hc.1]; rfl
  | some p =>
    rw [(h4 kl p hf).2] at hv
    obtain ⟨c, rfl, hc, _⟩ := plainElem_int_inv Tryz.underlying21 hv
    simp only [Prod.mk.injEq, DataW.lit.injEq, Lit.int.injEq, true_and] at hc
    rw [← hc.1]; rfl
theorem MapAt.len {t : TypeId} (h : MapAt kt w b n f) (ht : Tryz.prog.underlying t = some (.map kt 21)) (ty : TypeId) : (Builtin.len_ #[t] ty #[.map (some b)]).run Tryz.prog w = .ok (.int .i64 n) w := by
  obtain ⟨D, h1, h2, h3, h4⟩ := h
  rw [h1.len ht ty, h2]
/-- A key more, or another place for one. -/
def setK (f : Lit → Option Nat) (k : Lit) (p : Option Nat) : Lit → Option Nat := fun x => if x.sameKey k then p else f x
theorem setK_same {k : Lit} (hk : WideAt.IsKeyLit k) (p : Option Nat) : setK f k p k = p := by unfold setK; rw [if_pos (WideAt.sameKey_self hk)]
theorem setK_other {k x : Lit} (h : x ≠ k) (p : Option Nat) : setK f k p x = f x := by unfold setK; rw [if_neg (by rw [Maps.sameKey_ne h]; decide)]
theorem MapAt.store {t : TypeId} (h : MapAt kt w b n f) (K : Maps.Keyed Tryz.prog kt) (ht : Tryz.prog.underlying t = some (.map kt 21)) (hn : n < maxLen) {key : Value} {kl : Lit} (hkey : keyOf Tryz.prog kt key = some kl) (hlit : WideAt.IsKeyLit kl)
    (hf : f kl = none) {p : Nat} (hp : p < 2147483648) :
    ∃ w', (Instr.mapUpdate t (.map (some b)) key (.int .i32 (p : Int))).run Tryz.prog w = .ok () w' ∧ MapAt kt w' b (n + 1) (setK f kl (some p)) ∧ w.grownBy w' (some b) := by
  obtain ⟨D, h1, h2, h3, h4⟩ := h
  obtain ⟨w', hrun, hown, hg⟩ := h1.update K ht hn hkey (plainElem_int Tryz.underlying21 (i32_wf hp))
  have hsz : Maps.size (D.put kl (.lit (.int .i32 (p : Int)))) = n + 1 := by
    rw [Maps.size_put (h1.tidy K), h3, hf]; simp [h2]
  have ht := ownsMap_tight hown
  rw [hsz] at ht
  refine ⟨w', hrun, ⟨_, ht, hsz, ?_, ?_⟩, hg⟩
  · intro x
    by_cases c : x = kl
    · subst c; rw [Maps.has_put_same h1.isMap hlit, setK_same hlit]; rfl
    · rw [Maps.has_put_other c, h3, setK_other c]
  · intro x q hq
    by_cases c : x = kl
    · subst c
      rw [setK_same hlit] at hq
      cases hq
      exact ⟨hp, Maps.atKey_put_same h1.isMap hlit _ _⟩
    · rw [setK_other c] at hq
      exact ⟨(h4 x q hq).1, (Maps.atKey_put_other c _ _).trans (h4 x q hq).2⟩
theorem MapAt.drop {t : TypeId} (h : MapAt kt w b n f) (K : Maps.Keyed Tryz.prog kt) (ht : Tryz.prog.underlying t = some (.map kt 21)) {key : Value} {kl : Lit} (hkey : keyOf Tryz.prog kt key = some kl)
    (hlit : WideAt.IsKeyLit kl) (hf : (f kl).isSome = true) (ty : TypeId) :
    ∃ w', (Builtin.delete_ #[t, kt] ty #[.map (some b), key]).run Tryz.prog w = .ok (.tuple #[]) w' ∧ MapAt kt w' b (n - 1) (setK f kl none) ∧ w.grownBy w' (some b) := by
  obtain ⟨D, h1, h2, h3, h4⟩ := h
  obtain ⟨w', hrun, hown, hg⟩ := h1.drop K ht hkey ty
  have hsz : Maps.size (D.del kl) = n - 1 := by
    have := Maps.size_del (k := kl) (h1.tidy K)
    rw [h3, hf] at this
    simp at this; omega
  have ht := ownsMap_tight hown
  rw [hsz] at ht
  refine ⟨w', hrun, ⟨_, ht, hsz, ?_, ?_⟩, hg.grown⟩
  · intro x
    by_cases c : x = kl
    · subst c; rw [Maps.has_del_same, setK_same hlit]; rfl
    · rw [Maps.has_del_other c, h3, setK_other c]
  · intro x q hq
    by_cases c : x = kl
    · subst c; rw [setK_same hlit] at hq; cases hq
    · rw [setK_other c] at hq
      exact ⟨(h4 x q hq).1, (Maps.atKey_del_other c _).trans (h4 x q hq).2⟩
theorem MapAt.clear {t : TypeId} (h : MapAt kt w b n f) (ht : Tryz.prog.underlying t = some (.map kt 21)) (ty : TypeId) :
    ∃ w', (Builtin.clear_ #[t] ty #[.map (some b)]).run Tryz.prog w = .ok (.tuple #[]) w' ∧ MapAt kt w' b 0 (fun _ => none) ∧ w.grownBy w' (some b) := by
  obtain ⟨D, ⟨es, clock, hb, F, hs, hD⟩, h2, h3, h4⟩ := h
  refine ⟨setBlock w b (.map #[] clock), ?_, ⟨.map [], ⟨#[], clock, heap_setBlock_same hb _, ⟨by simp, stamped_empty _, by simp⟩, by simp, rfl⟩, rfl, fun _ => rfl, fun _ _ h => by cases h⟩, ⟨rfl, rfl, rfl, by simp [setBlock], fun i _ hi => heap_setBlock_other hb _ (fun e => hi (by rw [e]))⟩⟩
  simp [Builtin.clear_, run_underlying ht, MapKept.run_getObj_map hb, MapKept.run_setObj_map _ hb, Result.andThen, setBlock]
end
end Go.Proofs.Qxb6500293aGreatRR
