import Derived.Test.Qxb6500293aGreatRRT24
import Derived.Maps.OwnIn
import Derived.Sort.QuietIn
namespace Go.Proofs.Qxb6500293aGreatRR
open Go.RowKit Go.Shelf
set_option linter.unusedVariables false
set_option linter.unusedSimpArgs false

/-- The places named so far: such alone whose key D says. -/
def Dn (t : Tbl) (bl : List Bool) (D : V → Prop) : Prop := ∀ p : Nat, bl[p]? = some true → ∃ e : V × V, t[p]? = some e ∧ D e.1
theorem Dn.start (t : Tbl) (D : V → Prop) : Dn t (List.replicate 32 false) D := by
  intro p hp
  rw [List.getElem?_replicate] at hp
  split at hp <;> simp at hp
theorem Dn.free {t : Tbl} {bl : List Bool} {D : V → Prop} (h : Dn t bl D) (hl : bl.length = 32) {p : Nat} {e : V × V} (hp : t[p]? = some e) (h32 : p < 32) (hn : ¬ D e.1) : bl[p]? = some false := by
  have e1 := List.getElem?_eq_getElem (l := bl) (i := p) (by omega)
  cases hb : bl[p]'(by omega)
  · rw [e1, hb]
  · rw [hb] at e1
    obtain ⟨e2, h2, h3⟩ := h p e1
    rw [hp] at h2
    cases h2
    exact absurd h3 hn
theorem Dn.step {t : Tbl} {bl : List Bool} {D D' : V → Prop} (h : Dn t bl D) {p : Nat} {e : V × V} (hp : t[p]? = some e) (h1 : ∀ k, D k → D' k) (h2 : D' e.1) : Dn t (bl.set p true) D' := by
  intro q hq
  by_cases c : p = q
  · subst c; exact ⟨e, hp, h2⟩
  · rw [List.getElem?_set_ne c] at hq
    obtain ⟨e', a, b⟩ := h q hq
    exact ⟨e', a, h1 _ b⟩
theorem Dn.mono {t : Tbl} {bl : List Bool} {D D' : V → Prop} (h : Dn t bl D) (h1 : ∀ k, D k → D' k) : Dn t bl D' := fun p hp => by
  obtain ⟨e', a, b⟩ := h p hp
  exact ⟨e', a, h1 _ b⟩

/-- CheckMid's world: the result's box, the array of places seen. -/
structure Cm (w wr : World) (t : Tbl) (D : V → Prop) : Prop where
  below : Below w.heap.size w wr
  res : wr.heap[w.heap.size]? = some (.cells #[.bool false] 4)
  seen : ∃ bl, SeenAt wr (w.heap.size + 1) bl ∧ Dn t bl D
theorem Cm.lt {w wr : World} {t : Tbl} {D : V → Prop} (h : Cm w wr t D) : w.heap.size + 1 < wr.heap.size := by
  obtain ⟨bl, hs, _⟩ := h.seen
  exact hs.lt
theorem Cm.grown {w wr w' : World} {t : Tbl} {D : V → Prop} {row : Option Nat} (h : Cm w wr t D) (hg : wr.grownBy w' row) (hr : ∀ r, row = some r → w.heap.size + 1 < r) : Cm w w' t D := by
  have hl := h.lt
  obtain ⟨bl, hs, hd⟩ := h.seen
  refine ⟨h.below.grown hg h.below.size (fun k e => by have := hr k e; omega), ?_, bl, hs.kept (hg.block _ hl (fun e => by have := hr _ e.symm; omega)), hd⟩
  exact (hg.block _ (by omega) (fun e => by have := hr _ e.symm; omega)).trans h.res
theorem Cm.drewN {w wr : World} {t : Tbl} {D : V → Prop} (h : Cm w wr t D) (m : Nat) : Cm w (wr.drewN m) t D :=
  h.grown (row := none) (grown_drew ⟨rfl, rfl, rfl, Nat.le_refl _, fun _ _ _ => rfl⟩ m) (fun r e => by cases e)
theorem Cm.of_below {w wr w' : World} {t : Tbl} {D : V → Prop} (h : Cm w wr t D) (hb : Below wr.heap.size wr w') : Cm w w' t D :=
  h.grown (row := none) ⟨hb.os, hb.tape, hb.output, hb.size, fun k hk _ => hb.block k hk⟩ (fun r e => by cases e)
theorem Cm.mono {w wr : World} {t : Tbl} {D D' : V → Prop} (h : Cm w wr t D) (h1 : ∀ k, D k → D' k) : Cm w wr t D' := by
  obtain ⟨bl, hs, hd⟩ := h.seen
  exact ⟨h.below, h.res, bl, hs, hd.mono h1⟩
/-- points in CheckMid. -/
theorem cm_points {own : Nat → Nat} {w wr : World} {A h : Nat} {r : TabR} {D : V → Prop} {k v : V} {p : Nat} (HT : TabAt own w A h r) (hc : Cm w wr r.t D) (hp : r.t[p]? = some (k, v)) (hn : ¬ D k) :
    Calls Tryz.prog 63 #[.pointer (some ⟨A, h * 6, none⟩), .int .i32 (p : Int), valV k, .pointer (some ⟨w.heap.size + 1, 0, none⟩)] wr fun e w' => e = .returned (.bool true) ∧ (∀ D' : V → Prop, (∀ k, D k → D' k) → D' k → Cm w w' r.t D') ∧ wr.grownBy w' (some (w.heap.size + 1)) := by
  obtain ⟨bl, hs, hd⟩ := hc.seen
  have lA := HT.lt
  have hp32 : p < 32 := by
    have := (List.getElem?_eq_some_iff.1 hp).1
    have := HT.rep.inv.len
    omega
  have hl := hc.lt
  refine (points_any own A h r wr (w.heap.size + 1) bl p k v (HT.below hc.below) hs (by omega) (fun g hg => by have := ownsRow_lt HT.rep.ord g hg; omega) hp (hd.free hs.len hp hp32 hn)).mono ?_
  rintro e w' ⟨rfl, hs', hg⟩
  refine ⟨rfl, fun D' h1 h2 => ⟨hc.below.grown hg hc.below.size (fun k e => by cases e; omega), ?_, _, hs', hd.step hp h1 h2⟩, hg⟩
  exact (hg.block _ (by omega) (fun e => by injection e; omega)).trans hc.res

/-- A map that is being ranged over: what is left. -/
def Rng (kt : TypeId) (w : World) (b rI n : Nat) (f : Lit → Option Nat) (left : Lit → Bool) : Prop :=
  ∃ (D : DataW Unit) (cnt : Nat), w.ranges Tryz.prog kt (plainElem Tryz.prog 21) b rI n D left cnt ∧ (∀ kl, left kl = true → (f kl).isSome = true) ∧ ∀ kl p, f kl = some p → p < 2147483648 ∧ D.atKey kl (.lit (.int .i32 0)) = .lit (.int .i32 (p : Int))
theorem Rng.kept {kt : TypeId} {w w' : World} {b rI n : Nat} {f : Lit → Option Nat} {left : Lit → Bool} {row : Option Nat} (h : Rng kt w b rI n f left) (hg : w.grownBy w' row) (h1 : row ≠ some b) (h2 : row ≠ some rI) : Rng kt w' b rI n f left ∧ w'.rangeLeft b rI = w.rangeLeft b rI := by
  obtain ⟨D, cnt, hr, a, b⟩ := h
  have := hr.kept hg (Ne.symm h1) (Ne.symm h2)
  exact ⟨⟨D, cnt, this, a, b⟩, by rw [this.left_eq, hr.left_eq]⟩

section
variable {F : Fence} {nF : Nat} (w : World) {ops : Array Oper} {rest : List Oper} {o : Oper} {a : Act} {Q : Exit → Act → World → Prop}
theorem wpListIn_range_map {kt : TypeId} {b n : Nat} {f : Lit → Option Nat} (h : MapAt kt w b n f) (hg : o.guard = none) (m : Operand) (t : TypeId) (hop : o.op = Op.range t m) (K : Maps.Keyed Tryz.prog kt) (ht : Tryz.prog.underlying t = some (.map kt 21))
    (hm : a.eval m = .map (some b))
    (hK : ∀ w', Rng kt w' b w.heap.size n f (fun kl => (f kl).isSome) → w.grownBy w' none → w'.heap.size = w.heap.size + 1 → wpListIn F nF Tryz.prog ops Q rest (a.put o.dst (.pointer (some ⟨w.heap.size, 0, none⟩))) w') :
    wpListIn F nF Tryz.prog ops Q (o :: rest) a w := by
  obtain ⟨D, h1, h2, h3, h4⟩ := h
  refine wpListIn_range_own w hg m t hop kt 21 K ht _ b n D hm h1 ?_
  intro w' hr hg' hs
  refine hK w' ⟨D, Maps.size D, ?_, fun kl h => h, h4⟩ hg' hs
  rw [show (fun kl => (f kl).isSome) = Maps.has D from funext fun kl => (h3 kl).symm]
  exact hr
theorem wpListIn_next_u64 {b rI n : Nat} {f : Lit → Option Nat} {left : Lit → Bool} (h : Rng 31 w b rI n f left) (hg : o.guard = none) (it : Operand) (hop : o.op = Op.next it false) (hit : a.eval it = .pointer (some ⟨rI, 0, none⟩))
    (hDone : (∀ kl, left kl = false) → wpListIn F nF Tryz.prog ops Q rest (a.put o.dst (.tuple #[.bool false])) w)
    (hMore : ∀ (N p : Nat) (w' : World), N < 18446744073709551616 → left (.int .u64 (N : Int)) = true → f (.int .u64 (N : Int)) = some p → Rng 31 w' b rI n f (fun z => left z && !z.sameKey (.int .u64 (N : Int))) → w'.rangeLeft b rI < w.rangeLeft b rI →
      w.grownBy w' (some rI) → w'.heap.size = w.heap.size → (Instr.entry (.pointer (some ⟨rI, 0, none⟩))).run Tryz.prog w' = .ok (.tuple #[.int .u64 (N : Int), .int .i32 (p : Int)]) w' → wpListIn F nF Tryz.prog ops Q rest (a.put o.dst (.tuple #[.bool true, .int .u64 (N : Int), .int .i32 (p : Int)])) w') :
    wpListIn F nF Tryz.prog ops Q (o :: rest) a w := by
  obtain ⟨D, cnt, hr, ha, hb⟩ := h
  refine wpListIn_next_ranges_ii w hg it hop 31 21 .u64 .i32 nums_keyed Tryz.underlying31 Tryz.underlying21 b rI n D left cnt hit hr (fun _ h => hDone h) ?_
  intro xk c w1 cnt1 hwx hwc hlx hatk hrg1 hlt hg1 hs1 hen
  obtain ⟨N, rfl, hN⟩ := u64_nat hwx
  obtain ⟨p, hp⟩ := Option.isSome_iff_exists.1 (ha _ hlx)
  have hcp := (hb _ p hp).2
  rw [hatk] at hcp
  have hcp : c = (p : Int) := by injection hcp with e; injection e
  subst hcp
  refine hMore N p w1 hN hlx hp ⟨D, cnt1, hrg1, fun kl hk => ha kl (by have h := hk; simp at h; exact h.1), hb⟩ (by rw [hrg1.left_eq, hr.left_eq]; exact hlt) hg1 hs1 hen
theorem wpListIn_next_str {b rI n : Nat} {f : Lit → Option Nat} {left : Lit → Bool} (h : Rng 9 w b rI n f left) (hg : o.guard = none) (it : Operand) (hop : o.op = Op.next it false) (hit : a.eval it = .pointer (some ⟨rI, 0, none⟩))
    (hDone : (∀ kl, left kl = false) → wpListIn F nF Tryz.prog ops Q rest (a.put o.dst (.tuple #[.bool false])) w)
    (hMore : ∀ (s : List UInt8) (p : Nat) (w' : World), left (.string s) = true → f (.string s) = some p → Rng 9 w' b rI n f (fun z => left z && !z.sameKey (.string s)) → w'.rangeLeft b rI < w.rangeLeft b rI →
      w.grownBy w' (some rI) → w'.heap.size = w.heap.size → (Instr.entry (.pointer (some ⟨rI, 0, none⟩))).run Tryz.prog w' = .ok (.tuple #[.string ⟨s.toArray⟩, .int .i32 (p : Int)]) w' → wpListIn F nF Tryz.prog ops Q rest (a.put o.dst (.tuple #[.bool true, .string ⟨s.toArray⟩, .int .i32 (p : Int)])) w') :
    wpListIn F nF Tryz.prog ops Q (o :: rest) a w := by
  obtain ⟨D, cnt, hr, ha, hb⟩ := h
  refine wpListIn_next_ranges w hg it hop 9 strs_keyed _ Value.string (fun c : Int => Value.int .i32 c) (fun key kl h => Maps.keyOf_string_inv Tryz.underlying9 h) (fun v y h => by obtain ⟨c, h1, _⟩ := plainElem_int_inv Tryz.underlying21 h; exact ⟨c, h1⟩) b rI n D left cnt hit hr (fun _ h => hDone h) ?_
  intro s c kl y w1 cnt1 hkey hlx hR hatk hrg1 hlt hg1 hs1 hen
  obtain ⟨⟨s⟩⟩ := s
  have hk : kl = .string s := by
    obtain ⟨s', e1, e2, _⟩ := WideMaps.string_of_keyOf Tryz.underlying9 hkey
    rw [e2, ← Value.string.inj e1]
  subst hk
  obtain ⟨p, hp⟩ := Option.isSome_iff_exists.1 (ha _ hlx)
  have hcp := (hb _ p hp).2
  rw [hatk] at hcp
  obtain ⟨c', e1, e2, _⟩ := plainElem_int_inv Tryz.underlying21 hR
  injection e1 with _ e1
  subst e1
  have hcp : c = (p : Int) := by
    rw [e2] at hcp
    exact (Lit.int.inj (DataW.lit.inj hcp)).2
  subst hcp
  refine hMore s p w1 hlx hp ⟨D, cnt1, hrg1, fun kl hk => ha kl (by have h := hk; simp at h; exact h.1), hb⟩ (by rw [hrg1.left_eq, hr.left_eq]; exact hlt) hg1 hs1 hen
end

/-- What has been named: in the array part; behind it. -/
def D1 (i : Nat) (k : V) : Prop := ∃ j, j < i ∧ k = numKey (j + 1)
def D2 (left : Lit → Bool) (k : V) : Prop := k.T = 2 ∧ left (.int .u64 (k.N : Int)) = false
def D3 (left : Lit → Bool) (k : V) : Prop := k.T = 2 ∨ (k.T = 3 ∧ left (.string k.S) = false)
def D4 (left : Lit → Bool) (k : V) : Prop := k.T = 2 ∨ k.T = 3 ∨ left (.int .u64 (packN k : Int)) = false
theorem D1_new {i : Nat} (hi : i < 33) : ¬ D1 i (numKey (i + 1)) := by
  rintro ⟨j, hj, e⟩
  have : fl (i + 1) = fl (j + 1) := congrArg V.N e
  have := fl_inj (by omega) (by omega) this
  omega
theorem D1_succ (i : Nat) (k : V) (h : D1 i k) : D1 (i + 1) k := by obtain ⟨j, hj, e⟩ := h; exact ⟨j, by omega, e⟩
theorem D1_D2 {t : Tbl} {n : Nat} (hn : n ≤ 32) (k : V) (h : D1 n k) : D2 (fun kl => (numsF t n kl).isSome) k := by
  obtain ⟨j, hj, rfl⟩ := h
  refine ⟨rfl, ?_⟩
  show (numsF t n (.int .u64 ((fl (j + 1) : Nat) : Int))).isSome = false
  have := fl_small (j + 1) (by omega)
  rw [numsF_int, if_neg]
  · rfl
  · rintro ⟨_, h⟩
    unfold inArr at h
    rw [Int.toNat_natCast, this.1] at h
    simp at h
    omega
theorem left_and {left : Lit → Bool} {l x : Lit} (h : left x = false) : (left x && !x.sameKey l) = false := by rw [h]; rfl
theorem D2_step {left : Lit → Bool} (l : Lit) (k : V) (h : D2 left k) : D2 (fun z => left z && !z.sameKey l) k := ⟨h.1, left_and h.2⟩
theorem D3_step {left : Lit → Bool} (l : Lit) (k : V) (h : D3 left k) : D3 (fun z => left z && !z.sameKey l) k := h.elim .inl (fun h => .inr ⟨h.1, left_and h.2⟩)
theorem D4_step {left : Lit → Bool} (l : Lit) (k : V) (h : D4 left k) : D4 (fun z => left z && !z.sameKey l) k := h.elim .inl (fun h => .inr (h.elim .inl (fun h => .inr (left_and h))))
theorem and_self {left : Lit → Bool} {l : Lit} (hl : WideAt.IsKeyLit l) : (left l && !l.sameKey l) = false := by rw [WideAt.sameKey_self hl]; simp
theorem nums_at {t : Tbl} {n N p : Nat} (h : numsF t n (.int .u64 (N : Int)) = some p) : inArr n N = false ∧ ∃ v, t[p]? = some ((⟨2, N, []⟩ : V), v) := by
  rw [numsF_int, Int.toNat_natCast] at h
  split at h
  · rename_i c
    obtain ⟨e, h1, h2⟩ := idx_some h
    refine ⟨c.2, e.2, ?_⟩
    rw [h1, ← h2]
  · cases h
theorem strs_at {t : Tbl} {s : List UInt8} {p : Nat} (h : strsF t (.string s) = some p) : ∃ v, t[p]? = some ((⟨3, 0, s⟩ : V), v) := by
  obtain ⟨e, h1, h2⟩ := idx_some (show idx t ⟨3, 0, s⟩ = some p from h)
  exact ⟨e.2, by rw [h1, ← h2]⟩
theorem refs_at {t : Tbl} {x p : Nat} (h : refsF t (.int .u64 (x : Int)) = some p) : ∃ k v, t[p]? = some (k, v) ∧ k.T ≠ 2 ∧ k.T ≠ 3 ∧ packN k = x := by
  have h' : t.findIdx? (fun e => decide (e.1.T ≠ 2) && (decide (e.1.T ≠ 3) && decide ((packN e.1 : Int) = (x : Int)))) = some p := h
  rw [List.findIdx?_eq_some_iff_getElem] at h'
  obtain ⟨hp, h1, _⟩ := h'
  simp at h1
  refine ⟨t[p].1, t[p].2, List.getElem?_eq_getElem hp, h1.1, h1.2.1, by omega⟩
end Go.Proofs.Qxb6500293aGreatRR
