/-
  THE MACHINE, PLAIN: what the instructions lay is valid.
-/
import Derived.Test.Qxb6500293aGreatRRZ1
import Derived.Test.Qxb6500293aGreatRRY8
import Derived.Test.Qxb6500293aGreatRRLw2
namespace Go.Proofs.Qxb6500293aGreatRR
open Ieee (double)
set_option linter.unusedVariables false
set_option linter.unusedSimpArgs false

/-- A number that the machine holds: a NaN is THE NaN. -/
def Good (N : Nat) : Prop := ¬ 2047 * 2 ^ 52 < N % 2 ^ 63 ∨ N = nanBits
theorem good_nan : Good nanV := .inr rfl
theorem good_opt {o : Option Ieee.Datum} (h : ∀ d, o = some d → ∀ s t, d ≠ .nan s t) : Good ((o.map double.write).getD nanV) := by
  cases o with
  | none => exact .inr rfl
  | some d =>
    have := write_rung (h d rfl)
    exact .inl (Nat.not_lt.2 this)
theorem addW_good (a b : Nat) : Good (addW a b) := good_opt fun _ => sum_not_nan
theorem mulW_good (a b : Nat) : Good (mulW a b) := good_opt fun _ => product_not_nan
theorem divW_good (a b : Nat) : Good (divW a b) := good_opt fun _ => quotient_not_nan
theorem floorW_good {x : Nat} (hx : x < 18446744073709551616) : Good (floorW x) := by
  by_cases c : 2047 * 2 ^ 52 < x % 2 ^ 63
  · rw [floorW_nan c]; exact good_nan
  by_cases d : x % 2 ^ 63 = 2047 * 2 ^ 52
  · rw [floorW_inf hx d]; exact .inl c
  · rw [floorW_fin hx (by omega)]; exact .inl (Nat.not_lt.2 (nearest_rung ..))
theorem arithW_good (op : Int) (a b : Nat) : Good (arithW op a b) := by
  unfold arithW
  split
  · exact addW_good _ _
  split
  · exact addW_good _ _
  split
  · exact mulW_good _ _
  split
  · exact divW_good _ _
  split
  · exact floorW_good (divW_lt _ _)
  split
  · exact addW_good _ _
  · exact good_nan
theorem negW_good (a : Nat) : Good (negW a) := by
  unfold negW
  split
  · exact good_nan
  · rename_i h
    refine .inl ?_
    rw [flipS_mod]
    exact h
theorem fl_good (n : Nat) : Good (fl n) := .inl (Nat.not_lt.2 (nearest_rung ..))
theorem parseP_good {s : List UInt8} (h : (parseP s).2 = 0) : Good (parseP s).1 ∧ (parseP s).1 < 18446744073709551616 := by
  unfold parseP at h ⊢
  split at h
  · cases h
  rename_i h24
  rw [if_neg h24]
  split at h
  · rename_i hn
    rw [if_pos hn]
    exact ⟨.inr rfl, by decide⟩
  rename_i hn
  rw [if_neg hn]
  split at h
  · rename_i hm
    rw [if_pos hm]
    cases hmag : magP s.tail with
    | none => rw [hmag] at h; cases h
    | some f =>
      have := (magP_some hmag).2
      refine ⟨.inl ?_, ?_⟩
      · show ¬ _ < flipS f % 2 ^ 63
        rw [flipS_mod, Nat.mod_eq_of_lt (by omega)]
        omega
      · exact flipS_lt (x := f) (by omega)
  · rename_i hm
    rw [if_neg hm]
    cases hmag : magP s with
    | none => rw [hmag] at h; cases h
    | some f =>
      have := (magP_some hmag).2
      refine ⟨.inl ?_, ?_⟩
      · show ¬ _ < f % 2 ^ 63
        rw [Nat.mod_eq_of_lt (by omega)]
        omega
      · show f < _
        omega
theorem Good.okV {N : Nat} (h : Good N) (M : Mc) (hN : N < 18446744073709551616) : okV M (numV N) := num_okV M h hN
section
variable {M : Mc}
theorem tab_mem {st : List Tbl} {h : Nat} {e : V × V} (he : e ∈ st[h]?.getD []) : ∃ t ∈ st, e ∈ t := by
  by_cases hl : h < st.length
  · rw [List.getElem?_eq_getElem hl] at he
    exact ⟨_, List.getElem_mem hl, he⟩
  · rw [List.getElem?_eq_none (by omega)] at he
    simp at he
theorem ent_okV {t : Tbl} (h : ∀ e ∈ t, okV M e.1 ∧ okV M e.2) (p : Nat) : okV M (t[p]?.getD (nilV, nilV)).1 ∧ okV M (t[p]?.getD (nilV, nilV)).2 := by
  by_cases hp : p < t.length
  · rw [List.getElem?_eq_getElem hp]
    exact h _ (List.getElem_mem hp)
  · rw [List.getElem?_eq_none (by omega)]
    exact ⟨nil_okV _, nil_okV _⟩
theorem getP_okV (htb : ∀ t ∈ M.tb, ∀ e ∈ t, okV M e.1 ∧ okV M e.2) (h : Int) (k : V) : okV M (getP M.tb h k).1 := by
  have ht : ∀ e ∈ M.tb[h.toNat]?.getD [], okV M e.1 ∧ okV M e.2 := fun e he => by
    obtain ⟨t, h1, h2⟩ := tab_mem he
    exact htb t h1 e h2
  unfold getP
  split
  · exact nil_okV _
  split
  · exact nil_okV _
  split
  · exact nil_okV _
  · exact (ent_okV ht _).2
theorem nextP_okV (htb : ∀ t ∈ M.tb, ∀ e ∈ t, okV M e.1 ∧ okV M e.2) (h : Int) (k : V) : okV M (nextP M.tb h k).1 ∧ okV M (nextP M.tb h k).2.1 := by
  have ht : ∀ e ∈ M.tb[h.toNat]?.getD [], okV M e.1 ∧ okV M e.2 := fun e he => by
    obtain ⟨t, h1, h2⟩ := tab_mem he
    exact htb t h1 e h2
  unfold nextP
  split
  · exact ⟨nil_okV _, nil_okV _⟩
  split
  · exact ⟨nil_okV _, nil_okV _⟩
  split
  · exact ⟨nil_okV _, nil_okV _⟩
  split
  · exact ent_okV ht _
  · exact ⟨nil_okV _, nil_okV _⟩
theorem one_okV {k : V} (h : okV M k) : okV M (oneV k) := by
  unfold oneV
  split
  · rename_i hc
    obtain ⟨T, N, S⟩ := k
    have h2 : T = 2 := hc.1
    have h3 : N = 9223372036854775808 := hc.2
    subst h2 h3
    have h1 := h.1
    unfold validP at h1
    rw [Bool.and_eq_true] at h1
    have hS : S = [] := by
      have := h1.1
      unfold wfB at this
      simp at this
      exact this
    subst hS
    exact num_okV M (.inl (by decide)) (by decide)
  · exact h
theorem setP_okV (htb : ∀ t ∈ M.tb, ∀ e ∈ t, okV M e.1 ∧ okV M e.2) (h : Int) {k v : V} (hk : okV M k) (hv : okV M v) : (setP M.tb h k v).1.length = M.tb.length ∧ ∀ t ∈ (setP M.tb h k v).1, ∀ e ∈ t, okV M e.1 ∧ okV M e.2 := by
  have ht : ∀ e ∈ M.tb[h.toNat]?.getD [], okV M e.1 ∧ okV M e.2 := fun e he => by
    obtain ⟨t, h1, h2⟩ := tab_mem he
    exact htb t h1 e h2
  unfold setP
  split
  · exact ⟨rfl, htb⟩
  split
  · exact ⟨rfl, htb⟩
  split
  · exact ⟨rfl, htb⟩
  split
  · exact ⟨rfl, htb⟩
  unfold setT
  split
  · rename_i p hp
    refine ⟨List.length_set, fun t ht' e he => ?_⟩
    rcases List.mem_or_eq_of_mem_set ht' with g | g
    · exact htb t g e he
    · subst g
      unfold setVal at he
      split at he
      · rename_i e0 he0
        rcases List.mem_or_eq_of_mem_set he with g | g
        · exact ht e g
        · rw [g]
          exact ⟨(ht e0 (List.mem_of_getElem? he0)).1, hv⟩
      · exact ht e he
  · split
    · exact ⟨rfl, htb⟩
    split
    · exact ⟨rfl, htb⟩
    refine ⟨List.length_set, fun t ht' e he => ?_⟩
    rcases List.mem_or_eq_of_mem_set ht' with g | g
    · exact htb t g e he
    · subst g
      rcases List.mem_append.1 he with g | g
      · exact ht e g
      · rw [List.mem_singleton] at g
        rw [g]
        exact ⟨one_okV hk, hv⟩
variable {run : Option Nat} {sl i : Nat}
theorem Alive.cell (h : Alive M run sl) {u : Nat} (hu : u < M.ce.length) (h0 : 0 ≤ (M.x u).th) : (M.x u).th.toNat < M.th.length ∧ (M.x u).at' < (M.t (M.x u).th.toNat).sk.length ∧ (M.t (M.x u).th.toNat).st ≠ 1 ∧ (M.t (M.x u).th.toNat).st ≠ 5 := by
  obtain ⟨k, h1, h2, h3⟩ := h.cl.ceo u hu h0
  rw [h1]
  show k < _ ∧ _
  have hk := h.th k h2
  obtain ⟨o1, o2, j, f, o3, o4, o5⟩ := hk.opm u h3
  have := hk.base_le o3
  refine ⟨h2, ?_, ?_, ?_⟩
  · show (M.x u).at' < (M.t k).sk.length
    omega
  · intro e
    have e : (M.t k).st = 1 := e
    rw [(hk.dead (.inl e)).2.2] at h3
    simp at h3
  · intro e
    have e : (M.t k).st = 5 := e
    rw [(hk.dead (.inr e)).2.2] at h3
    simp at h3
theorem x_mem {u : Nat} (hu : u < M.ce.length) : M.x u ∈ M.ce := by
  unfold Mc.x
  rw [List.getElem?_eq_getElem hu]
  exact List.getElem_mem hu
theorem Alive.upx (h : Alive M run sl) {c x : Nat} (hc : c < M.cs.length) (hx : x < (M.c c).nup) : upX M c x < M.ce.length := by
  have hcl := h.clo hc
  have hu : (M.c c).up + x < M.ux.length := by omega
  unfold upX
  rw [List.getElem?_eq_getElem hu]
  exact h.cl.ux _ (List.getElem_mem hu)
theorem Alive.upV (h : Alive M run sl) {c x : Nat} (hc : c < M.cs.length) (hx : x < (M.c c).nup) : okV M (upP M c x) := by
  have hu := h.upx hc hx
  unfold upP cellV
  split
  · rename_i h0
    obtain ⟨h1, h2, _⟩ := h.cell hu h0
    exact h.at h1 h2
  · exact h.va.ce _ (x_mem hu)
/-- A closed cell's value turned. -/
theorem Alive.ceV (h : Alive M run sl) {u : Nat} (hu : u < M.ce.length) {v : V} (hv : okV M v) : Alive { M with ce := M.ce.set u { M.x u with v := v } } run sl := by
  have hx : ∀ d, (({ M with ce := M.ce.set u { M.x u with v := v } } : Mc).x d).th = (M.x d).th ∧ (({ M with ce := M.ce.set u { M.x u with v := v } } : Mc).x d).at' = (M.x d).at' := by
    intro d
    have : ({ M with ce := M.ce.set u { M.x u with v := v } } : Mc).x d = if u = d then { M.x u with v := v } else M.x d := x_set hu
    rw [this]
    split
    · rename_i e
      subst e
      exact ⟨rfl, rfl⟩
    · exact ⟨rfl, rfl⟩
  have hlen : (M.ce.set u { M.x u with v := v }).length = M.ce.length := List.length_set
  have okm : ∀ v', okV M v' → okV ({ M with ce := M.ce.set u { M.x u with v := v } } : Mc) v' := fun v' hv' => hv'.mono (Nat.le_refl _) (Nat.le_refl _) (Nat.le_refl _)
  refine ⟨h.en, ⟨h.st.pr1, h.st.pr13, h.st.tile, h.st.each, h.st.win, h.st.lds, h.st.lks, h.st.lco, h.st.ds, h.st.co, h.st.ks⟩, ⟨h.cl.cs1, h.cl.cs24, h.cl.tile, h.cl.each, fun w hw => by show w < (M.ce.set u _).length; rw [hlen]; exact h.cl.ux w hw, h.cl.lux, by show (M.ce.set u _).length ≤ _; rw [hlen]; exact h.cl.lce, ?_, ?_, ?_⟩, h.th1, h.th5, ?_, ⟨fun w hw => okm w (h.va.ks w hw), ?_, fun t ht w hw => okm w (h.va.sk t ht w hw), fun t ht e he => ⟨okm _ (h.va.tb t ht e he).1, okm _ (h.va.tb t ht e he).2⟩⟩, ⟨h.ou.fuel, h.ou.out, h.ou.line⟩, h.tb, h.tb12⟩
  · intro x hx1 hx0
    rw [(hx x).1] at hx0 ⊢
    exact h.cl.ceo x (by have : x < (M.ce.set u { M.x u with v := v }).length := hx1; omega) hx0
  · intro x hx1 hx0
    rw [(hx x).1] at hx0
    rw [(hx x).1, (hx x).2]
    exact h.cl.cec x (by have : x < (M.ce.set u { M.x u with v := v }).length := hx1; omega) hx0
  · have s2 := count_set M.ce u { M.x u with v := v } (M.x u) (at_some hu)
    have := h.cl.cnt
    show (M.th.map (fun t => t.op.length)).sum = (M.ce.set u { M.x u with v := v }).countP (fun c => decide (0 ≤ c.th))
    have e : ({ M.x u with v := v } : Ce).th = (M.x u).th := rfl
    rw [e] at s2
    omega
  · intro k hk
    exact (h.th k hk).of (Nat.le_refl _) (fun _ _ => rfl) (by show M.ce.length ≤ (M.ce.set u _).length; omega) (fun c _ => hx c) (fun a b => (h.th k hk).main0 a b) Iff.rfl
  · intro e he
    rcases List.mem_or_eq_of_mem_set he with q | q
    · exact okm _ (h.va.ce e q)
    · rw [q]
      exact okm _ hv
end
end Go.Proofs.Qxb6500293aGreatRR
