/-
  stop, raise, throw; burn, jump.
-/
import Derived.Test.Qxb6500293aGreatRRX4
namespace Go.Proofs.Qxb6500293aGreatRR
open Go.RowKit
set_option linter.unusedVariables false
set_option linter.unusedSimpArgs false

/-- The panics of the machine: a trap; an error value in a box of its own. -/
abbrev trapE (e : Int) : Ending := .panicked [{ v := .iface 159 (.int .i64 e), recovered := false }]
abbrev thrE (b : Nat) : Ending := .panicked [{ v := .iface 155 (.pointer (some ⟨b, 0, none⟩)), recovered := false }]
abbrev thrO (v : V) : Obj := .cells #[.int .i64 v.T, .int .u64 (v.N : Int), .string ⟨v.S.toArray⟩] 158
set_option maxHeartbeats 400000 in
theorem stop_any (e : Int) (W : World) : Calls Tryz.prog 85 #[.int .i64 e] W fun en W' => en = trapE e ∧ W' = W := by
  go_enter Tryz.func85, Tryz.ntmps85
  go_wp2
  simp [bodyPost]
theorem raise_any (s : List UInt8) (W : World) : Calls Tryz.prog 94 #[.string ⟨s.toArray⟩] W fun en W' => en = thrE W.heap.size ∧ W' = W.alloc (thrO (str s)) := by
  go_enter Tryz.func94, Tryz.ntmps94
  go_wp2
  simp [bodyPost, str]
  rfl
theorem throw_any (v : V) (W : World) : Calls Tryz.prog 114 #[valV v] W fun en W' => en = thrE (W.heap.size + 1) ∧ W' = (W.alloc (.cells #[.int .i64 v.T, .int .u64 (v.N : Int), .string ⟨v.S.toArray⟩] 33)).alloc (thrO v) := by
  obtain ⟨T, N, S⟩ := v
  rw [valV_mk]
  go_enter Tryz.func114, Tryz.ntmps114
  go_wp2
  simp [bodyPost]
/-- How a function that may fly ends: it answers x (as val says), or it throws v, or it stops the machine with e. -/
def OuEnd {α : Type} (own : Nat → Nat) (W : World) (m a nb tp : Nat) (o : Ou α) (val : α → Value) (en : Ending) (W' : World) : Prop :=
  (o.k = 0 ∧ en = .returned (val o.x) ∧ Nx own W m a nb tp o.M W') ∨
  (o.k = 2 ∧ (∃ b, en = thrE b ∧ W.heap.size ≤ b ∧ W'.heap[b]? = some (thrO o.v)) ∧ Nx own W m a nb tp o.M W') ∨
  (o.k = 3 ∧ en = trapE o.e ∧ Nx own W m a nb tp o.M W')
set_option maxRecDepth 8000 in
set_option maxHeartbeats 400000 in
theorem burn_any {own : Nat → Nat} {W : World} {m a nb tp : Nat} {M : Mc} (HV : Vm own W m a nb tp M) (hf : M.fuel ≤ 9223372036854775807) :
    Calls Tryz.prog 93 #[.pointer (some ⟨m, 0, none⟩)] W (OuEnd own W m a nb tp (burnP M) (fun _ => .tuple #[])) := by
  have HS : Hid (Nx own W m a nb tp M W) := Nx.same HV (Below.refl _ _)
  obtain ⟨vals, L, H⟩ := HV
  have cf := H.cf
  have fz := H.mz 10
  by_cases h0 : M.fuel = 0
  · have HO : Hid (burnP M = trp M () 9) := if_pos h0
    rw [h0] at cf
    clear H hf h0
    have HST := fun W => stop_any 9 W
    go_enter Tryz.func93, Tryz.ntmps93
    go_wp2_with fail
    refine (HST _).mono ?_; rintro e w1 ⟨rfl, rfl⟩
    go_wp2_with fail
    simp [bodyPost]
    rw [HO.out]
    exact .inr (.inr ⟨rfl, rfl, HS.out⟩)
  · have HO : Hid (burnP M = ok { M with fuel := M.fuel - 1 } ()) := if_neg h0
    have HN : Hid (Nx own W m a nb tp { M with fuel := M.fuel - 1 } (W.setCell ⟨m, 10, none⟩ (i64 (M.fuel - 1)))) := by
      have := H.setm 10 (i64 (M.fuel - 1)) (by omega) { M with fuel := M.fuel - 1 } (fun j hj => rfl) rfl H.pre rfl rfl rfl
      exact ⟨own, fun _ _ => rfl, ⟨vals, L, this.1⟩, this.2⟩
    obtain ⟨n, hn⟩ : ∃ n, M.fuel = n + 1 := ⟨M.fuel - 1, by omega⟩
    rw [hn] at cf hf
    rw [hn, Nat.add_sub_cancel] at HN HO
    clear H h0 HS hn
    go_enter Tryz.func93, Tryz.ntmps93
    go_wp2_with fail
    go_end0
    rw [HO.out]
    exact .inl ⟨rfl, rfl, HN.out⟩
/-! ### one element of a row -/
theorem flat_at {α : Type} (f : α → List Value) (n : Nat) (hf : ∀ a, (f a).length = n) : ∀ (l : List α) (h : Nat) (v : α), l[h]? = some v → ∀ j, j < n → (l.flatMap f)[h * n + j]? = (f v)[j]?
  | [], h, v, hl, j, hj => by simp at hl
  | x :: l, 0, v, hl, j, hj => by
    simp at hl
    subst hl
    rw [List.flatMap_cons, List.getElem?_append_left (by rw [hf]; omega)]
    simp
  | x :: l, h + 1, v, hl, j, hj => by
    simp at hl
    rw [List.flatMap_cons, List.getElem?_append_right (by rw [hf, Nat.add_mul]; omega), hf, show (h + 1) * n + j - n = h * n + j from by rw [Nat.add_mul]; omega]
    exact flat_at f n hf l h v hl j hj
theorem row_elem {α : Type} {f : α → List Value} {W : World} {e : TypeId} {sz : Nat} {vo : Value} {l : List α} (hf : ∀ a, (f a).length = sz) (hz : 0 < sz) (h : W.ownsRow 0 e sz vo l.length (l.flatMap f)) {j : Nat} {x : α} (hj : l[j]? = some x) :
    ∃ b cp, vo = .slice (some ⟨b, 0, none⟩) l.length cp ∧ l.length ≤ cp ∧ b < W.heap.size ∧ (∀ k, W.frozen? ⟨b, k, none⟩ = false) ∧ ∀ k u, (f x)[k]? = some u → W.cell? ⟨b, j * sz + k, none⟩ = some u := by
  have c := fun k hk => flat_at f sz hf l j x hj k hk
  obtain ⟨u0, hu0⟩ : ∃ u, (f x)[0]? = some u := ⟨_, List.getElem?_eq_getElem (by rw [hf]; exact hz)⟩
  obtain ⟨b, cp, hv, hl, hb, k0⟩ := row_cell h ((c 0 hz).trans hu0)
  subst hv
  refine ⟨b, cp, rfl, hl, hb, fun k => row_frozen h k, ?_⟩
  intro k u hu
  have hk : k < sz := by rw [← hf x]; exact (List.getElem?_eq_some_iff.1 hu).1
  obtain ⟨b', cp', hv', _, _, k1⟩ := row_cell h ((c k hk).trans hu)
  cases hv'
  exact k1
theorem row_set1 {W : World} {e : TypeId} {sz n b cp i : Nat} {xs : List Value} (h : W.ownsRow 0 e sz (.slice (some ⟨b, 0, none⟩) n cp) n xs) (hi : i < n * sz) (x : Value) : (W.setCell ⟨b, i, none⟩ x).ownsRow 0 e sz (.slice (some ⟨b, 0, none⟩) n cp) n (xs.set i x) := by
  obtain ⟨cur, hb, hs, hn, hm, hl, hx⟩ := ownsRow_at h
  have hks : n * sz ≤ cp * sz := Nat.mul_le_mul_right sz hn
  refine ownsRow_mk (heap_setCell_same hb _) (by simpa using hs) hn hm (by simpa using hl) ?_
  intro j hj
  rw [Array.getElem?_setIfInBounds, List.getElem?_set]
  by_cases c : i = j
  · subst c
    rw [if_pos rfl, if_pos rfl, if_pos (by omega), if_pos (by omega)]
  · rw [if_neg c, if_neg c]
    exact hx j hj
theorem flatten_set (n : Nat) : ∀ (F : List (List Value)) (j : Nat) (r : List Value), (∀ x ∈ F, x.length = n) → F[j]? = some r → ∀ (k : Nat) (x : Value), k < n → (F.flatten).set (j * n + k) x = (F.set j (r.set k x)).flatten
  | [], j, r, hF, hj, k, x, hk => by simp at hj
  | y :: F, 0, r, hF, hj, k, x, hk => by
    simp at hj
    subst hj
    rw [List.flatten_cons, Nat.zero_mul, Nat.zero_add, List.set_append_left _ _ (by rw [hF y (by simp)]; exact hk)]
    rfl
  | y :: F, j + 1, r, hF, hj, k, x, hk => by
    simp at hj
    have hy := hF y (by simp)
    rw [List.flatten_cons, List.set_append_right _ _ (by rw [hy, Nat.add_mul]; omega), hy, show (j + 1) * n + k - n = j * n + k by rw [Nat.add_mul]; omega, flatten_set n F j r (fun x hx => hF x (by simp [hx])) hj k x hk]
    rfl
theorem flatMap_flatten {α : Type} (f : α → List Value) (l : List α) : l.flatMap f = (l.map f).flatten := by rw [List.flatMap_def]
/-- One cell of one element. -/
theorem flat_set1 {α : Type} {f : α → List Value} {n : Nat} (hf : ∀ a, (f a).length = n) {l : List α} {j : Nat} {a a' : α} (hj : l[j]? = some a) {k : Nat} {x : Value} (hk : k < n) (h : (f a).set k x = f a') : (l.flatMap f).set (j * n + k) x = (l.set j a').flatMap f := by
  rw [flatMap_flatten, flatMap_flatten, flatten_set n (l.map f) j (f a) (by
    intro x hx
    rw [List.mem_map] at hx
    obtain ⟨y, _, rfl⟩ := hx
    exact hf y) (by rw [List.getElem?_map, hj]; rfl) k x hk, h, List.map_set]
theorem frC_len (f : Fr) : (frC f).length = 5 := rfl
section
variable {own : Nat → Nat} {W : World} {m a nb tp : Nat} {M : Mc} {vals : Nat → Value} {L : List Th}
theorem VmAt.frRow (H : VmAt own W m a nb tp M vals L) {i : Nat} (hi : i < M.th.length) : W.cell? ⟨a, i * 5 + 3, none⟩ = some (vals (9 + 3 * i)) ∧ W.ownsRow 0 71 5 (vals (9 + 3 * i)) (M.t i).fr.length ((M.t i).fr.flatMap frC) ∧ ∀ b, (vals (9 + 3 * i)).ownBlock = some b → own b = 410 + 3 * i := by
  obtain ⟨e1, h5, e2⟩ := H.thr hi
  obtain ⟨h1, h2, h3⟩ := H.row (9 + 3 * i) (by omega)
  rw [loc_fr] at h1
  rw [row_fr, e1] at h2
  exact ⟨h1, h2, fun b hb => by rw [h3 b hb]; omega⟩
/-- One cell of one of the thread's frames is stored. -/
theorem VmAt.frSet (H : VmAt own W m a nb tp M vals L) {i : Nat} (hi : i < M.th.length) {j fb cp : Nat} {f f' : Fr} (hv : vals (9 + 3 * i) = .slice (some ⟨fb, 0, none⟩) (M.t i).fr.length cp) (hj : (M.t i).fr[j]? = some f) {k : Nat} {x : Value} (hk : k < 5) (hff : (frC f).set k x = frC f') :
    Nf own W m a nb tp i (M.setT i { M.t i with fr := (M.t i).fr.set j f' }) (W.setCell ⟨fb, j * 5 + k, none⟩ x) := by
  obtain ⟨e1, h5, e2⟩ := H.thr hi
  have hL := H.hL
  obtain ⟨c3, hrow, hcol⟩ := H.frRow hi
  rw [hv] at hrow hcol
  have hjl : j < (M.t i).fr.length := (List.getElem?_eq_some_iff.1 hj).1
  have hr2 := row_set1 hrow (show j * 5 + k < (M.t i).fr.length * 5 by omega) x
  rw [flat_set1 frC_len hj hk hff] at hr2
  have hfb : fb ≠ a := by
    rintro rfl
    have h1 : own fb = 410 + 3 * i := hcol fb rfl
    have h2 := H.ac
    omega
  have e3 : ((L.set i { M.t i with fr := (M.t i).fr.set j f' })[i]?).getD dT = { M.t i with fr := (M.t i).fr.set j f' } := by rw [List.getElem?_set, if_pos rfl, if_pos (by omega)]; rfl
  have h := H.setElem (j := 9 + 3 * i) (by omega) (W' := W.setCell ⟨fb, j * 5 + k, none⟩ x) (b := fb) (by rw [hv]; rfl) (fun k hk => Below.heap_setCell _ _ _ _ hk) rfl rfl rfl (by simp) (M.setT i { M.t i with fr := (M.t i).fr.set j f' }) (L.set i { M.t i with fr := (M.t i).fr.set j f' }) ?_ ?_ rfl rfl rfl (by simp [Mc.setT]) ?_ (by simpa using hL) (take_setT M L i _ H.pre)
  · exact ⟨⟨own, fun _ _ => rfl, ⟨_, _, h.1⟩, h.2⟩, World.cell?_of_block (a := ⟨a, i * 5 + 3, none⟩) (Below.heap_setCell _ _ _ _ hfb.symm)⟩
  · rw [row_fr, e3, hv]
    show World.ownsRow _ 0 71 5 _ ((M.t i).fr.set j f').length _
    rw [List.length_set]
    exact hr2
  · intro q hq hn
    exact row_thread M L i _ q hq (by omega) (fun _ => by rw [e1]) (fun h => absurd h hn) (fun _ => by rw [e1])
  · intro q hq
    rw [List.getElem?_set]
    by_cases c : i = q
    · subst c
      rw [if_pos rfl, if_pos (by omega), e1]
      exact ⟨rfl, rfl⟩
    · rw [if_neg c]
      exact ⟨rfl, rfl⟩
end
end Go.Proofs.Qxb6500293aGreatRR
