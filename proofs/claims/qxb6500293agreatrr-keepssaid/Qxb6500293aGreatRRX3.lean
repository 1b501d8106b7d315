/-
  THE MACHINE IN MEMORY, MORE: an element, a thread's state; the row of one thread; what a step leaves.
-/
import Derived.Test.Qxb6500293aGreatRRX1
import Derived.Test.Qxb6500293aGreatRRX2
namespace Go.Proofs.Qxb6500293aGreatRR
open Go.RowKit
set_option linter.unusedVariables false
set_option linter.unusedSimpArgs false

def Vm (own : Nat → Nat) (W : World) (m a nb tp : Nat) (M : Mc) : Prop := ∃ vals L, VmAt own W m a nb tp M vals L
def Nx (own : Nat → Nat) (W : World) (m a nb tp : Nat) (M' : Mc) (W' : World) : Prop := ∃ own', (∀ k, k < W.heap.size → own' k = own k) ∧ Vm own' W' m a nb tp M' ∧ ChgV own W W'
theorem Vm.below {own : Nat → Nat} {W W' : World} {m a nb tp : Nat} {M : Mc} (h : Vm own W m a nb tp M) (hb : Below W.heap.size W W') : Vm own W' m a nb tp M := by
  obtain ⟨vals, L, h⟩ := h
  exact ⟨vals, L, h.below hb⟩
theorem Nx.same {own : Nat → Nat} {W W' : World} {m a nb tp : Nat} {M : Mc} (h : Vm own W m a nb tp M) (hb : Below W.heap.size W W') : Nx own W m a nb tp M W' := ⟨own, fun _ _ => rfl, h.below hb, ChgV.of_below hb⟩
theorem Nx.trans {own own1 : Nat → Nat} {W W1 W2 : World} {m a nb tp : Nat} {M2 : Mc} (h1 : ∀ k, k < W.heap.size → own1 k = own k) (hc : ChgV own W W1) (h : Nx own1 W1 m a nb tp M2 W2) : Nx own W m a nb tp M2 W2 := by
  obtain ⟨own2, h2, h3, h4⟩ := h
  exact ⟨own2, fun k hk => (h2 k (Nat.lt_of_lt_of_le hk hc.size)).trans (h1 k hk), h3, hc.trans h4 h1⟩
theorem Nx.below {own : Nat → Nat} {W W1 W2 : World} {m a nb tp : Nat} {M2 : Mc} (h : Nx own W m a nb tp M2 W1) (hb : Below W1.heap.size W1 W2) : Nx own W m a nb tp M2 W2 := by
  obtain ⟨own1, h1, h2, h3⟩ := h
  exact ⟨own1, h1, h2.below hb, h3.below hb⟩
/-- A box of the call's own lies where it lay. -/
theorem Nx.block {own : Nat → Nat} {W W1 : World} {m a nb tp : Nat} {M2 : Mc} (h : Nx own W m a nb tp M2 W1) {b : Nat} (hb : b < W.heap.size) (hz : own b = 0) : W1.heap[b]? = W.heap[b]? := by
  obtain ⟨own1, h1, h2, h3⟩ := h
  exact h3.block b hb hz
section
variable {own : Nat → Nat} {W : World} {m a nb tp : Nat} {M : Mc} {vals : Nat → Value} {L : List Th}
theorem VmAt.setElem (H : VmAt own W m a nb tp M vals L) {j : Nat} (hj : j < 23) {W' : World} {b : Nat} (hb : (vals j).ownBlock = some b) (hW : ∀ k, k ≠ b → W'.heap[k]? = W.heap[k]?) (hos : W'.os = W.os) (htp : W'.tape = W.tape) (hou : W'.output = W.output) (hsz : W'.heap.size = W.heap.size) (M' : Mc) (L' : List Th)
    (hrow : W'.ownsRow 0 (rowM M' L' j).ty (rowM M' L' j).sz (vals j) (rowM M' L' j).n (rowM M' L' j).xs) (hsame : ∀ i, i < 23 → i ≠ j → rowM M' L' i = rowM M L i) (hf : M'.fuel = M.fuel) (he : M'.en = M.en) (ht : M'.tb = M.tb) (hn : M'.th.length = M.th.length)
    (hts : ∀ i, i < 5 → (L'[i]?.getD dT).st = (L[i]?.getD dT).st ∧ (L'[i]?.getD dT).fn = (L[i]?.getD dT).fn) (hL : L'.length = 5) (hp : L'.take M'.th.length = M'.th) :
    VmAt own W' m a nb tp M' vals L' ∧ ChgV own W W' := by
  have hbc := (H.row j hj).2.2 b hb
  have hoth : ∀ k, own k ≠ 401 + j → W'.heap[k]? = W.heap[k]? := fun k hk => hW k (by rintro rfl; exact hk hbc)
  have hm := hoth m (by rw [H.mc]; omega)
  have ha := hoth a (by rw [H.ac]; omega)
  have cm : ∀ i, W'.cell? ⟨m, i, none⟩ = W.cell? ⟨m, i, none⟩ := fun i => World.cell?_of_block (a := ⟨m, i, none⟩) hm
  have ca : ∀ i, W'.cell? ⟨a, i, none⟩ = W.cell? ⟨a, i, none⟩ := fun i => World.cell?_of_block (a := ⟨a, i, none⟩) ha
  have cl : ∀ j, W'.cell? (locM m a j) = W.cell? (locM m a j) := fun j => by
    rcases locM_block m a j with h | h
    · exact World.cell?_of_block (a := locM m a j) (by rw [h]; exact hm)
    · exact World.cell?_of_block (a := locM m a j) (by rw [h]; exact ha)
  refine ⟨⟨by rw [hm]; exact H.mb, by rw [ha]; exact H.ab, (cm 0).trans H.c0, (cm 1).trans H.c1, by rw [hn]; exact (cm 9).trans H.c9, by rw [hf]; exact (cm 10).trans H.cf, by rw [he]; exact (cm 12).trans H.cen, fun i hi => ⟨by rw [(hts i hi).1]; exact (ca _).trans (H.ts i hi).1, by rw [(hts i hi).2]; exact (ca _).trans (H.ts i hi).2⟩, ?_, H.mc, H.ac, hL, hp, ?_, fun k hk => H.new k (by omega), H.num.kept (fun k hk h1 => hoth k (by omega)) (fun _ _ => rfl)⟩, ⟨hos, htp, hou, by omega, fun k hk hz => hoth k (by omega)⟩⟩
  · intro i hi
    obtain ⟨h1, h2, h3⟩ := H.row i hi
    by_cases c : i = j
    · subst c
      exact ⟨(cl i).trans h1, hrow, h3⟩
    · refine ⟨(cl i).trans h1, ?_, h3⟩
      rw [hsame i hi c]
      exact ownsRow_block h2 (fun b' hb' => hoth b' (by rw [h3 b' hb']; omega))
  · rw [ht]
    exact H.tab.kept (by omega) (fun k hk h1 h2 => hoth k (by omega)) (fun _ _ => rfl)
/-- A thread's state or closure is stored. -/
theorem VmAt.sett (H : VmAt own W m a nb tp M vals L) (i r : Nat) (hi : i < 5) (hr : r < 2) (u : Value) (M' : Mc) (L' : List Th) (hrow : ∀ j, j < 23 → rowM M' L' j = rowM M L j) (hf : M'.fuel = M.fuel) (he : M'.en = M.en) (ht : M'.tb = M.tb) (hn : M'.th.length = M.th.length) (hL : L'.length = 5) (hp : L'.take M'.th.length = M'.th)
    (hst : ∀ k, k < 5 → (if i = k ∧ r = 0 then u else i64 (L[k]?.getD dT).st) = i64 (L'[k]?.getD dT).st ∧ (if i = k ∧ r = 1 then u else i64 (L[k]?.getD dT).fn) = i64 (L'[k]?.getD dT).fn) :
    VmAt own (W.setCell ⟨a, i * 5 + r, none⟩ u) m a nb tp M' vals L' ∧ ChgV own W (W.setCell ⟨a, i * 5 + r, none⟩ u) := by
  have hma := H.ma
  obtain ⟨ca, ha, hsz⟩ := H.ab
  have hsm := heap_setCell_same (i := i * 5 + r) ha u
  have hoth : ∀ k, k ≠ a → (W.setCell ⟨a, i * 5 + r, none⟩ u).heap[k]? = W.heap[k]? := fun k hk => Below.heap_setCell _ _ _ _ hk
  have cm : ∀ j, (W.setCell ⟨a, i * 5 + r, none⟩ u).cell? ⟨m, j, none⟩ = W.cell? ⟨m, j, none⟩ := fun j => World.cell?_of_block (a := ⟨m, j, none⟩) (hoth m hma)
  have cc : ∀ k v, W.cell? ⟨a, k, none⟩ = some v → (W.setCell ⟨a, i * 5 + r, none⟩ u).cell? ⟨a, k, none⟩ = some (if i * 5 + r = k then u else v) := by
    intro k v hv
    by_cases c : i * 5 + r = k
    · subst c
      rw [if_pos rfl]
      exact World.cell?_setCell_same' _ _ _ (by rw [hv]; rfl)
    · rw [if_neg c]
      exact (World.cell?_setCell_other _ _ _ _ (by intro e; injection e; omega)).trans hv
  refine ⟨⟨⟨_, (hoth m hma).trans H.mb.choose_spec.1, H.mb.choose_spec.2⟩, ⟨_, hsm, by simpa using hsz⟩, (cm 0).trans H.c0, (cm 1).trans H.c1, by rw [hn]; exact (cm 9).trans H.c9, by rw [hf]; exact (cm 10).trans H.cf, by rw [he]; exact (cm 12).trans H.cen, ?_, ?_, H.mc, H.ac, hL, hp, ?_, fun k hk => H.new k (by simpa using hk), H.num.kept (fun k hk h1 => hoth k (by rintro rfl; have := H.ac; omega)) (fun _ _ => rfl)⟩, ⟨rfl, rfl, rfl, by simp, fun k hk hz => hoth k (by rintro rfl; have := H.ac; omega)⟩⟩
  · intro k hk
    obtain ⟨h1, h2⟩ := hst k hk
    obtain ⟨t1, t2⟩ := H.ts k hk
    constructor
    · rw [cc _ _ t1, ← h1]
      congr 1
      by_cases c : i = k ∧ r = 0
      · rw [if_pos c, if_pos (by omega)]
      · rw [if_neg c, if_neg (by omega)]
    · rw [cc _ _ t2, ← h2]
      congr 1
      by_cases c : i = k ∧ r = 1
      · rw [if_pos c, if_pos (by omega)]
      · rw [if_neg c, if_neg (by omega)]
  · intro j hj
    obtain ⟨h1, h2, h3⟩ := H.row j hj
    obtain ⟨o1, o2, o3⟩ := locM_off m a j hma hj
    refine ⟨(World.cell?_setCell_other _ _ _ _ ?_).trans h1, ?_, h3⟩
    · intro e
      have e1 : (locM m a j).block = a := by rw [← e]
      have e2 : (locM m a j).off = i * 5 + r := by rw [← e]
      have := o2 e1
      omega
    · rw [hrow j hj]
      exact ownsRow_block h2 (fun b hb => hoth b (by rintro rfl; have := h3 _ hb; have := H.ac; omega))
  · rw [ht]
    exact H.tab.kept (by simp) (fun k hk h1 h2 => hoth k (by rintro rfl; have := H.ac; omega)) (fun _ _ => rfl)
/-- Row j grown or cut. -/
theorem VmAt.rowNx (H : VmAt own W m a nb tp M vals L) {j : Nat} (hj : j < 23) {W7 : World} (hg : W.grownBy W7 (vals j).ownBlock) {v' : Value} (M' : Mc) (L' : List Th) (hrow : W7.ownsRow 0 (rowM M' L' j).ty (rowM M' L' j).sz v' (rowM M' L' j).n (rowM M' L' j).xs)
    (hv : ∀ b, v'.ownBlock = some b → (vals j).ownBlock = some b ∨ W.heap.size ≤ b) (hsame : ∀ i, i < 23 → i ≠ j → rowM M' L' i = rowM M L i) (hf : M'.fuel = M.fuel) (he : M'.en = M.en) (ht : M'.tb = M.tb) (hn : M'.th.length = M.th.length)
    (hts : ∀ i, i < 5 → (L'[i]?.getD dT).st = (L[i]?.getD dT).st ∧ (L'[i]?.getD dT).fn = (L[i]?.getD dT).fn) (hL : L'.length = 5) (hp : L'.take M'.th.length = M'.th) :
    Nx own W m a nb tp M' (W7.setCell (locM m a j) v') := by
  obtain ⟨own', hown⟩ : ∃ own' : Nat → Nat, own' = fun k => if v'.ownBlock = some k ∧ W.heap.size ≤ k then 401 + j else own k := ⟨_, rfl⟩
  have ho : ∀ k, k < W.heap.size → own' k = own k := fun k hk => by rw [hown]; dsimp only; rw [if_neg (by omega)]
  have hs7 := hg.size
  have h := H.setRow hj hg (own' := own') M' L' hrow ho ?_ ?_ hsame hf he ht hn hts hL hp
  · exact ⟨own', ho, ⟨_, _, h.1⟩, h.2⟩
  · intro b hb
    rcases hv b hb with h | h
    · rw [ho b (ownsRow_lt (H.row j hj).2.1 b h)]
      exact (H.row j hj).2.2 b h
    · rw [hown]
      dsimp only
      rw [if_pos ⟨hb, h⟩]
  · intro k hk
    rw [hown]
    dsimp only
    rw [if_neg]
    · exact H.new k (by omega)
    · rintro ⟨h1, _⟩
      have := ownsRow_lt hrow k h1
      omega
end
/-! ### the rows of one thread -/
theorem row_low (M M' : Mc) (L L' : List Th) (h : M'.pr = M.pr ∧ M'.ds = M.ds ∧ M'.ks = M.ks ∧ M'.co = M.co ∧ M'.cs = M.cs ∧ M'.ux = M.ux ∧ M'.ce = M.ce ∧ M'.out = M.out) (j : Nat) (hj : j < 8) : rowM M' L' j = rowM M L j := by
  obtain ⟨h0, h1, h2, h3, h4, h5, h6, h7⟩ := h
  rcases (by omega : j = 0 ∨ j = 1 ∨ j = 2 ∨ j = 3 ∨ j = 4 ∨ j = 5 ∨ j = 6 ∨ j = 7) with rfl | rfl | rfl | rfl | rfl | rfl | rfl | rfl
  · exact congrArg (rowOf 91 8 prC) h0
  · exact congrArg (rowOf 165 2 dsC) h1
  · exact congrArg (rowOf 33 3 valC) h2
  · exact congrArg (rowOf 169 2 coC) h3
  · exact congrArg (rowOf 69 3 csC) h4
  · exact congrArg (rowOf 3 1 ixC) h5
  · exact congrArg (rowOf 95 5 ceC) h6
  · exact congrArg (rowOf 5 1 byC) h7
theorem row_sk (M : Mc) (L : List Th) (i : Nat) : rowM M L (8 + 3 * i) = rowOf 33 3 valC (L[i]?.getD dT).sk := by
  unfold rowM
  rw [if_neg (by omega), if_neg (by omega), if_neg (by omega), if_neg (by omega), if_neg (by omega), if_neg (by omega), if_neg (by omega), if_neg (by omega), if_pos (by omega), show (8 + 3 * i - 8) / 3 = i by omega]
theorem row_fr (M : Mc) (L : List Th) (i : Nat) : rowM M L (9 + 3 * i) = rowOf 71 5 frC (L[i]?.getD dT).fr := by
  unfold rowM
  rw [if_neg (by omega), if_neg (by omega), if_neg (by omega), if_neg (by omega), if_neg (by omega), if_neg (by omega), if_neg (by omega), if_neg (by omega), if_neg (by omega), if_pos (by omega), show (9 + 3 * i - 8) / 3 = i by omega]
theorem row_op (M : Mc) (L : List Th) (i : Nat) : rowM M L (10 + 3 * i) = rowOf 3 1 ixC (L[i]?.getD dT).op := by
  unfold rowM
  rw [if_neg (by omega), if_neg (by omega), if_neg (by omega), if_neg (by omega), if_neg (by omega), if_neg (by omega), if_neg (by omega), if_neg (by omega), if_neg (by omega), if_neg (by omega), show (10 + 3 * i - 8) / 3 = i by omega]
theorem row_split (j : Nat) (hj : 8 ≤ j) : ∃ i, j = 8 + 3 * i ∨ j = 9 + 3 * i ∨ j = 10 + 3 * i := ⟨(j - 8) / 3, by omega⟩
/-- Thread i turned in its lists: which rows are as they were. -/
theorem row_thread (M : Mc) (L : List Th) (i : Nat) (t' : Th) (j : Nat) (hj : j < 23) (hi : i < L.length)
    (h0 : j = 8 + 3 * i → t'.sk = (L[i]?.getD dT).sk) (h1 : j = 9 + 3 * i → t'.fr = (L[i]?.getD dT).fr) (h2 : j = 10 + 3 * i → t'.op = (L[i]?.getD dT).op) : rowM (M.setT i t') (L.set i t') j = rowM M L j := by
  by_cases c : j < 8
  · exact row_low _ _ _ _ ⟨rfl, rfl, rfl, rfl, rfl, rfl, rfl, rfl⟩ j c
  obtain ⟨k, hk⟩ := row_split j (by omega)
  have hg : ∀ k, (L.set i t')[k]?.getD dT = if i = k then t' else L[k]?.getD dT := by
    intro k
    rw [List.getElem?_set]
    by_cases e : i = k
    · subst e
      rw [if_pos rfl, if_pos rfl, if_pos hi]
      rfl
    · rw [if_neg e, if_neg e]
  rcases hk with rfl | rfl | rfl
  · rw [row_sk, row_sk, hg]
    by_cases e : i = k
    · subst e; rw [if_pos rfl, h0 rfl]
    · rw [if_neg e]
  · rw [row_fr, row_fr, hg]
    by_cases e : i = k
    · subst e; rw [if_pos rfl, h1 rfl]
    · rw [if_neg e]
  · rw [row_op, row_op, hg]
    by_cases e : i = k
    · subst e; rw [if_pos rfl, h2 rfl]
    · rw [if_neg e]
theorem take_setT (M : Mc) (L : List Th) (i : Nat) (t' : Th) (h : L.take M.th.length = M.th) : (L.set i t').take (M.setT i t').th.length = (M.setT i t').th := by
  unfold Mc.setT
  simp only [List.length_set]
  rw [List.take_set, h]
end Go.Proofs.Qxb6500293aGreatRR
