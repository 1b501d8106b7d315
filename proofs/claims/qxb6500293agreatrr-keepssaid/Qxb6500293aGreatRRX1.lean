/-
  THE MACHINE IN MEMORY.
-/
import Derived.Test.Qxb6500293aGreatRRX0
import Derived.Test.Qxb6500293aGreatRRW5
namespace Go.Proofs.Qxb6500293aGreatRR
open Go.RowKit
set_option linter.unusedVariables false
set_option linter.unusedSimpArgs false

/-- The number layer below: its buffer. -/
def NumK (own : Nat → Nat) (W : World) (nb : Nat) : Prop := ∃ b, NumW nb b W ∧ own nb = 441 ∧ own b = 442
theorem NumK.kept {own own' : Nat → Nat} {W W' : World} {nb : Nat} (h : NumK own W nb) (hk : ∀ k, k < W.heap.size → 441 ≤ own k → W'.heap[k]? = W.heap[k]?) (ho : ∀ k, k < W.heap.size → own' k = own k) : NumK own' W' nb := by
  obtain ⟨b, ⟨h1, h2, bs, h3, h4⟩, h5, h6⟩ := h
  have l1 : nb < W.heap.size := (Array.getElem?_eq_some_iff.1 h1).1
  have l2 : b < W.heap.size := h3.lt
  refine ⟨b, ⟨?_, h2, bs, ?_, h4⟩, (ho nb l1).trans h5, (ho b l2).trans h6⟩
  · unfold NumAt at *
    rw [hk nb l1 (by omega)]; exact h1
  · unfold BB at *
    rw [hk b l2 (by omega)]; exact h3
structure VmAt (own : Nat → Nat) (W : World) (m a nb tp : Nat) (M : Mc) (vals : Nat → Value) (L : List Th) : Prop where
  mb : ∃ cm, W.heap[m]? = some (.cells cm 61) ∧ cm.size = 13
  ab : ∃ ca, W.heap[a]? = some (.cells ca 66) ∧ ca.size = 25
  c0 : W.cell? ⟨m, 0, none⟩ = some (.pointer (some ⟨nb, 0, none⟩))
  c1 : W.cell? ⟨m, 1, none⟩ = some (.pointer (some ⟨tp, 0, none⟩))
  c9 : W.cell? ⟨m, 9, none⟩ = some (.slice (some ⟨a, 0, none⟩) M.th.length 5)
  cf : W.cell? ⟨m, 10, none⟩ = some (i64 M.fuel)
  cen : W.cell? ⟨m, 12, none⟩ = some (.int .i64 M.en)
  ts : ∀ i, i < 5 → W.cell? ⟨a, i * 5, none⟩ = some (i64 (L[i]?.getD dT).st) ∧ W.cell? ⟨a, i * 5 + 1, none⟩ = some (i64 (L[i]?.getD dT).fn)
  row : ∀ j, j < 23 → W.cell? (locM m a j) = some (vals j) ∧ W.ownsRow 0 (rowM M L j).ty (rowM M L j).sz (vals j) (rowM M L j).n (rowM M L j).xs ∧ ∀ b, (vals j).ownBlock = some b → own b = 401 + j
  mc : own m = 400
  ac : own a = 440
  hL : L.length = 5
  pre : L.take M.th.length = M.th
  tab : RS own W tp M.tb
  new : ∀ k, W.heap.size ≤ k → own k = 0
  num : NumK own W nb
/-- Nothing but the side's own blocks has turned. -/
structure ChgV (own : Nat → Nat) (w w' : World) : Prop where
  os : w'.os = w.os
  tape : w'.tape = w.tape
  output : w'.output = w.output
  size : w.heap.size ≤ w'.heap.size
  block : ∀ j, j < w.heap.size → own j = 0 → w'.heap[j]? = w.heap[j]?
theorem ChgV.of_below {own : Nat → Nat} {w w' : World} (h : Below w.heap.size w w') : ChgV own w w' := ⟨h.os, h.tape, h.output, h.size, fun j hj _ => h.block j hj⟩
theorem ChgV.trans {own own' : Nat → Nat} {w w1 w2 : World} (h : ChgV own w w1) (k : ChgV own' w1 w2) (ho : ∀ j, j < w.heap.size → own' j = own j) : ChgV own w w2 :=
  ⟨k.os.trans h.os, k.tape.trans h.tape, k.output.trans h.output, Nat.le_trans h.size k.size, fun j hj e => (k.block j (Nat.lt_of_lt_of_le hj h.size) ((ho j hj).trans e)).trans (h.block j hj e)⟩
theorem ChgV.below {own : Nat → Nat} {w w1 w2 : World} (h : ChgV own w w1) (hb : Below w1.heap.size w1 w2) : ChgV own w w2 := h.trans (own' := own) (ChgV.of_below hb) (fun _ _ => rfl)
theorem locM_block (m a j : Nat) : (locM m a j).block = m ∨ (locM m a j).block = a := by
  unfold locM
  split
  · exact .inl rfl
  split
  · exact .inl rfl
  · exact .inr rfl
theorem locM_inj {m a i j : Nat} (hma : m ≠ a) (h : locM m a i = locM m a j) : i = j := by
  have h1 := congrArg Addr.block h
  have h2 := congrArg Addr.off h
  unfold locM at h1 h2
  by_cases a1 : i < 7 <;> by_cases a2 : j < 7 <;> by_cases b1 : i = 7 <;> by_cases b2 : j = 7
  all_goals
    first
      | omega
      | (simp only [a1, a2, b1, b2, if_true, if_false, Nat.lt_irrefl] at h1 h2
         first
           | omega
           | exact absurd h1 hma
           | exact absurd h1.symm hma)
theorem locM_off (m a j : Nat) (hma : m ≠ a) (hj : j < 23) : ((locM m a j).block = m → ((locM m a j).off ≠ 0 ∧ (locM m a j).off ≠ 1 ∧ (locM m a j).off ≠ 9 ∧ (locM m a j).off ≠ 10 ∧ (locM m a j).off ≠ 12)) ∧ ((locM m a j).block = a → (2 ≤ (locM m a j).off % 5)) ∧ (locM m a j).spot = none := by
  unfold locM
  split
  · exact ⟨fun _ => ⟨by dsimp only; omega, by dsimp only; omega, by dsimp only; omega, by dsimp only; omega, by dsimp only; omega⟩, fun h => absurd h hma, rfl⟩
  split
  · exact ⟨fun _ => ⟨by dsimp only; omega, by dsimp only; omega, by dsimp only; omega, by dsimp only; omega, by dsimp only; omega⟩, fun h => absurd h hma, rfl⟩
  · exact ⟨fun h => absurd h.symm hma, fun _ => by dsimp only; omega, rfl⟩
section
variable {own : Nat → Nat} {W : World} {m a nb tp : Nat} {M : Mc} {vals : Nat → Value} {L : List Th}
theorem VmAt.ma (H : VmAt own W m a nb tp M vals L) : m ≠ a := by rintro rfl; have := H.mc; have := H.ac; omega
theorem VmAt.mlt (H : VmAt own W m a nb tp M vals L) : m < W.heap.size := by obtain ⟨cm, h, _⟩ := H.mb; exact (Array.getElem?_eq_some_iff.1 h).1
theorem VmAt.alt (H : VmAt own W m a nb tp M vals L) : a < W.heap.size := by obtain ⟨cm, h, _⟩ := H.ab; exact (Array.getElem?_eq_some_iff.1 h).1
theorem VmAt.mz (H : VmAt own W m a nb tp M vals L) (i : Nat) : W.frozen? ⟨m, i, none⟩ = false := by obtain ⟨cm, h, _⟩ := H.mb; simp [World.frozen?, h]
theorem VmAt.az (H : VmAt own W m a nb tp M vals L) (i : Nat) : W.frozen? ⟨a, i, none⟩ = false := by obtain ⟨cm, h, _⟩ := H.ab; simp [World.frozen?, h]
/-- All of its blocks are as they were. -/
theorem VmAt.kept {own' : Nat → Nat} {W' : World} (H : VmAt own W m a nb tp M vals L) (hs : W.heap.size ≤ W'.heap.size) (hk : ∀ k, k < W.heap.size → own k ≠ 0 → W'.heap[k]? = W.heap[k]?) (ho : ∀ k, k < W.heap.size → own' k = own k) (hn : ∀ k, W'.heap.size ≤ k → own' k = 0) : VmAt own' W' m a nb tp M vals L := by
  have hm := hk m H.mlt (by rw [H.mc]; omega)
  have ha := hk a H.alt (by rw [H.ac]; omega)
  have cm : ∀ i, W'.cell? ⟨m, i, none⟩ = W.cell? ⟨m, i, none⟩ := fun i => World.cell?_of_block (a := ⟨m, i, none⟩) hm
  have ca : ∀ i, W'.cell? ⟨a, i, none⟩ = W.cell? ⟨a, i, none⟩ := fun i => World.cell?_of_block (a := ⟨a, i, none⟩) ha
  have cl : ∀ j, W'.cell? (locM m a j) = W.cell? (locM m a j) := fun j => by
    rcases locM_block m a j with h | h
    · exact World.cell?_of_block (a := locM m a j) (by rw [h]; exact hm)
    · exact World.cell?_of_block (a := locM m a j) (by rw [h]; exact ha)
  exact ⟨by rw [hm]; exact H.mb, by rw [ha]; exact H.ab, (cm 0).trans H.c0, (cm 1).trans H.c1, (cm 9).trans H.c9, (cm 10).trans H.cf, (cm 12).trans H.cen, fun i hi => ⟨(ca _).trans (H.ts i hi).1, (ca _).trans (H.ts i hi).2⟩,
    fun j hj => ⟨(cl j).trans (H.row j hj).1, ownsRow_block (H.row j hj).2.1 (fun b hb => hk b (ownsRow_lt (H.row j hj).2.1 b hb) (by rw [(H.row j hj).2.2 b hb]; omega)), fun b hb => (ho b (ownsRow_lt (H.row j hj).2.1 b hb)).trans ((H.row j hj).2.2 b hb)⟩,
    (ho m H.mlt).trans H.mc, (ho a H.alt).trans H.ac, H.hL, H.pre, H.tab.kept hs (fun k hk' h1 h2 => hk k hk' (by omega)) ho, hn, H.num.kept (fun k hk' h1 => hk k hk' (by omega)) ho⟩
theorem VmAt.below {W' : World} (H : VmAt own W m a nb tp M vals L) (hb : Below W.heap.size W W') : VmAt own W' m a nb tp M vals L :=
  H.kept hb.size (fun k hk _ => hb.block k hk) (fun _ _ => rfl) (fun k hk => H.new k (Nat.le_trans hb.size hk))
/-- What a step on the tables leaves. -/
theorem VmAt.tabs {W' : World} {st' : List Tbl} (H : VmAt own W m a nb tp M vals L) (hE : REnd own W tp st' W') : ∃ own', (∀ k, k < W.heap.size → own' k = own k) ∧ VmAt own' W' m a nb tp { M with tb := st' } vals L ∧ ChgV own W W' := by
  obtain ⟨own1, ho, hr, hc⟩ := hE
  have hs := hc.size
  have hlow : ∀ k, k < W.heap.size → cut own1 W'.heap.size k = own k := fun k hk => (cut_low (by omega)).trans (ho k hk)
  have hbk : ∀ k, k < W.heap.size → ¬ (1 ≤ own k ∧ own k < 100) → W'.heap[k]? = W.heap[k]? := fun k hk h => hc.block k hk h
  have hm := hbk m H.mlt (by rw [H.mc]; omega)
  have ha := hbk a H.alt (by rw [H.ac]; omega)
  have cm : ∀ i, W'.cell? ⟨m, i, none⟩ = W.cell? ⟨m, i, none⟩ := fun i => World.cell?_of_block (a := ⟨m, i, none⟩) hm
  have ca : ∀ i, W'.cell? ⟨a, i, none⟩ = W.cell? ⟨a, i, none⟩ := fun i => World.cell?_of_block (a := ⟨a, i, none⟩) ha
  have cl : ∀ j, W'.cell? (locM m a j) = W.cell? (locM m a j) := fun j => by
    rcases locM_block m a j with h | h
    · exact World.cell?_of_block (a := locM m a j) (by rw [h]; exact hm)
    · exact World.cell?_of_block (a := locM m a j) (by rw [h]; exact ha)
  refine ⟨cut own1 W'.heap.size, hlow, ⟨by rw [hm]; exact H.mb, by rw [ha]; exact H.ab, (cm 0).trans H.c0, (cm 1).trans H.c1, (cm 9).trans H.c9, (cm 10).trans H.cf, (cm 12).trans H.cen, fun i hi => ⟨(ca _).trans (H.ts i hi).1, (ca _).trans (H.ts i hi).2⟩,
    fun j hj => ⟨(cl j).trans (H.row j hj).1, ownsRow_block (H.row j hj).2.1 (fun b hb => hbk b (ownsRow_lt (H.row j hj).2.1 b hb) (by rw [(H.row j hj).2.2 b hb]; omega)), fun b hb => (hlow b (ownsRow_lt (H.row j hj).2.1 b hb)).trans ((H.row j hj).2.2 b hb)⟩,
    (hlow m H.mlt).trans H.mc, (hlow a H.alt).trans H.ac, H.hL, H.pre, hr.kept (Nat.le_refl _) (fun _ _ _ _ => rfl) (fun k hk => cut_low hk), fun k hk => cut_high hk, H.num.kept (fun k hk' h1 => hbk k hk' (by omega)) hlow⟩, ⟨hc.os, hc.tape, hc.output, hs, fun k hk hz => hbk k hk (by omega)⟩⟩
/-- A plain field of the machine is stored: the threads' slice (9), the fuel (10), the ending (12). -/
theorem VmAt.setm (H : VmAt own W m a nb tp M vals L) (i : Nat) (u : Value) (hi : i = 9 ∨ i = 10 ∨ i = 12) (M' : Mc) (hr : ∀ j, j < 23 → rowM M' L j = rowM M L j) (ht : M'.tb = M.tb) (hp : L.take M'.th.length = M'.th)
    (h9 : (if i = 9 then u else .slice (some ⟨a, 0, none⟩) M.th.length 5) = .slice (some ⟨a, 0, none⟩) M'.th.length 5) (hf : (if i = 10 then u else i64 M.fuel) = i64 M'.fuel) (he : (if i = 12 then u else .int .i64 M.en) = .int .i64 M'.en) :
    VmAt own (W.setCell ⟨m, i, none⟩ u) m a nb tp M' vals L ∧ ChgV own W (W.setCell ⟨m, i, none⟩ u) := by
  have hma := H.ma
  obtain ⟨cm, hm, hsz⟩ := H.mb
  have hsm := heap_setCell_same (i := i) hm u
  have hoth : ∀ k, k ≠ m → (W.setCell ⟨m, i, none⟩ u).heap[k]? = W.heap[k]? := fun k hk => Below.heap_setCell _ _ _ _ hk
  have cc : ∀ j v, W.cell? ⟨m, j, none⟩ = some v → (W.setCell ⟨m, i, none⟩ u).cell? ⟨m, j, none⟩ = some (if i = j then u else v) := by
    intro j v hv
    by_cases c : i = j
    · subst c
      rw [if_pos rfl]
      exact World.cell?_setCell_same' _ _ _ (by rw [hv]; rfl)
    · rw [if_neg c]
      exact (World.cell?_setCell_other _ _ _ _ (by intro e; injection e; omega)).trans hv
  have ca : ∀ j, (W.setCell ⟨m, i, none⟩ u).cell? ⟨a, j, none⟩ = W.cell? ⟨a, j, none⟩ := fun j => World.cell?_of_block (a := ⟨a, j, none⟩) (hoth a hma.symm)
  refine ⟨⟨⟨_, hsm, by simpa using hsz⟩, ⟨_, (hoth a hma.symm).trans H.ab.choose_spec.1, H.ab.choose_spec.2⟩, ?_, ?_, ?_, ?_, ?_, fun k hk => ⟨(ca _).trans (H.ts k hk).1, (ca _).trans (H.ts k hk).2⟩, ?_, H.mc, H.ac, H.hL, hp, ?_, fun k hk => H.new k (by simpa using hk), H.num.kept (fun k hk h1 => hoth k (by rintro rfl; have := H.mc; omega)) (fun _ _ => rfl)⟩, ⟨rfl, rfl, rfl, by simp, fun k hk hz => hoth k (by rintro rfl; have := H.mc; omega)⟩⟩
  · have := cc 0 _ H.c0; rw [if_neg (by omega)] at this; exact this
  · have := cc 1 _ H.c1; rw [if_neg (by omega)] at this; exact this
  · have := cc 9 _ H.c9; rw [h9] at this; exact this
  · have := cc 10 _ H.cf; rw [hf] at this; exact this
  · have := cc 12 _ H.cen; rw [he] at this; exact this
  · intro j hj
    obtain ⟨h1, h2, h3⟩ := H.row j hj
    obtain ⟨o1, o2, o3⟩ := locM_off m a j hma hj
    refine ⟨(World.cell?_setCell_other _ _ _ _ ?_).trans h1, ?_, h3⟩
    · intro e
      have e1 : (locM m a j).block = m := by rw [← e]
      have e2 : (locM m a j).off = i := by rw [← e]
      have := o1 e1
      omega
    · rw [hr j hj]
      exact ownsRow_block h2 (fun b hb => hoth b (by rintro rfl; have := h3 _ hb; have := H.mc; omega))
  · rw [ht]
    exact H.tab.kept (by simp) (fun k hk h1 h2 => hoth k (by rintro rfl; have := H.mc; omega)) (fun _ _ => rfl)
/-- Row j is laid anew. -/
theorem VmAt.setRow (H : VmAt own W m a nb tp M vals L) {j : Nat} (hj : j < 23) {W7 : World} (hg : W.grownBy W7 (vals j).ownBlock) {v' : Value} {own' : Nat → Nat} (M' : Mc) (L' : List Th) (hrow : W7.ownsRow 0 (rowM M' L' j).ty (rowM M' L' j).sz v' (rowM M' L' j).n (rowM M' L' j).xs)
    (ho : ∀ k, k < W.heap.size → own' k = own k) (hc : ∀ b, v'.ownBlock = some b → own' b = 401 + j) (hnew : ∀ k, W7.heap.size ≤ k → own' k = 0) (hsame : ∀ i, i < 23 → i ≠ j → rowM M' L' i = rowM M L i) (hf : M'.fuel = M.fuel) (he : M'.en = M.en) (ht : M'.tb = M.tb) (hn : M'.th.length = M.th.length)
    (hts : ∀ i, i < 5 → (L'[i]?.getD dT).st = (L[i]?.getD dT).st ∧ (L'[i]?.getD dT).fn = (L[i]?.getD dT).fn) (hL : L'.length = 5) (hp : L'.take M'.th.length = M'.th) :
    VmAt own' (W7.setCell (locM m a j) v') m a nb tp M' (fun i => if i = j then v' else vals i) L' ∧ ChgV own W (W7.setCell (locM m a j) v') := by
  have hma := H.ma
  have hvb : ∀ b, (vals j).ownBlock = some b → own b = 401 + j := (H.row j hj).2.2
  have hnb : ∀ k, k < W.heap.size → own k ≠ 401 + j → W7.heap[k]? = W.heap[k]? := fun k hk h => hg.block k hk (fun e => h (hvb k e.symm))
  obtain ⟨cm, hm, hsz⟩ := H.mb
  obtain ⟨ca, ha, hsa⟩ := H.ab
  have hm7 := (hnb m H.mlt (by rw [H.mc]; omega)).trans hm
  have ha7 := (hnb a H.alt (by rw [H.ac]; omega)).trans ha
  have hlb := locM_block m a j
  have c7m : ∀ i, W7.cell? ⟨m, i, none⟩ = W.cell? ⟨m, i, none⟩ := fun i => World.cell?_of_block (a := ⟨m, i, none⟩) (hnb m H.mlt (by rw [H.mc]; omega))
  have c7a : ∀ i, W7.cell? ⟨a, i, none⟩ = W.cell? ⟨a, i, none⟩ := fun i => World.cell?_of_block (a := ⟨a, i, none⟩) (hnb a H.alt (by rw [H.ac]; omega))
  have c7l : ∀ i, W7.cell? (locM m a i) = W.cell? (locM m a i) := fun i => by
    rcases locM_block m a i with h | h
    · exact World.cell?_of_block (a := locM m a i) (by rw [h]; exact hnb m H.mlt (by rw [H.mc]; omega))
    · exact World.cell?_of_block (a := locM m a i) (by rw [h]; exact hnb a H.alt (by rw [H.ac]; omega))
  obtain ⟨o1, o2, o3⟩ := locM_off m a j hma hj
  have hoth : ∀ k, k ≠ m → k ≠ a → (W7.setCell (locM m a j) v').heap[k]? = W7.heap[k]? := fun k h1 h2 => Below.heap_setCell _ _ _ _ (by rcases hlb with h | h <;> rw [h] <;> assumption)
  have hs7 := hg.size
  have e : locM m a j = ⟨(locM m a j).block, (locM m a j).off, none⟩ := by rw [← o3]
  have cme : ∀ i, (i = 0 ∨ i = 1 ∨ i = 9 ∨ i = 10 ∨ i = 12) → (W7.setCell (locM m a j) v').cell? ⟨m, i, none⟩ = W.cell? ⟨m, i, none⟩ := by
    intro i hi
    refine (World.cell?_setCell_other _ _ _ _ ?_).trans (c7m i)
    intro e'
    have e1 : (locM m a j).block = m := by rw [e']
    have e2 : (locM m a j).off = i := by rw [e']
    have := o1 e1
    omega
  have cae : ∀ i, i % 5 < 2 → (W7.setCell (locM m a j) v').cell? ⟨a, i, none⟩ = W.cell? ⟨a, i, none⟩ := by
    intro i hi
    refine (World.cell?_setCell_other _ _ _ _ ?_).trans (c7a i)
    intro e'
    have e1 : (locM m a j).block = a := by rw [e']
    have e2 : (locM m a j).off = i := by rw [e']
    have := o2 e1
    omega
  have hmb : ∃ cm, (W7.setCell (locM m a j) v').heap[m]? = some (.cells cm 61) ∧ cm.size = 13 := by
    rcases hlb with h | h
    · rw [e, h]; exact ⟨_, heap_setCell_same hm7 _, by simpa using hsz⟩
    · exact ⟨_, (Below.heap_setCell _ _ _ _ (by rw [h]; exact hma)).trans hm7, hsz⟩
  have hab : ∃ ca, (W7.setCell (locM m a j) v').heap[a]? = some (.cells ca 66) ∧ ca.size = 25 := by
    rcases hlb with h | h
    · exact ⟨_, (Below.heap_setCell _ _ _ _ (by rw [h]; exact hma.symm)).trans ha7, hsa⟩
    · rw [e, h]; exact ⟨_, heap_setCell_same ha7 _, by simpa using hsa⟩
  refine ⟨⟨hmb, hab, (cme 0 (by omega)).trans H.c0, (cme 1 (by omega)).trans H.c1, (by rw [hn]; exact (cme 9 (by omega)).trans H.c9), (by rw [hf]; exact (cme 10 (by omega)).trans H.cf), (by rw [he]; exact (cme 12 (by omega)).trans H.cen), ?_, ?_, (ho m H.mlt).trans H.mc, (ho a H.alt).trans H.ac, hL, hp, ?_, fun k hk => hnew k (by simpa using hk), H.num.kept (fun k hk h1 => (hoth k (by rintro rfl; have := H.mc; omega) (by rintro rfl; have := H.ac; omega)).trans (hnb k hk (by omega))) ho⟩, ⟨hg.os, hg.tape, hg.output, by simpa using hs7, fun k hk hz => (hoth k (by rintro rfl; have := H.mc; omega) (by rintro rfl; have := H.ac; omega)).trans (hnb k hk (by omega))⟩⟩
  · intro i hi
    obtain ⟨t1, t2⟩ := hts i hi
    rw [t1, t2]
    exact ⟨(cae _ (by omega)).trans (H.ts i hi).1, (cae _ (by omega)).trans (H.ts i hi).2⟩
  · intro i hi
    by_cases c : i = j
    · subst c
      simp only [if_true]
      refine ⟨World.cell?_setCell_same' _ _ _ (by rw [c7l, (H.row i hi).1]; rfl), ownsRow_block hrow (fun b hb => hoth b ?_ ?_), hc⟩
      · rintro rfl; have := hc _ hb; have := (ho _ H.mlt).trans H.mc; omega
      · rintro rfl; have := hc _ hb; have := (ho _ H.alt).trans H.ac; omega
    · simp only [if_neg c]
      obtain ⟨h1, h2, h3⟩ := H.row i hi
      refine ⟨(World.cell?_setCell_other _ _ _ _ (fun e' => c (locM_inj hma e').symm)).trans ((c7l i).trans h1), ?_, fun b hb => (ho b (ownsRow_lt h2 b hb)).trans (h3 b hb)⟩
      rw [hsame i hi c]
      refine ownsRow_block h2 (fun b hb => (hoth b ?_ ?_).trans (hnb b (ownsRow_lt h2 b hb) (by rw [h3 b hb]; omega)))
      · rintro rfl; have := h3 _ hb; have := H.mc; omega
      · rintro rfl; have := h3 _ hb; have := H.ac; omega
  · rw [ht]
    refine H.tab.kept (by simpa using hs7) (fun k hk h1 h2 => (hoth k ?_ ?_).trans (hnb k hk (by omega))) ho
    · rintro rfl; have := H.mc; omega
    · rintro rfl; have := H.ac; omega
end
end Go.Proofs.Qxb6500293aGreatRR
