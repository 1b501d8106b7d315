/-
  THE LOADER, PLAIN: what the reader keeps.
-/
import Derived.Test.Qxb6500293aGreatRRY2
import Derived.Test.Qxb6500293aGreatRRL1
namespace Go.Proofs.Qxb6500293aGreatRR
open Ieee (double)
set_option linter.unusedVariables false
set_option linter.unusedSimpArgs false

/-! ### what the reader keeps -/
theorem take_i (r : Rd) (n : Nat) (h : r.i ≤ r.bs.length) : r.i ≤ (takeP r n).1.i ∧ (takeP r n).1.i ≤ r.bs.length := by
  unfold takeP
  split
  · exact ⟨Nat.le_refl _, h⟩
  · rename_i c
    refine ⟨Nat.le_add_right _ _, ?_⟩
    show r.i + n ≤ _
    omega
theorem take_ok {r : Rd} {n : Nat} (h : (takeP r n).1.bad = false) (hi : r.i ≤ r.bs.length) : r.bad = false ∧ (takeP r n).1.i = r.i + n ∧ (takeP r n).2.length = n ∧ r.i + n ≤ r.bs.length ∧ (takeP r n).2 = (r.bs.drop r.i).take n := by
  unfold takeP at *
  split at h
  · cases h
  · rename_i c
    rw [if_neg c]
    have h1 : r.bad = false := by cases hb : r.bad; rfl; exact absurd (.inl hb) c
    refine ⟨h1, rfl, ?_, by omega, rfl⟩
    rw [List.length_take, List.length_drop]
    omega
/-- A step of the reader. -/
structure RdS (r r' : Rd) : Prop where
  bs : r'.bs = r.bs
  lo : r.i ≤ r'.i
  hi : r'.i ≤ r.bs.length
  bad : r.bad = true → r'.bad = true
theorem RdS.refl {r : Rd} (h : r.i ≤ r.bs.length) : RdS r r := ⟨rfl, Nat.le_refl _, h, id⟩
theorem RdS.trans {r r' r'' : Rd} (h : RdS r r') (g : RdS r' r'') : RdS r r'' := ⟨g.bs.trans h.bs, Nat.le_trans h.lo g.lo, by rw [← h.bs]; exact g.hi, fun e => g.bad (h.bad e)⟩
theorem RdS.next {r r' : Rd} (h : RdS r r') : r'.i ≤ r'.bs.length := by rw [h.bs]; exact h.hi
theorem RdS.or {r r' : Rd} (h : RdS r r') (b : Bool) : RdS r (r'.or b) := ⟨h.bs, h.lo, h.hi, fun e => by show (r'.bad || b) = true; rw [h.bad e]; rfl⟩
theorem RdS.spoil {r r' : Rd} (h : RdS r r') : RdS r r'.spoil := ⟨h.bs, h.lo, h.hi, fun _ => rfl⟩
theorem RdS.ok {r r' : Rd} (h : RdS r r') (e : r'.bad = false) : r.bad = false := by cases hb : r.bad; rfl; rw [h.bad hb] at e; cases e
theorem take_S {r : Rd} (n : Nat) (h : r.i ≤ r.bs.length) : RdS r (takeP r n).1 := ⟨take_bs r n, (take_i r n h).1, (take_i r n h).2, fun e => by unfold takeP; rw [if_pos (.inl e)]; rfl⟩
theorem u8_S {r : Rd} (h : r.i ≤ r.bs.length) : RdS r (u8P r).1 := take_S 1 h
theorem u16_S {r : Rd} (h : r.i ≤ r.bs.length) : RdS r (u16P r).1 := take_S 2 h
theorem u8_lt (r : Rd) : (u8P r).2 < 256 := by unfold u8P; dsimp only; split; decide; exact byte_lt _ _
theorem u16_lt (r : Rd) : (u16P r).2 < 65536 := by
  unfold u16P; dsimp only; split
  · decide
  · have := byte_lt (takeP r 2).2 0
    have := byte_lt (takeP r 2).2 1
    omega
theorem u8_pos {r : Rd} (h : r.i ≤ r.bs.length) (h0 : (u8P r).2 ≠ 0) : (u8P r).1.i = r.i + 1 := by
  unfold u8P at *
  dsimp only at *
  split at h0
  · exact absurd rfl h0
  · rename_i c
    exact (take_ok (by simpa using c) h).2.1
theorem le8_lt (l : List UInt8) : le8 l < 18446744073709551616 := by
  unfold le8
  have := byte_lt l 0
  have := byte_lt l 1
  have := byte_lt l 2
  have := byte_lt l 3
  have := byte_lt l 4
  have := byte_lt l 5
  have := byte_lt l 6
  have := byte_lt l 7
  omega
/-- What a constant's reading leaves. -/
structure KsS (r : Rd) (ks : List V) (o : Rd × List V) : Prop where
  rd : RdS r o.1
  len : o.2.length + r.i ≤ ks.length + o.1.i
  good : o.1.bad = false → ∃ l, o.2 = ks ++ l ∧ ∀ v ∈ l, (v.T = 2 ∨ v.T = 3) ∧ ∀ M, okV M v
theorem const1_S {r : Rd} (ks : List V) (h : r.i ≤ r.bs.length) : RdS r (const1 r ks).1 ∧ (const1 r ks).2.length + r.i ≤ ks.length + (const1 r ks).1.i + 1 ∧ ((const1 r ks).1.bad = false → ∃ v, (const1 r ks).2 = ks ++ [v] ∧ (v.T = 2 ∨ v.T = 3) ∧ ∀ M, okV M v) := by
  have s := take_S 8 h
  have h1 := s.lo
  unfold const1
  split
  · rename_i c
    refine ⟨s, ?_, fun e => ?_⟩
    · show ks.length + r.i ≤ ks.length + (takeP r 8).1.i + 1
      omega
    · have e : (takeP r 8).1.bad = false := e
      rw [c] at e; cases e
  · refine ⟨s.or _, ?_, fun e => ⟨_, rfl, .inl rfl, fun M => ?_⟩⟩
    · show (ks ++ [_]).length + r.i ≤ ks.length + (takeP r 8).1.i + 1
      rw [List.length_append]
      show ks.length + 1 + r.i ≤ _
      omega
    · have e : ((takeP r 8).1.bad || badN (le8 (takeP r 8).2)) = false := e
      rw [Bool.or_eq_false_iff] at e
      have e := e.2
      unfold badN at e
      refine num_okV M ?_ (le8_lt _)
      by_cases c : 2047 * 2 ^ 52 < le8 (takeP r 8).2 % 2 ^ 63
      · right
        rw [decide_eq_true c, Bool.true_and] at e
        have := of_decide_eq_false e
        exact Decidable.byContradiction this
      · exact .inl c
theorem const2_S {r : Rd} (ks : List V) (l : Nat) (h : r.i ≤ r.bs.length) : RdS r (const2 r l ks).1 ∧ (const2 r l ks).2.length + r.i ≤ ks.length + (const2 r l ks).1.i + 1 ∧ ((const2 r l ks).1.bad = false → ∃ v, (const2 r l ks).2 = ks ++ [v] ∧ (v.T = 2 ∨ v.T = 3) ∧ ∀ M, okV M v) := by
  have s0 : RdS r (r.or (decide (40 < l))) := (RdS.refl h).or _
  have s := s0.trans (take_S l s0.next)
  have h1 := s.lo
  unfold const2
  refine ⟨s, ?_, fun e => ⟨_, rfl, .inr rfl, fun M => ?_⟩⟩
  · show (ks ++ [_]).length + r.i ≤ ks.length + _ + 1
    rw [List.length_append]
    show ks.length + 1 + r.i ≤ ks.length + (takeP (r.or (decide (40 < l))) l).1.i + 1
    omega
  · obtain ⟨k1, k2, k3, k4, k5⟩ := take_ok e s0.next
    have k1 : (r.bad || decide (40 < l)) = false := k1
    rw [Bool.or_eq_false_iff] at k1
    have := of_decide_eq_false k1.2
    exact str_okV M (by rw [k3]; omega)
theorem const_S {r : Rd} (ks : List V) (h : r.i ≤ r.bs.length) : KsS r ks (constP r ks) := by
  have s := u8_S h
  have h1 := s.lo
  unfold constP
  split
  · rename_i c
    have hp := u8_pos h (by omega)
    obtain ⟨a, b, d⟩ := const1_S ks s.next
    exact ⟨s.trans a, by omega, fun e => by obtain ⟨v, e1, e2⟩ := d e; exact ⟨[v], e1, fun u hu => by rw [List.mem_singleton] at hu; rw [hu]; exact e2⟩⟩
  split
  · rename_i c
    have hp := u8_pos h (by omega)
    have s2 := s.trans (u8_S s.next)
    obtain ⟨a, b, d⟩ := const2_S ks (u8P (u8P r).1).2 s2.next
    have h2 := (u8_S s.next).lo
    exact ⟨s2.trans a, by omega, fun e => by obtain ⟨v, e1, e2⟩ := d e; exact ⟨[v], e1, fun u hu => by rw [List.mem_singleton] at hu; rw [hu]; exact e2⟩⟩
  · refine ⟨s.spoil, ?_, fun e => by cases e⟩
    show ks.length + r.i ≤ ks.length + (u8P r).1.i
    omega
/-- With n more of them. -/
theorem consts_S : ∀ (n : Nat) {r : Rd} (ks : List V), r.i ≤ r.bs.length → RdS r (constsF n r ks).1 ∧ (constsF n r ks).2.length + r.i ≤ ks.length + (constsF n r ks).1.i ∧ ((constsF n r ks).1.bad = false → ∃ l, (constsF n r ks).2 = ks ++ l ∧ l.length = n ∧ ∀ v ∈ l, (v.T = 2 ∨ v.T = 3) ∧ ∀ M, okV M v)
  | 0, r, ks, h => ⟨RdS.refl h, Nat.le_refl _, fun _ => ⟨[], by simp [constsF], rfl, by simp⟩⟩
  | n + 1, r, ks, h => by
    unfold constsF
    split
    · rename_i c
      refine ⟨RdS.refl h, Nat.le_refl _, fun e => ?_⟩
      have e : r.bad = false := e
      rw [c] at e; cases e
    · have s := const_S ks h
      obtain ⟨a, b, d⟩ := consts_S n (r := (constP r ks).1) (constP r ks).2 s.rd.next
      have := s.len
      refine ⟨s.rd.trans a, by omega, fun e => ?_⟩
      obtain ⟨l, e1, e2, e3⟩ := d e
      obtain ⟨l0, g1, g2⟩ := s.good (a.ok e)
      have e1 : (constsF n (constP r ks).1 (constP r ks).2).2 = ks ++ l0 ++ l := e1.trans (by rw [g1])
      -- exactly one was read
      have hone : l0.length = 1 := by
        have hb := a.ok e
        unfold constP at g1 hb
        split at g1
        · rename_i c1
          rw [if_pos c1] at hb
          obtain ⟨_, _, d1⟩ := const1_S (r := (u8P r).1) ks (u8_S h).next
          obtain ⟨v, ev, _⟩ := d1 hb
          rw [ev] at g1
          have := List.append_cancel_left g1
          rw [← this]; rfl
        · rename_i c1
          rw [if_neg c1] at hb
          split at g1
          · rename_i c2
            rw [if_pos c2] at hb
            obtain ⟨_, _, d1⟩ := const2_S (r := (u8P (u8P r).1).1) ks (u8P (u8P r).1).2 (u8_S (u8_S h).next).next
            obtain ⟨v, ev, _⟩ := d1 hb
            rw [ev] at g1
            have := List.append_cancel_left g1
            rw [← this]; rfl
          · rename_i c2
            rw [if_neg c2] at hb
            cases hb
      refine ⟨l0 ++ l, by rw [e1, List.append_assoc], by rw [List.length_append]; omega, fun v hv => ?_⟩
      rcases List.mem_append.1 hv with hv | hv
      · exact g2 v hv
      · exact e3 v hv
theorem descs_S : ∀ (n : Nat) {r : Rd} (ds : List (Nat × Nat)), r.i ≤ r.bs.length → RdS r (descsF n r ds).1 ∧ (descsF n r ds).2.1.length + r.i ≤ ds.length + (descsF n r ds).1.i ∧ ((descsF n r ds).2.2 = true → (descsF n r ds).1.bad = true) ∧ ((descsF n r ds).1.bad = false → ∃ l, (descsF n r ds).2.1 = ds ++ l ∧ l.length = n ∧ ∀ d ∈ l, d.1 ≤ 1 ∧ d.2 < 256)
  | 0, r, ds, h => ⟨RdS.refl h, Nat.le_refl _, (fun e => by cases e), fun _ => ⟨[], by simp [descsF], rfl, by simp⟩⟩
  | n + 1, r, ds, h => by
    unfold descsF
    split
    · rename_i c
      refine ⟨RdS.refl h, Nat.le_refl _, (fun e => by cases e), fun e => ?_⟩
      have e : r.bad = false := e
      rw [c] at e; cases e
    have s := take_S 2 h
    have h1 := s.lo
    split
    · refine ⟨s.spoil, ?_, fun _ => rfl, fun e => by cases e⟩
      show ds.length + r.i ≤ ds.length + (takeP r 2).1.i
      omega
    · rename_i c
      have hb : (takeP r 2).1.bad = false := by cases hb : (takeP r 2).1.bad; rfl; exact absurd (.inl hb) c
      obtain ⟨_, k2, _, _, _⟩ := take_ok hb h
      obtain ⟨a, b, b2, d⟩ := descs_S n (r := (takeP r 2).1) (ds ++ [(byte (takeP r 2).2 0, byte (takeP r 2).2 1)]) s.next
      rw [List.length_append] at b
      have b : _ ≤ ds.length + 1 + _ := b
      refine ⟨s.trans a, by omega, b2, fun e => ?_⟩
      obtain ⟨l, e1, e2, e3⟩ := d e
      refine ⟨_ :: l, by rw [e1, List.append_assoc]; rfl, by rw [List.length_cons, e2], fun v hv => ?_⟩
      rcases List.mem_cons.1 hv with rfl | hv
      · exact ⟨by show byte _ 0 ≤ 1; omega, byte_lt _ _⟩
      · exact e3 v hv
theorem code_S : ∀ (n : Nat) {r : Rd} (co : List (Nat × Nat)), r.i ≤ r.bs.length → RdS r (codeF n r co).1 ∧ (codeF n r co).2.1.length + r.i ≤ co.length + (codeF n r co).1.i ∧ ((codeF n r co).2.2 = true → (codeF n r co).1.bad = true) ∧ ((codeF n r co).1.bad = false → ∃ l, (codeF n r co).2.1 = co ++ l ∧ l.length = n ∧ ∀ d ∈ l, d.1 < 256 ∧ d.2 < 65536)
  | 0, r, co, h => ⟨RdS.refl h, Nat.le_refl _, (fun e => by cases e), fun _ => ⟨[], by simp [codeF], rfl, by simp⟩⟩
  | n + 1, r, co, h => by
    unfold codeF
    split
    · rename_i c
      refine ⟨RdS.refl h, Nat.le_refl _, (fun e => by cases e), fun e => ?_⟩
      have e : r.bad = false := e
      rw [c] at e; cases e
    have s := take_S 3 h
    have h1 := s.lo
    split
    · rename_i c
      refine ⟨s, ?_, fun _ => c, fun e => ?_⟩
      · show co.length + r.i ≤ co.length + (takeP r 3).1.i
        omega
      · have e : (takeP r 3).1.bad = false := e
        rw [c] at e; cases e
    · rename_i c
      obtain ⟨_, k2, _, _, _⟩ := take_ok (by simpa using c) h
      obtain ⟨a, b, b2, d⟩ := code_S n (r := (takeP r 3).1) (co ++ [(byte (takeP r 3).2 0, byte (takeP r 3).2 1 + 256 * byte (takeP r 3).2 2)]) s.next
      rw [List.length_append] at b
      have b : _ ≤ co.length + 1 + _ := b
      refine ⟨s.trans a, by omega, b2, fun e => ?_⟩
      obtain ⟨l, e1, e2, e3⟩ := d e
      refine ⟨_ :: l, by rw [e1, List.append_assoc]; rfl, by rw [List.length_cons, e2], fun v hv => ?_⟩
      rcases List.mem_cons.1 hv with rfl | hv
      · refine ⟨byte_lt _ _, ?_⟩
        have := byte_lt (takeP r 3).2 1
        have := byte_lt (takeP r 3).2 2
        show byte _ 1 + 256 * byte _ 2 < 65536
        omega
      · exact e3 v hv
/-- What stays of the machine while an image is read; how long the arenas are. -/
structure LdS (r : Rd) (M : Mc) (r' : Rd) (M' : Mc) : Prop where
  rd : RdS r r'
  cs : M'.cs = M.cs
  ux : M'.ux = M.ux
  ce : M'.ce = M.ce
  th : M'.th = M.th
  fuel : M'.fuel = M.fuel
  out : M'.out = M.out
  en : M'.en = M.en
  tb : M'.tb = M.tb
  lds : M'.ds.length + r.i ≤ M.ds.length + r'.i
  lks : M'.ks.length + r.i ≤ M.ks.length + r'.i
  lco : M'.co.length + r.i ≤ M.co.length + r'.i
  lpr : M'.pr.length ≤ M.pr.length + 1
/-- A proto read to its end. -/
structure PrG (M M' : Mc) (p : Pr) : Prop where
  pr : M'.pr = M.pr ++ [p]
  at' : p.up = M.ds.length ∧ p.k = M.ks.length ∧ p.co = M.co.length
  np : p.np ≤ 3 ∧ p.np ≤ p.ns ∧ p.ns ≤ 12 ∧ p.nup ≤ 255 ∧ p.nc ≤ 65535
  ds : ∃ l, M'.ds = M.ds ++ l ∧ l.length = p.nup ∧ ∀ d ∈ l, d.1 ≤ 1 ∧ d.2 < 256
  ks : ∃ l, M'.ks = M.ks ++ l ∧ l.length = p.nk ∧ ∀ v ∈ l, (v.T = 2 ∨ v.T = 3) ∧ ∀ M, okV M v
  co : ∃ l, M'.co = M.co ++ l ∧ l.length = p.nc ∧ ∀ d ∈ l, d.1 < 256 ∧ d.2 < 65536
theorem proto_S {r : Rd} (M : Mc) (h : r.i ≤ r.bs.length) : LdS r M (protoP r M).1 (protoP r M).2 ∧ ((protoP r M).1.bad = false → ∃ p, PrG M (protoP r M).2 p) := by
  have s := take_S 3 h
  have h1 := s.lo
  unfold protoP
  split
  · rename_i c
    refine ⟨⟨s, rfl, rfl, rfl, rfl, rfl, rfl, rfl, rfl, ?_, ?_, ?_, Nat.le_add_right _ _⟩, fun e => ?_⟩
    · show M.ds.length + r.i ≤ M.ds.length + (takeP r 3).1.i
      omega
    · show M.ks.length + r.i ≤ M.ks.length + (takeP r 3).1.i
      omega
    · show M.co.length + r.i ≤ M.co.length + (takeP r 3).1.i
      omega
    · have e : (takeP r 3).1.bad = false := e
      rw [c] at e; cases e
  rename_i c
  have s1 := s.or (badH (byte (takeP r 3).2 0) (byte (takeP r 3).2 1))
  have l1 : r.i ≤ ((takeP r 3).1.or (badH (byte (takeP r 3).2 0) (byte (takeP r 3).2 1))).i := s1.lo
  have hbad : ((takeP r 3).1.or (badH (byte (takeP r 3).2 0) (byte (takeP r 3).2 1))).bad = false → byte (takeP r 3).2 0 ≤ 3 ∧ byte (takeP r 3).2 0 ≤ byte (takeP r 3).2 1 ∧ byte (takeP r 3).2 1 ≤ 12 := by
    intro e
    have e : ((takeP r 3).1.bad || badH (byte (takeP r 3).2 0) (byte (takeP r 3).2 1)) = false := e
    rw [Bool.or_eq_false_iff] at e
    have := of_decide_eq_false e.2
    omega
  have hnup := byte_lt (takeP r 3).2 2
  obtain ⟨p, hp⟩ : ∃ p, p = headP M (takeP r 3).2 := ⟨_, rfl⟩
  have e1 : p.up = M.ds.length ∧ p.k = M.ks.length ∧ p.co = M.co.length := by rw [hp]; exact ⟨rfl, rfl, rfl⟩
  have e2 : p.np = byte (takeP r 3).2 0 ∧ p.ns = byte (takeP r 3).2 1 ∧ p.nup = byte (takeP r 3).2 2 := by rw [hp]; exact ⟨rfl, rfl, rfl⟩
  rw [← hp]
  obtain ⟨a1, a2, a3⟩ := e2
  rw [← a1, ← a2] at hbad s1 l1 ⊢
  rw [← a3] at hnup
  clear hp a1 a2 a3
  generalize (takeP r 3).1.or (badH p.np p.ns) = r1 at *
  obtain ⟨d1, d2, d3, d4⟩ := descs_S p.nup (r := r1) M.ds s1.next
  have l2 := d1.lo
  have s2 := s1.trans d1
  unfold protoA
  split
  · rename_i cc
    have hb := d3 cc
    refine ⟨⟨s2, rfl, rfl, rfl, rfl, rfl, rfl, rfl, rfl, ?_, ?_, ?_, Nat.le_add_right _ _⟩, fun e => ?_⟩
    · show (descsF p.nup r1 M.ds).2.1.length + r.i ≤ M.ds.length + (descsF p.nup r1 M.ds).1.i
      omega
    · show M.ks.length + r.i ≤ M.ks.length + (descsF p.nup r1 M.ds).1.i
      omega
    · show M.co.length + r.i ≤ M.co.length + (descsF p.nup r1 M.ds).1.i
      omega
    · have e : (descsF p.nup r1 M.ds).1.bad = false := e
      rw [hb] at e; cases e
  clear d3
  obtain ⟨dd, hdd⟩ : ∃ dd, dd = (descsF p.nup r1 M.ds).2.1 := ⟨_, rfl⟩
  rw [← hdd] at d2 d4 ⊢
  generalize (descsF p.nup r1 M.ds).1 = r2 at *
  unfold protoB
  have t3 := u16_S (r := r2) s2.next
  have l3 := t3.lo
  have u3 := u16_lt r2
  generalize (u16P r2).2 = nk at *
  have s3 := s2.trans t3
  generalize (u16P r2).1 = r3 at *
  show LdS r M (protoC { p with nk := nk } (constsF nk r3 M.ks).1 { M with ds := dd, ks := (constsF nk r3 M.ks).2 }).1 _ ∧ _
  obtain ⟨k1, k2, k3⟩ := consts_S nk (r := r3) M.ks s3.next
  have l4 := k1.lo
  have s4 := s3.trans k1
  obtain ⟨kk, hkk⟩ : ∃ kk, kk = (constsF nk r3 M.ks).2 := ⟨_, rfl⟩
  have E : ∀ (A B : Mc → Prop) , True := fun _ _ => trivial
  show LdS r M (protoC { p with nk := nk } (constsF nk r3 M.ks).1 { M with ds := dd, ks := (constsF nk r3 M.ks).2 }).1 (protoC { p with nk := nk } (constsF nk r3 M.ks).1 { M with ds := dd, ks := (constsF nk r3 M.ks).2 }).2 ∧ ((protoC { p with nk := nk } (constsF nk r3 M.ks).1 { M with ds := dd, ks := (constsF nk r3 M.ks).2 }).1.bad = false → ∃ p', PrG M (protoC { p with nk := nk } (constsF nk r3 M.ks).1 { M with ds := dd, ks := (constsF nk r3 M.ks).2 }).2 p')
  rw [← hkk] at k2 k3 ⊢
  generalize (constsF nk r3 M.ks).1 = r4 at *
  unfold protoC
  have t5 := u16_S (r := r4) s4.next
  have l5 := t5.lo
  have u5 := u16_lt r4
  generalize (u16P r4).2 = nc at *
  have s5 := s4.trans t5
  generalize (u16P r4).1 = r5 at *
  have hco : (({ M with ds := dd, ks := kk } : Mc)).co = M.co := rfl
  rw [hco]
  obtain ⟨c1, c2, c3, c4⟩ := code_S nc (r := r5) M.co s5.next
  have l6 := c1.lo
  have s6 := s5.trans c1
  split
  · rename_i cc
    have hb := c3 cc
    refine ⟨⟨s6, rfl, rfl, rfl, rfl, rfl, rfl, rfl, rfl, ?_, ?_, ?_, Nat.le_add_right _ _⟩, fun e => ?_⟩
    · show dd.length + r.i ≤ M.ds.length + (codeF nc r5 M.co).1.i
      omega
    · show kk.length + r.i ≤ M.ks.length + (codeF nc r5 M.co).1.i
      omega
    · show (codeF nc r5 M.co).2.1.length + r.i ≤ M.co.length + (codeF nc r5 M.co).1.i
      omega
    · have e : (codeF nc r5 M.co).1.bad = false := e
      rw [hb] at e; cases e
  · clear c3
    obtain ⟨xx, hxx⟩ : ∃ xx, xx = (codeF nc r5 M.co).2.1 := ⟨_, rfl⟩
    rw [← hxx] at c2 c4 ⊢
    generalize (codeF nc r5 M.co).1 = r6 at *
    refine ⟨⟨s6, rfl, rfl, rfl, rfl, rfl, rfl, rfl, rfl, ?_, ?_, ?_, ?_⟩, fun e => ?_⟩
    · show dd.length + r.i ≤ M.ds.length + r6.i
      omega
    · show kk.length + r.i ≤ M.ks.length + r6.i
      omega
    · show xx.length + r.i ≤ M.co.length + r6.i
      omega
    · show (M.pr ++ [_]).length ≤ M.pr.length + 1
      rw [List.length_append]
      exact Nat.le_refl _
    · have e : r6.bad = false := e
      obtain ⟨q1, q2, q3⟩ := hbad ((d1.trans (t3.trans (k1.trans (t5.trans c1)))).ok e)
      exact ⟨_, rfl, e1, ⟨q1, q2, q3, by show p.nup ≤ 255; omega, by show nc ≤ 65535; omega⟩, d4 ((t3.trans (k1.trans (t5.trans c1))).ok e), k3 ((t5.trans c1).ok e), c4 e⟩
end Go.Proofs.Qxb6500293aGreatRR
