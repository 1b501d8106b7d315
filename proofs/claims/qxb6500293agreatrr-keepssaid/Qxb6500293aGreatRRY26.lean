/-
  plain, all instructions but ICLOSURE.
-/
import Derived.Test.Qxb6500293aGreatRRY18
import Derived.Test.Qxb6500293aGreatRRY22
import Derived.Test.Qxb6500293aGreatRRY25
namespace Go.Proofs.Qxb6500293aGreatRR
open Go.RowKit
open Ieee (double)
set_option linter.unusedVariables false
set_option linter.unusedSimpArgs false

theorem le_sum_mem : ∀ (l : List Nat) (x : Nat), x ∈ l → x ≤ l.sum
  | [], _, h => by cases h
  | y :: l, x, h => by
    rw [List.sum_cons]
    rcases List.mem_cons.1 h with rfl | h
    · omega
    · have := le_sum_mem l x h
      omega
theorem okV.wf {M : Mc} {v : V} (h : okV M v) : wfB v = true := by
  have h1 := h.1
  unfold validP at h1
  simp only [Bool.and_eq_true] at h1
  exact h1.1
theorem okV.ok {M : Mc} {v : V} (h : okV M v) : v.Ok := wf_ok h.wf h.2
theorem okV.four {M : Mc} {v : V} (h : okV M v) (h4 : v.T = 4) : v.N < M.tb.length := by
  have h1 := h.1
  unfold validP at h1
  rw [if_neg (show ¬ v.T = 2 by omega), if_pos h4] at h1
  simp only [Bool.and_eq_true, decide_eq_true_eq] at h1
  exact h1.2
section
variable {M : Mc} {run : Option Nat} {sl i : Nat}
theorem Alive.ls (h : Alive M run sl) : ∀ t ∈ M.th, t.sk.length ≤ 20000 := by
  intro t ht
  obtain ⟨k, hk, rfl⟩ := List.getElem_of_mem ht
  have := sk_bound h hk
  have e : M.t k = M.th[k] := by unfold Mc.t; rw [List.getElem?_eq_getElem hk]; rfl
  rw [e] at this
  omega
theorem Alive.upOk (h : Alive M run sl) (hs : sl ≤ 10000) {c x : Nat} (hc : c < M.cs.length) (hx : x < (M.c c).nup) : UpOk M c x := by
  obtain ⟨_, _, c3⟩ := h.clo hc
  have hux := h.ux
  have hu : (M.c c).up + x < M.ux.length := by omega
  have he : upX M c x < M.ce.length := by
    unfold upX
    rw [List.getElem?_eq_getElem hu]
    exact h.cl.ux _ (List.getElem_mem hu)
  refine ⟨hc, hu, he, ?_, by have := h.cl.cs24; omega, by omega, by omega, h.ls⟩
  intro h0
  obtain ⟨k, e1, e2, e3⟩ := h.cl.ceo _ he h0
  rw [e1, Int.toNat_natCast]
  refine ⟨e2, ?_⟩
  obtain ⟨_, _, j, f, g1, g2, g3⟩ := (h.th k e2).opm _ e3
  have := (h.th k e2).base_le g1
  omega
theorem Alive.opOk (h : Alive M run sl) (hi : i < M.th.length) : OpOk M i := by
  intro c hc
  obtain ⟨h1, _, j, f, g1, g2, g3⟩ := (h.th i hi).opm _ hc
  have := (h.th i hi).base_le g1
  exact ⟨h1, by omega⟩
theorem Alive.opLen (h : Alive M run sl) (hi : i < M.th.length) : (M.t i).op.length ≤ M.ce.length := by
  have h1 := h.cl.cnt
  have h2 : M.ce.countP (fun c => decide (0 ≤ c.th)) ≤ M.ce.length := List.countP_le_length
  have h3 : (M.t i).op.length ≤ (M.th.map (fun t => t.op.length)).sum := le_sum_mem _ _ (List.mem_map_of_mem (Mc.t_mem hi))
  omega
end
theorem fl_okV (M : Mc) (x : Nat) : (numV (fl x)).Ok := ⟨by show (-9223372036854775808 : Int) ≤ 2; decide, by show (2 : Int) ≤ 9223372036854775807; decide, fl_lt x, by show (0 : Nat) ≤ 9223372036854775807; decide⟩
set_option maxHeartbeats 1000000 in
theorem plain_any {own : Nat → Nat} {W : World} {m a nb tp : Nat} {M : Mc} (HV : Vm own W m a nb tp M) {i : Nat} (hA : Alive M (some i)) (hi : i < M.th.length) {fb n cp pb P : Nat} (hF : PlF W m a M i fb n cp pb) (hP : P = (M.c (M.t i).f.clo).p) (hpa : pb ≠ a) (op x : Nat) (hx : x < 65536) (ht : testP M i op x = true) (hj : op < 21 ∨ op = 25 ∨ op = 29 ∨ op = 30 ∨ op = 31 ∨ op = 32) :
    Calls Tryz.prog 92 #[.pointer (some ⟨m, 0, none⟩), i64 i, .pointer (some ⟨a, i * 5, none⟩), .pointer (some ⟨fb, n * 5, none⟩), .pointer (some ⟨pb, P * 8, none⟩), .int .u8 (op : Int), i64 x] W (OuEf own W m a nb tp i (plainP M i op x) (fun _ => .tuple #[])) := by
  obtain ⟨r1, r2, r3, r4, r5, r6, r7⟩ := hA.runs hi
  obtain ⟨P', sl, base, ns, kk, clo, ad, scp, hC⟩ := hF.cells HV hA hi
  obtain ⟨q1, q2, q3, q4, q5, q6⟩ := hC.esl.out
  have hPP : P' = P := by rw [q6, hP]
  subst hPP
  have hp := hA.st.each _ (hA.prc r4)
  have hw := hA.st.win _ (hA.prc r4)
  have hup := hA.clo r4
  have hsk := sk_bound hA hi
  have hux := hA.ux
  have hks := hA.st.lks
  unfold testP at ht
  simp only [Bool.and_eq_true, decide_eq_true_eq] at ht
  obtain ⟨hs, hn, hg⟩ := ht
  have hfa := Th.f_at (t := M.t i) r2
  rw [hF.len, Nat.add_sub_cancel] at hfa
  have hop0 : 1 ≤ op ∧ op ≤ 32 := by
    unfold soundP at hs
    simp only at hs
    by_cases h0 : op = 0
    · subst h0; simp at hs
    · omega
  have hkk : ∀ y, y < (M.p (M.t i).f.clo).nk → kk + y < M.ks.length := by intro y hy; rw [q4]; omega
  have hkv : ∀ y, y < (M.p (M.t i).f.clo).nk → okV M (M.ks[(M.p (M.t i).f.clo).k + y]?.getD nilV) := by
    intro y hy
    have h1 : (M.p (M.t i).f.clo).k + y < M.ks.length := by omega
    rw [List.getElem?_eq_getElem h1]
    exact hA.va.ks _ (List.getElem_mem h1)
  have htop : 1 ≤ (M.t i).sk.length → okV M (topP M i) := fun h => hA.topV hi h
  obtain ⟨hi1, hl1⟩ := drop_len hi
  obtain ⟨hi2, hl2⟩ := drop_len hi1
  have hd1 : (M.t i).f.base + (M.p (M.t i).f.clo).ns + 1 ≤ (M.t i).sk.length → Alive (dropP M i) (some i) := fun h => hA.drop hi h
  have ef1 : ((dropP M i).t i).f = (M.t i).f := by rw [drop_t hi]; rfl
  have ef2 : ((dropP (dropP M i) i).t i).f = (M.t i).f := by rw [drop_t hi1]; exact ef1
  have hd2 : (M.t i).f.base + (M.p (M.t i).f.clo).ns + 2 ≤ (M.t i).sk.length → Alive (dropP (dropP M i) i) (some i) := by
    intro h
    refine (hd1 (by omega)).drop hi1 ?_
    rw [ef1, hl1]
    have e : (dropP M i).p (M.t i).f.clo = M.p (M.t i).f.clo := rfl
    rw [e]
    omega
  have htop1 : (M.t i).f.base + (M.p (M.t i).f.clo).ns + 2 ≤ (M.t i).sk.length → okV M (topP (dropP M i) i) := by
    intro h
    exact ((hd1 (by omega)).topV hi1 (by rw [hl1]; omega)).mono (Nat.le_refl _) (Nat.le_refl _) (by rw [show (dropP M i).th.length = M.th.length from th_setT _ _ _]; exact Nat.le_refl _)
  have htop2 : (M.t i).f.base + (M.p (M.t i).f.clo).ns + 3 ≤ (M.t i).sk.length → okV M (topP (dropP (dropP M i) i) i) := by
    intro h
    exact ((hd2 (by omega)).topV hi2 (by rw [hl2, hl1]; omega)).mono (Nat.le_refl _) (Nat.le_refl _) (by rw [show (dropP (dropP M i) i).th.length = (dropP M i).th.length from th_setT _ _ _, show (dropP M i).th.length = M.th.length from th_setT _ _ _]; exact Nat.le_refl _)
  have h12 := hA.tb12
  have hslot : ∀ y, y < (M.p (M.t i).f.clo).ns → okV M (slot M i y) := fun y hy => hA.at hi (by omega)
  have hj' : op = 1 ∨ op = 2 ∨ op = 3 ∨ op = 4 ∨ op = 5 ∨ op = 6 ∨ op = 7 ∨ op = 8 ∨ op = 9 ∨ op = 10 ∨ op = 11 ∨ op = 12 ∨ op = 13 ∨ op = 14 ∨ op = 15 ∨ op = 16 ∨ op = 17 ∨ op = 18 ∨ op = 19 ∨ op = 20 ∨ op = 25 ∨ op = 29 ∨ op = 30 ∨ op = 31 ∨ op = 32 := by omega
  clear hj hop0
  rcases hj' with rfl | rfl | rfl | rfl | rfl | rfl | rfl | rfl | rfl | rfl | rfl | rfl | rfl | rfl | rfl | rfl | rfl | rfl | rfl | rfl | rfl | rfl | rfl | rfl | rfl
  · have hs : x < (M.p (M.t i).f.clo).nk := of_decide_eq_true hs
    exact plain_1 HV hi hC x (hkk x hs) hx
  · exact plain_2 HV hi hC x
  · exact plain_3 HV hi hC x
  · exact plain_4 HV hi hC x
  · have hs : x < (M.p (M.t i).f.clo).ns := of_decide_eq_true hs
    exact plain_5 HV hi hC x (by omega)
  · have hs : x < (M.p (M.t i).f.clo).ns := of_decide_eq_true hs
    have hn : (1 : Int) ≤ _ := hn
    exact plain_6 HV hi hC x (by omega) (by omega)
  · have hs : x < (M.c (M.t i).f.clo).nup := of_decide_eq_true hs
    exact plain_7 HV hi hC x (hA.upOk (by omega) r4 hs)
  · have hs : x < (M.c (M.t i).f.clo).nup := of_decide_eq_true hs
    have hn : (1 : Int) ≤ _ := hn
    exact plain_8 HV hi hC x ((hd1 (by omega)).upOk (by omega) r4 hs) (by omega) hF.fr hfa
  · have hs : (decide (x < (M.p (M.t i).f.clo).nk) && decide ((M.ks[(M.p (M.t i).f.clo).k + x]?.getD nilV).T = 3)) = true := hs
    simp only [Bool.and_eq_true, decide_eq_true_eq] at hs
    exact plain_9 HV hi hC x (hkk x hs.1) hx (hkv x hs.1).ok
  · have hs : (decide (x < (M.p (M.t i).f.clo).nk) && decide ((M.ks[(M.p (M.t i).f.clo).k + x]?.getD nilV).T = 3)) = true := hs
    simp only [Bool.and_eq_true, decide_eq_true_eq] at hs
    have hn : (1 : Int) ≤ _ := hn
    exact plain_10 HV hi hC x (hkk x hs.1) hx (by omega) hpa (htop (by omega)).ok (hkv x hs.1).ok
  · have hn : (2 : Int) ≤ _ := hn
    have h1 := htop1 (by omega)
    exact plain_11 HV hi hC x (by omega) (htop (by omega)).ok (fun h4 => by have := h1.four h4; omega)
  · have hn : (3 : Int) ≤ _ := hn
    have h2 := htop2 (by omega)
    exact plain_12 HV hi hC x (by omega) (htop (by omega)).ok (htop1 (by omega)).ok (fun h4 => by have := h2.four h4; omega)
  · have hn : (2 : Int) ≤ _ := hn
    have h1 := htop1 (by omega)
    exact plain_13 HV hi hC x hx (by omega) (htop (by omega)).ok (fl_okV M x) (fun h4 => by have := h1.four h4; omega)
  · exact plain_14 HV hi hC x
  · have hn : (2 : Int) ≤ _ := hn
    exact plain_oper HV hi hC x 15 (by omega) (fun w own' h => oper_arith h hi (by omega) (by omega) x (htop (by omega)).2 (htop1 (by omega)).2)
  · have hn : (2 : Int) ≤ _ := hn
    have hs : (decide (1 ≤ x) && decide (x ≤ 6)) = true := hs
    simp only [Bool.and_eq_true, decide_eq_true_eq] at hs
    exact plain_oper HV hi hC x 16 (by omega) (fun w own' h => oper_cmp h hi (by omega) (by omega) x hs)
  · have hn : (2 : Int) ≤ _ := hn
    exact plain_oper HV hi hC x 17 (by omega) (fun w own' h => oper_cat h hi (by omega) (by omega) x (htop (by omega)).wf (htop (by omega)).2 (htop1 (by omega)).wf (htop1 (by omega)).2)
  · have hn : (1 : Int) ≤ _ := hn
    exact plain_oper HV hi hC x 18 (by omega) (fun w own' h => oper_not h hi (by omega) (by omega) x)
  · have hn : (1 : Int) ≤ _ := hn
    exact plain_oper HV hi hC x 19 (by omega) (fun w own' h => oper_neg h hi (by omega) (by omega) x (htop (by omega)).2)
  · have hn : (1 : Int) ≤ _ := hn
    exact plain_oper HV hi hC x 20 (by omega) (fun w own' h => oper_len h hi (by omega) (by omega) x (htop (by omega)).wf (htop (by omega)).four)
  · have hn : (1 : Int) ≤ _ := hn
    exact plain_25 HV hi hC x (by omega)
  · have hs : x ≤ (M.p (M.t i).f.clo).ns := of_decide_eq_true hs
    have := hA.opLen hi
    exact plain_29 HV hi hC x (by omega) (by omega) (hA.opOk hi) (by omega) (by omega)
  · have hs : x + 3 < (M.p (M.t i).f.clo).ns := of_decide_eq_true hs
    exact plain_30 HV hi hC x (by omega)
  · have hs : (decide (x + 3 < (M.p (M.t i).f.clo).ns) && (decide ((slot M i x).T = 2) && (decide ((slot M i (x + 1)).T = 2) && decide ((slot M i (x + 2)).T = 2)))) = true := hs
    simp only [Bool.and_eq_true, decide_eq_true_eq] at hs
    exact plain_31 HV hi hC x (by omega)
  · have hs : x + 3 < (M.p (M.t i).f.clo).ns := of_decide_eq_true hs
    have h0 := hslot x (by omega)
    exact plain_32 HV hi hC x (by omega) (fun h4 => by have := h0.four h4; omega) (hslot (x + 1) (by omega)).ok
end Go.Proofs.Qxb6500293aGreatRR
