/-
  sound, all instructions.
-/
import Derived.Test.Qxb6500293aGreatRRY30
import Derived.Test.Qxb6500293aGreatRRY27
namespace Go.Proofs.Qxb6500293aGreatRR
open Go.RowKit
open Ieee (double)
set_option linter.unusedVariables false
set_option linter.unusedSimpArgs false

theorem prC_at (p : Pr) : (prC p)[0]? = some (i64 p.np) ∧ (prC p)[1]? = some (i64 p.ns) ∧ (prC p)[2]? = some (i64 p.up) ∧ (prC p)[3]? = some (i64 p.nup) ∧ (prC p)[4]? = some (i64 p.k) ∧ (prC p)[5]? = some (i64 p.nk) ∧ (prC p)[6]? = some (i64 p.co) ∧ (prC p)[7]? = some (i64 p.nc) := ⟨rfl, rfl, rfl, rfl, rfl, rfl, rfl, rfl⟩
set_option maxRecDepth 8000 in
theorem sound_any {own : Nat → Nat} {W : World} {m a nb tp : Nat} {M : Mc} (HV : Vm own W m a nb tp M) {i : Nat} (hA : Alive M (some i)) (hi : i < M.th.length) {fb n cp pb P : Nat} (hF : PlF W m a M i fb n cp pb) (hP : P = (M.c (M.t i).f.clo).p) (op x : Nat) (hop : op < 256) (hx : x < 65536) :
    Calls Tryz.prog 86 #[.pointer (some ⟨m, 0, none⟩), .pointer (some ⟨a, i * 5, none⟩), .pointer (some ⟨fb, n * 5, none⟩), .pointer (some ⟨pb, P * 8, none⟩), .int .u8 (op : Int), i64 x] W fun e w' => e = .returned (.bool (soundP M i op x)) ∧ Below W.heap.size W w' := by
  obtain ⟨r1, r2, r3, r4, r5, r6, r7⟩ := hA.runs hi
  subst hP
  have hfa := Th.f_at (t := M.t i) r2
  rw [hF.len, Nat.add_sub_cancel] at hfa
  obtain ⟨_, f1, _, _, f2, f3, f4, _⟩ := HV.frame hi hF.fr hfa
  obtain ⟨pb', pn, pcp, cb, cn, ccp, d2, d6, e1, e2, e3, e4, p1, c1, _, _, ⟨c2, c3, c4⟩, ⟨q0, q1, q2, q3, q4, q5, q6, q7⟩⟩ := HV.protoAt r4 (hA.clo r4).1
  obtain ⟨k, c, hk⟩ := hF.pr
  have hpbe : pb' = pb := by rw [hk] at d2; cases d2; rfl
  subst hpbe
  subst e1 e2
  have hcs := hA.cl.cs24
  have hpr := hA.st.pr13
  have hpw := hA.st.win _ (hA.prc r4)
  have hpe := hA.st.each _ (hA.prc r4)
  have hS : SoC W m fb n pb' (M.c (M.t i).f.clo).p (M.t i).f.clo (M.c (M.t i).f.clo).nup (M.p (M.t i).f.clo).ns (M.p (M.t i).f.clo).nk (M.p (M.t i).f.clo).nc cb M.cs.length ccp := ⟨d6, r4, by omega, c4, f2, q1, q5, q7⟩
  have hks := hA.st.lks
  have hds := hA.st.lds
  have K9 : ∃ kl kcp kb, x < (M.p (M.t i).f.clo).nk → W.cell? ⟨m, 4, none⟩ = some (.slice (some ⟨kb, 0, none⟩) kl kcp) ∧ (M.p (M.t i).f.clo).k + x < kl ∧ W.cell? ⟨kb, ((M.p (M.t i).f.clo).k + x) * 3, none⟩ = some (.int .i64 (M.ks[(M.p (M.t i).f.clo).k + x]?.getD nilV).T) := by
    by_cases h : x < (M.p (M.t i).f.clo).nk
    · obtain ⟨b, cp, s1, s2, s3, s4, s5, _⟩ := HV.ksE (k := (M.p (M.t i).f.clo).k + x) (by omega)
      exact ⟨_, _, _, fun _ => ⟨s1, by omega, s5⟩⟩
    · exact ⟨0, 0, 0, fun q => absurd q h⟩
  by_cases h32 : 32 < op
  · have e : soundP M i op x = false := by
      unfold soundP
      simp only
      rw [if_neg (by omega), if_neg (by omega), if_neg (by omega), if_neg (by omega), if_neg (by omega), if_neg (by omega), if_neg (by omega), if_neg (by omega), if_neg (by omega), if_neg (by omega), if_neg (by omega)]
      simp
      omega
    rw [e]
    exact sound_up hS x hx op h32 hop
  rcases (by omega : op = 0 ∨ op = 1 ∨ op = 2 ∨ op = 3 ∨ op = 4 ∨ op = 5 ∨ op = 6 ∨ op = 7 ∨ op = 8 ∨ op = 9 ∨ op = 10 ∨ op = 11 ∨ op = 12 ∨ op = 13 ∨ op = 14 ∨ op = 15 ∨ op = 16 ∨ op = 17 ∨ op = 18 ∨ op = 19 ∨ op = 20 ∨ op = 21 ∨ op = 22 ∨ op = 23 ∨ op = 24 ∨ op = 25 ∨ op = 26 ∨ op = 27 ∨ op = 28 ∨ op = 29 ∨ op = 30 ∨ op = 31 ∨ op = 32) with rfl | rfl | rfl | rfl | rfl | rfl | rfl | rfl | rfl | rfl | rfl | rfl | rfl | rfl | rfl | rfl | rfl | rfl | rfl | rfl | rfl | rfl | rfl | rfl | rfl | rfl | rfl | rfl | rfl | rfl | rfl | rfl | rfl
  · exact sound_0 hS x hx
  · exact sound_1 hS x hx
  · exact sound_2 hS x hx
  · exact sound_3 hS x hx
  · exact sound_4 hS x hx
  · exact sound_5 hS x hx
  · exact sound_6 hS x hx
  · exact sound_7 hS x hx
  · exact sound_8 hS x hx
  · obtain ⟨kl, kcp, kb, hK⟩ := K9
    exact sound_9 hS x hx q4 (by omega) hK
  · obtain ⟨kl, kcp, kb, hK⟩ := K9
    exact sound_10 hS x hx q4 (by omega) hK
  · exact sound_11 hS x hx
  · exact sound_12 hS x hx
  · exact sound_13 hS x hx
  · exact sound_14 hS x hx
  · exact sound_15 hS x hx
  · exact sound_16 hS x hx
  · exact sound_17 hS x hx
  · exact sound_18 hS x hx
  · exact sound_19 hS x hx
  · exact sound_20 hS x hx
  · exact sound_21 hS x hx
  · exact sound_22 hS x hx
  · exact sound_23 hS x hx
  · exact sound_24 hS x hx
  · exact sound_25 hS x hx
  · exact sound_26 hS x hx
  · exact sound_27 hS x hx
  · by_cases h : x < M.pr.length
    · obtain ⟨b, pcp', t1, t2, t3, t4, t5⟩ := HV.prE (k := x) h
      have hbe : b = pb' := by rw [d2] at t1; cases t1; rfl
      subst hbe
      have hw := (hA.st.win _ (hA.pro h)).1
      have he := hA.st.each _ (hA.pro h)
      obtain ⟨_, _, g2, g3, _⟩ := prC_at (M.pr[x]?.getD dP)
      obtain ⟨dad, dcp, u1, u2⟩ := HV.lenE 1 3 M.ds.length (by omega) rfl (fun L => rfl)
      have hlen : (descs M x).length = (M.pr[x]?.getD dP).nup := by
        unfold descs
        rw [List.length_take, List.length_drop]
        omega
      have hD : ∃ db, SoD W m b x (M.pr[x]?.getD dP).up (M.pr[x]?.getD dP).nup M.ds.length dcp db dad (descs M x) := by
        by_cases h0 : 0 < (M.pr[x]?.getD dP).nup
        · obtain ⟨db, dcp', v1, v2, v3, v4, v5, v6⟩ := HV.dsE (k := (M.pr[x]?.getD dP).up) (by omega)
          have hdd : dad = some ⟨db, 0, none⟩ := by rw [v1] at u1; cases u1; rfl
          refine ⟨db, t5 2 _ g2, t5 3 _ g3, u1, u2, hw, by omega, by omega, hlen, fun _ => ⟨hdd, v3⟩, fun j hj => ?_⟩
          obtain ⟨db2, dcp2, y1, y2, y3, y4, y5, y6⟩ := HV.dsE (k := (M.pr[x]?.getD dP).up + j) (by omega)
          have hd2 : db2 = db := by rw [v1] at y1; cases y1; rfl
          subst hd2
          have hlt : (M.pr[x]?.getD dP).up + j < M.ds.length := by omega
          have hget : (descs M x)[j]? = some (M.ds[(M.pr[x]?.getD dP).up + j]?.getD (0, 0)) := by
            unfold descs
            rw [List.getElem?_take_of_lt hj, List.getElem?_drop, List.getElem?_eq_getElem hlt]
            rfl
          have hmem := hA.st.ds (M.ds[(M.pr[x]?.getD dP).up + j]?.getD (0, 0)) (by rw [List.getElem?_eq_getElem hlt]; exact List.getElem_mem hlt)
          refine ⟨_, hget, hmem.1, hmem.2, ?_, ?_⟩
          · rw [← y5, Nat.add_mul]
          · rw [← y6, Nat.add_mul]
        · exact ⟨0, t5 2 _ g2, t5 3 _ g3, u1, u2, hw, by omega, by omega, hlen, fun q => absurd q h0, fun j hj => absurd hj (by omega)⟩
      obtain ⟨db, hD⟩ := hD
      exact sound_28 hS x hx t1 (by omega) (by omega) (by have := (hA.clo r4).2.1; omega) p1 (fun _ => hD)
    · have := sound_28 (a := a) (i := i) (up := 0) (qn := 0) (dl := 0) (dcp := 0) (db := 0) (dad := none) (l := (descs M x)) hS x hx d2 (by omega) (by omega) (by have := (hA.clo r4).2.1; omega) p1 (fun q => absurd q h)
      exact this
  · exact sound_29 hS x hx
  · exact sound_30 hS x hx
  · have hsk := sk_bound hA hi
    by_cases h : x + 3 < (M.p (M.t i).f.clo).ns
    · obtain ⟨b, scp, s1, s2, s3, s4, w4⟩ := HV.win4 hi (k := (M.t i).f.base + x) (by omega)
      exact sound_31 hS x hx (fun _ => ⟨s1, s2, by omega, by omega, f4, w4.c0.1, w4.c1.1, w4.c2.1⟩)
    · exact sound_31 (sb := 0) (sl := 0) (scp := 0) (base := 0) (T0 := (slot M i x).T) (T1 := (slot M i (x + 1)).T) (T2 := (slot M i (x + 2)).T) hS x hx (fun q => absurd q h)
  · exact sound_32 hS x hx
end Go.Proofs.Qxb6500293aGreatRR
