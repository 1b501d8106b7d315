/-
  ret walked.
-/
import Derived.Test.Qxb6500293aGreatRRX18
namespace Go.Proofs.Qxb6500293aGreatRR
open Go.RowKit
set_option linter.unusedVariables false
set_option linter.unusedSimpArgs false

theorem row_takeA {W : World} {e : TypeId} {sz n cp k : Nat} {ad : Option Addr} {xs : List Value} (h : W.ownsRow 0 e sz (.slice ad n cp) n xs) (hk : k ≤ n) : n ≤ cp ∧ W.ownsRow 0 e sz (.slice ad k cp) k (xs.take (k * sz)) := by
  rcases h.2 with ⟨h1, h0⟩ | ⟨g, cap, cur, h1, hb, hgg, hc, _⟩
  · cases h1
    have : k = 0 := by omega
    subst this
    refine ⟨by omega, ?_⟩
    rw [Nat.zero_mul]
    exact World.ownsRow_nil _ _ _ _
  · cases h1
    exact ⟨hc, row_take h hk⟩
section
variable {own : Nat → Nat} {W : World} {m a nb tp : Nat} {M : Mc}
/-- A thread's stack: its slice, and what cutting it does. -/
theorem Vm.sk (HV : Vm own W m a nb tp M) {i : Nat} (hi : i < M.th.length) : ∃ ad cp, W.cell? ⟨a, i * 5 + 2, none⟩ = some (.slice ad (M.t i).sk.length cp) ∧ (M.t i).sk.length ≤ cp ∧ W.frozen? ⟨a, i * 5 + 2, none⟩ = false ∧ ∀ k, k ≤ (M.t i).sk.length → Nf own W m a nb tp i (cutP M i k) (W.setCell ⟨a, i * 5 + 2, none⟩ (.slice ad k cp)) := by
  obtain ⟨vals, L, H⟩ := HV
  obtain ⟨c2, hrow, hcol⟩ := H.skRow hi
  obtain ⟨ad, cp, hv⟩ := row_slice hrow
  have hr := hrow
  rw [hv] at hr
  refine ⟨ad, cp, by rw [c2, hv], (row_takeA hr (Nat.zero_le _)).1, H.az _, ?_⟩
  intro k hk
  refine H.skNx hi (grownBy_refl W _) ((M.t i).sk.take k) ?_ (fun b hb => .inl ?_)
  · rw [List.length_take, Nat.min_eq_left hk, flat_take valC 3 valC_len]
    exact (row_takeA hr hk).2
  · rw [hv]
    cases ad <;> exact hb
theorem Vm.frCut (HV : Vm own W m a nb tp M) {i : Nat} (hi : i < M.th.length) : ∃ ad cp, W.cell? ⟨a, i * 5 + 3, none⟩ = some (.slice ad (M.t i).fr.length cp) ∧ (M.t i).fr.length ≤ cp ∧ W.frozen? ⟨a, i * 5 + 3, none⟩ = false ∧ ∀ k, k ≤ (M.t i).fr.length → Nx own W m a nb tp (M.setT i { M.t i with fr := (M.t i).fr.take k }) (W.setCell ⟨a, i * 5 + 3, none⟩ (.slice ad k cp)) := by
  obtain ⟨vals, L, H⟩ := HV
  obtain ⟨c2, hrow, hcol⟩ := H.frRow hi
  obtain ⟨ad, cp, hv⟩ := row_slice hrow
  have hr := hrow
  rw [hv] at hr
  refine ⟨ad, cp, by rw [c2, hv], (row_takeA hr (Nat.zero_le _)).1, H.az _, ?_⟩
  intro k hk
  refine H.frNx hi (grownBy_refl W _) ((M.t i).fr.take k) ?_ (fun b hb => .inl ?_)
  · rw [List.length_take, Nat.min_eq_left hk, flat_take frC 5 frC_len]
    exact (row_takeA hr hk).2
  · rw [hv]
    cases ad <;> exact hb
end
theorem Vm.fna {own : Nat → Nat} {W : World} {m a nb tp : Nat} {M : Mc} (HV : Vm own W m a nb tp M) {i : Nat} (hi : i < M.th.length) {fb n cp : Nat} (hc : W.cell? ⟨a, i * 5 + 3, none⟩ = some (.slice (some ⟨fb, 0, none⟩) n cp)) : ¬ a = fb ∧ ¬ m = fb ∧ own fb = 410 + 3 * i ∧ i < 5 := by
  obtain ⟨vals, L, H⟩ := HV
  obtain ⟨c4, _, hcol⟩ := H.frRow hi
  rw [hc] at c4
  have h1 := hcol fb (by rw [← Option.some.inj c4]; rfl)
  have h2 := H.ac
  have h3 := H.mc
  have h5 := (H.thr hi).2.1
  exact ⟨by rintro rfl; omega, by rintro rfl; omega, h1, h5⟩
section
variable {own : Nat → Nat} {W w : World} {m a nb tp i : Nat} {fs : Option Value} {B : List (Nat × Obj)} {M : Mc}
theorem Rn.cutSk (h : Rn own W m a nb tp i fs B M w) (hi : i < M.th.length) {ad : Option Addr} {n cp : Nat} (hc : w.cell? ⟨a, i * 5 + 2, none⟩ = some (.slice ad n cp)) (k : Nat) (hk : k ≤ (M.t i).sk.length) : Rn own W m a nb tp i fs B (cutP M i k) (w.setCell ⟨a, i * 5 + 2, none⟩ (.slice ad k cp)) := by
  obtain ⟨own1, hv, hN, _⟩ := h.vm
  obtain ⟨ad', cp', s1, s2, s3, s4⟩ := hv.sk hi
  rw [hc] at s1
  cases s1
  exact hN _ _ (s4 k hk)
theorem Rn.cutFr (h : Rn own W m a nb tp i fs B M w) (hi : i < M.th.length) {ad : Option Addr} {n cp : Nat} (hc : w.cell? ⟨a, i * 5 + 3, none⟩ = some (.slice ad n cp)) (k : Nat) (hk : k ≤ (M.t i).fr.length) : Rn own W m a nb tp i ((w.setCell ⟨a, i * 5 + 3, none⟩ (.slice ad k cp)).cell? ⟨a, i * 5 + 3, none⟩) B (M.setT i { M.t i with fr := (M.t i).fr.take k }) (w.setCell ⟨a, i * 5 + 3, none⟩ (.slice ad k cp)) := by
  obtain ⟨own1, hv, _, hX⟩ := h.vm
  obtain ⟨ad', cp', s1, s2, s3, s4⟩ := hv.frCut hi
  rw [hc] at s1
  cases s1
  exact hX _ _ (s4 k hk)
end
theorem drew_set (w : World) (p : Addr) (v : Value) : (w.drewN 1).setCell p v = (w.setCell p v).drew := rfl
theorem Rn.allocD {own : Nat → Nat} {W w : World} {m a nb tp i : Nat} {fs : Option Value} {B : List (Nat × Obj)} {M : Mc} {p : Addr} {v : Value} (h : Rn own W m a nb tp i fs B M ((w.drewN 1).setCell p v)) (o : Obj) : Rn own W m a nb tp i fs ((w.heap.size, o) :: B) M (((w.setCell p v).alloc o).drew) := by
  have h2 := h.alloc o
  have e : ((w.drewN 1).setCell p v).heap.size = w.heap.size := size_set _ _ _
  rw [e] at h2
  exact h2
/-- Values laid in a block of their own. -/
theorem vals_new (w : World) (vs : List V) : ∀ j u, (vs.flatMap valC)[j]? = some u → (w.alloc (.cells (vs.flatMap valC).toArray 33)).cell? ((⟨w.heap.size, 0, none⟩ : Addr).add j) = some u := by
  intro j u hu
  rw [add_at, Nat.zero_add, box_cell (World.alloc_heap_new _ _) j]
  simpa using hu
theorem vals_newD (w : World) (p : Addr) (v : Value) (vs : List V) : ∀ j u, (vs.flatMap valC)[j]? = some u → (((w.setCell p v).alloc (.cells (vs.flatMap valC).toArray 33)).drew).cell? ((⟨w.heap.size, 0, none⟩ : Addr).add j) = some u := by
  have h := vals_new (w.setCell p v) vs
  rw [size_set] at h
  exact h
theorem th_setT (M : Mc) (i : Nat) (t : Th) : (M.setT i t).th.length = M.th.length := by show (M.th.set i t).length = _; rw [List.length_set]
abbrev zEv : Obj := .cells #[.int .i64 0, .int .i64 0, .int .i64 0, .int .i64 0, .int .u64 0, .string ⟨#[]⟩, .int .i64 0, .int .u64 0, .string ⟨#[]⟩] 85
abbrev vBox (T : Int) (N : Nat) (S : List UInt8) : Obj := .cells #[.int .i64 T, .int .u64 (N : Int), .string ⟨S.toArray⟩] 33
set_option maxRecDepth 8000 in
set_option maxHeartbeats 3200000 in
theorem ret_any {own : Nat → Nat} {W : World} {m a nb tp : Nat} {M : Mc} (HV : Vm own W m a nb tp M) {i : Nat} (hi : i < M.th.length) {fb n cp : Nat} (hc : W.cell? ⟨a, i * 5 + 3, none⟩ = some (.slice (some ⟨fb, 0, none⟩) (n + 1) cp)) (hn : (M.t i).fr.length = n + 1) (hn9 : n ≤ 100) (h2 : 2 ≤ (M.t i).sk.length) (hsk : (M.t i).sk.length ≤ 10000)
    (hop : (M.t i).op.length ≤ 10000) (hce : M.ce.length ≤ 100000) (hok : OpOk (dropP (dropP M i) i) i) (hbase : (M.t i).f.base ≤ 100000) (hret : (M.t i).f.ret + 2 ≤ (M.t i).sk.length) :
    Calls Tryz.prog 91 #[.pointer (some ⟨m, 0, none⟩), .pointer (some ⟨a, i * 5, none⟩), .pointer (some ⟨fb, n * 5, none⟩)] W fun e W' => e = .returned (evV (retP M i).2) ∧ Nx own W m a nb tp (retP M i).1 W' := by
  have hfa := Th.f_at (t := M.t i) (by omega)
  rw [hn, Nat.add_sub_cancel] at hfa
  have hi1 : i < (dropP M i).th.length := by unfold dropP; rw [th_setT]; exact hi
  have ht1 : (dropP M i).t i = { M.t i with sk := (M.t i).sk.take ((M.t i).sk.length - 1) } := t_setT hi _
  have hl1 : ((dropP M i).t i).sk.length = (M.t i).sk.length - 1 := by rw [ht1]; simp
  obtain ⟨M2, hM2⟩ : ∃ M2, M2 = dropP (dropP M i) i := ⟨_, rfl⟩
  have hi2 : i < M2.th.length := by rw [hM2]; unfold dropP at hi1 ⊢; rw [th_setT]; exact hi1
  have ht2 : M2.t i = { M.t i with sk := (M.t i).sk.take ((M.t i).sk.length - 2) } := by
    rw [hM2]
    refine (t_setT hi1 _).trans ?_
    rw [ht1]
    simp only [List.length_take, List.take_take]
    congr 1
    congr 1
    omega
  have hl2 : (M2.t i).sk.length = (M.t i).sk.length - 2 := by rw [ht2]; simp
  have hce2 : M2.ce.length ≤ 100000 := by rw [hM2]; exact hce
  have hop2 : (M2.t i).op.length ≤ 10000 := by rw [ht2]; exact hop
  rw [← hM2] at hok
  obtain ⟨⟨wT, wN, wS⟩, hw0⟩ : ∃ w, w = topP M i := ⟨_, rfl⟩
  obtain ⟨⟨vT, vN, vS⟩, hv0'⟩ : ∃ v, v = topP (dropP M i) i := ⟨_, rfl⟩
  obtain ⟨F, hF⟩ : ∃ F, F = (M.t i).f := ⟨_, rfl⟩
  rw [← hF] at hbase hret hfa
  obtain ⟨M3, hM3⟩ : ∃ M3, M3 = closeP M2 i F.base := ⟨_, rfl⟩
  have hi3 : i < M3.th.length := by rw [hM3]; show i < (M2.th.set i _).length; rw [List.length_set]; exact hi2
  have ht3 : (M3.t i).sk = (M2.t i).sk ∧ (M3.t i).fr = (M2.t i).fr := by
    have h : M3.t i = { M2.t i with op := (closeF (M2.t i).sk F.base (M2.t i).op.reverse M2.ce).1.reverse } := by rw [hM3]; exact t_setT hi2 _
    rw [h]
    exact ⟨rfl, rfl⟩
  have hl3 : (M3.t i).sk.length = (M.t i).sk.length - 2 := by rw [ht3.1]; exact hl2
  have hf3 : (M3.t i).fr = (M.t i).fr := by rw [ht3.2, ht2]
  obtain ⟨M4, hM4⟩ : ∃ M4, M4 = cutP M3 i F.ret := ⟨_, rfl⟩
  have hi4 : i < M4.th.length := by rw [hM4]; unfold cutP; rw [th_setT]; exact hi3
  have ht4 : M4.t i = { M3.t i with sk := (M3.t i).sk.take F.ret } := by rw [hM4]; exact t_setT hi3 _
  have hl4 : (M4.t i).sk.length ≤ 20000 := by rw [ht4]; simp; omega
  obtain ⟨vs, hvs⟩ : ∃ vs, vs = if F.prot then [boolV true, ⟨vT, vN, vS⟩] else [⟨vT, vN, vS⟩, ⟨wT, wN, wS⟩] := ⟨_, rfl⟩
  obtain ⟨M5, hM5⟩ : ∃ M5, M5 = pushP M4 i vs := ⟨_, rfl⟩
  have hi5 : i < M5.th.length := by rw [hM5]; unfold pushP; rw [th_setT]; exact hi4
  have hf5 : (M5.t i).fr = (M.t i).fr := by
    have : M5.t i = { M4.t i with sk := (M4.t i).sk ++ vs } := by rw [hM5]; exact t_setT hi4 _
    rw [this, ht4]
    exact hf3
  have hfl5 : (M5.t i).fr.length = n + 1 := by rw [hf5]; exact hn
  have HRET : Hid (retP M i = if n = 0 then (killP M2 i, ⟨1, 0, 0, ⟨vT, vN, vS⟩, ⟨wT, wN, wS⟩⟩) else (M5.setT i { M5.t i with fr := (M5.t i).fr.take n }, noEv)) := by
    show retP M i = _
    have e : (if (M.t i).fr.length = 1 then (killP M2 i, (⟨1, 0, 0, ⟨vT, vN, vS⟩, ⟨wT, wN, wS⟩⟩ : Ev)) else (M5.setT i { M5.t i with fr := (M5.t i).fr.take ((M.t i).fr.length - 1) }, noEv)) = retP M i := by
      rw [hM5, hM4, hM3, hM2, hw0, hvs, hv0', hw0, hF]
      rfl
    rw [← e, hn]
    by_cases c : n = 0
    · rw [if_pos (by omega), if_pos c]
    · rw [if_neg (by omega), if_neg c, Nat.add_sub_cancel]
  have hfa2 : (M2.t i).fr[n]? = some F := by rw [ht2]; exact hfa
  have hfa3 : (M3.t i).fr[n]? = some F := by rw [hf3]; exact hfa
  have HFA : Hid ((M2.t i).fr[n]? = some F ∧ (M3.t i).fr[n]? = some F) := ⟨hfa2, hfa3⟩
  have HM : Hid (M2 = dropP (dropP M i) i ∧ M3 = closeP M2 i F.base ∧ M4 = cutP M3 i F.ret ∧ M5 = pushP M4 i vs ∧ vs = (if F.prot then [boolV true, ⟨vT, vN, vS⟩] else [⟨vT, vN, vS⟩, ⟨wT, wN, wS⟩]) ∧ topP M i = ⟨wT, wN, wS⟩ ∧ topP (dropP M i) i = ⟨vT, vN, vS⟩) := ⟨hM2, hM3, hM4, hM5, hvs, hw0.symm, hv0'.symm⟩
  have HR0 := (Rn.start (i := i) HV).alloc zEv
  rw [hc] at HR0
  obtain ⟨own0, hv0, hN0, _⟩ := HR0.vm
  have HP0 := pop_any hv0 hi (by omega) (by omega)
  rw [← hw0, valV_mk] at HP0
  clear HR0 hM2 hM3 hM4 hM5 hvs hw0 hv0' hF ht1 ht2 ht3 ht4 hfa hfa2 hfa3 hf3 hf5 HV hv0
  go_enter Tryz.func91, Tryz.ntmps91
  go_wp2_with fail
  refine HP0.mono ?_; rintro e w1 ⟨rfl, hN⟩
  have HR1 := (hN0 _ _ hN).alloc (vBox wT wN wS)
  clear hN hN0 HP0
  obtain ⟨own1, hv1, hN1, _⟩ := HR1.vm
  have HP1 := pop_any hv1 hi1 (by omega) (by omega)
  rw [HM.out.2.2.2.2.2.2, valV_mk, ← HM.out.1] at HP1
  clear HR1 hv1
  go_wp2_with fail
  refine HP1.mono ?_; rintro e w2 ⟨rfl, hN⟩
  have HR2 := (hN1 _ _ hN).alloc (vBox vT vN vS)
  clear hN hN1 HP1
  have c3 := HR2.frs
  obtain ⟨own2, hv2, hN2, hX2⟩ := HR2.vm
  by_cases hn0 : n = 0
  · have HO : Hid (retP M i = (killP M2 i, ⟨1, 0, 0, ⟨vT, vN, vS⟩, ⟨wT, wN, wS⟩⟩)) := by rw [HRET.out, if_pos hn0]; exact rfl
    have HK := kill_any hv2 hi2 hop2 (by omega) hce2 hok
    clear hv2 hN2
    subst hn0
    simp only [Nat.zero_add] at c3
    go_wp2_with fail
    refine HK.mono ?_; rintro e w3 ⟨rfl, hN⟩
    have HR3 := hX2 _ _ hN
    obtain ⟨e60, e61, e62, e63, e64, e65, e66, e67, e68, z6⟩ := cells9 (HR3.box (b := W.heap.size) (o := zEv) (by simp)).1
    obtain ⟨e70, e71, e72, _⟩ := cells3 (HR3.box (b := w1.heap.size) (o := vBox wT wN wS) (by simp)).1
    obtain ⟨e80, e81, e82, _⟩ := cells3 (HR3.box (b := w2.heap.size) (o := vBox vT vN vS) (by simp)).1
    have l6 := (HR2.box (b := W.heap.size) (o := zEv) (by simp)).2.2.1
    clear hN hX2 HK
    go_wp2_with fail
    refine bodyPost_ret (v := .agg #[.int .i64 1, .int .i64 0, .int .i64 0, .int .i64 vT, .int .u64 (vN : Int), .string ⟨vS.toArray⟩, .int .i64 wT, .int .u64 (wN : Int), .string ⟨wS.toArray⟩]) (by simp [results, go_sem, *]) rfl ?_
    rw [HO.out]
    exact ⟨rfl, (((((((((HR3.weak.put (by simp) _ _).put (by simp) _ _).put (by simp) _ _).put (by simp) _ _).put (by simp) _ _).put (by simp) _ _).put (by simp) _ _).put (by simp) _ _).put (by simp) _ _).nx⟩
  · have HO : Hid (retP M i = (M5.setT i { M5.t i with fr := (M5.t i).fr.take n }, noEv)) := by rw [HRET.out, if_neg hn0]; exact rfl
    obtain ⟨hxx, hfb, hcp, hz, d0, d1, d2, d3, d4, hput⟩ := hv2.frame hi2 c3 HFA.out.1
    have HCL := closeFrom_any hv2 hi2 F.base (by omega) hop2 (by omega) hce2 hok
    rw [← HM.out.2.1] at HCL
    have nn : (((n + 1 : Nat) : Int) == 1) = false := by rw [beq_eq_false_iff_ne]; omega
    clear hxx hput hv2 hok
    go_wp2_with fail
    refine HCL.mono ?_; rintro e w3 ⟨rfl, hN⟩
    have HR3 := hN2 _ _ hN
    clear hN hN2 hX2 HCL
    obtain ⟨own3, hv3, _, _⟩ := HR3.vm
    obtain ⟨sad, scp, s1, s2, s3, _⟩ := hv3.sk hi3
    have c3' := HR3.frs
    obtain ⟨hxx, _, _, _, _, _, _, f3, f4, _⟩ := hv3.frame hi3 c3' (j := n) (f := F) HFA.out.2
    clear hxx hv3
    have hscp : F.ret ≤ scp := by omega
    have HR4 := (HR3.drewN 1).cutSk hi3 s1 F.ret (by omega)
    rw [← HM.out.2.2.1] at HR4
    obtain ⟨e70, e71, e72, _⟩ := cells3 (HR3.box (b := w1.heap.size) (o := vBox wT wN wS) (by simp)).1
    obtain ⟨e80, e81, e82, _⟩ := cells3 (HR3.box (b := w2.heap.size) (o := vBox vT vN vS) (by simp)).1
    obtain ⟨_, _, _, na7, _⟩ := HR3.box (b := w1.heap.size) (o := vBox wT wN wS) (by simp)
    obtain ⟨_, _, _, na8, _⟩ := HR3.box (b := w2.heap.size) (o := vBox vT vN vS) (by simp)
    have na := (HR3.vm.choose_spec.1.fna hi3 c3').1
    have HEND : Hid (∀ w4 q, Rn own W m a nb tp i (some (.slice (some ⟨fb, 0, none⟩) (n + 1) cp)) [(w3.heap.size, q), (w2.heap.size, vBox vT vN vS), (w1.heap.size, vBox wT wN wS), (W.heap.size, zEv)] M5 w4 → Rn own W m a nb tp i ((w4.setCell ⟨a, i * 5 + 3, none⟩ (.slice (some ⟨fb, 0, none⟩) n cp)).cell? ⟨a, i * 5 + 3, none⟩) [(w3.heap.size, q), (w2.heap.size, vBox vT vN vS), (w1.heap.size, vBox wT wN wS), (W.heap.size, zEv)] (M5.setT i { M5.t i with fr := (M5.t i).fr.take n }) (w4.setCell ⟨a, i * 5 + 3, none⟩ (.slice (some ⟨fb, 0, none⟩) n cp)) ∧ w4.frozen? ⟨a, i * 5 + 3, none⟩ = false) := by
      intro w4 q h
      refine ⟨h.cutFr hi5 h.frs n (by omega), ?_⟩
      obtain ⟨_, hh, _⟩ := h.vm
      obtain ⟨vals, L, H⟩ := hh
      exact H.az _
    have hln : n ≤ cp := by omega
    cases hpr : F.prot
    · have hvs : vs = [⟨vT, vN, vS⟩, ⟨wT, wN, wS⟩] := by rw [HM.out.2.2.2.2.1, hpr]; exact if_neg (by simp)
      have HR5 := HR4.allocD (.cells #[.int .i64 vT, .int .u64 (vN : Int), .string ⟨vS.toArray⟩, .int .i64 wT, .int .u64 (wN : Int), .string ⟨wS.toArray⟩] 33)
      obtain ⟨own5, hv5, hN5, _⟩ := HR5.vm
      have HP := push_any hv5 hi4 hl4 _ 0 2 [⟨vT, vN, vS⟩, ⟨wT, wN, wS⟩] (by simp) (vals_newD w3 ⟨a, i * 5 + 2, none⟩ (.slice sad F.ret scp) [⟨vT, vN, vS⟩, ⟨wT, wN, wS⟩])
      rw [show ([⟨vT, vN, vS⟩, ⟨wT, wN, wS⟩] : List V).length = 2 from rfl] at HP
      rw [← hvs, ← HM.out.2.2.2.1] at HP
      rw [hpr] at f4
      clear HR4 HR5 hv5 HR2
      have HL3 : Hid ((M3.t i).sk.length = (M.t i).sk.length - 2) := hl3
      clear hl3 hl2 hl1
      generalize F.ret = fret at *
      generalize (M3.t i).sk.length = sl at *
      go_wp2_with fail
      go_region
      all_goals go_wp2_with fail
      all_goals
        refine HP.mono ?_; rintro e w4 ⟨rfl, hN⟩
        have HR6 := hN5 _ _ hN
        obtain ⟨HR7, g3⟩ := HEND.out _ _ HR6
        have g4 := HR6.frs
        obtain ⟨e60, e61, e62, e63, e64, e65, e66, e67, e68, z6⟩ := cells9 (HR6.box (b := W.heap.size) (o := zEv) (by simp)).1
        obtain ⟨_, _, _, na6, _⟩ := HR6.box (b := W.heap.size) (o := zEv) (by simp)
        clear hN HP hN5 HR3 HR6
        go_wp2_with fail
        go_region
        all_goals go_wp2_with fail
        all_goals
          refine bodyPost_ret (v := .agg #[.int .i64 0, .int .i64 0, .int .i64 0, .int .i64 0, .int .u64 0, .string ⟨#[]⟩, .int .i64 0, .int .u64 0, .string ⟨#[]⟩]) (by simp [results, go_sem, *]) rfl ?_
          rw [HO.out]
          exact ⟨rfl, ((((((((((HR7.weak.put (by simp) _ _).put (by simp) _ _).put (by simp) _ _).put (by simp) _ _).put (by simp) _ _).put (by simp) _ _).put (by simp) _ _).put (by simp) _ _).put (by simp) _ _).below (below_drewN (Below.refl _ _) 1)).nx⟩
    · have hvs : vs = [boolV true, ⟨vT, vN, vS⟩] := by rw [HM.out.2.2.2.2.1, hpr]; exact if_pos rfl
      have HR5 := HR4.allocD (.cells #[.int .i64 1, .int .u64 1, .string ⟨#[]⟩, .int .i64 vT, .int .u64 (vN : Int), .string ⟨vS.toArray⟩] 33)
      obtain ⟨own5, hv5, hN5, _⟩ := HR5.vm
      have HP := push_any hv5 hi4 hl4 _ 0 2 [boolV true, ⟨vT, vN, vS⟩] (by simp) (vals_newD w3 ⟨a, i * 5 + 2, none⟩ (.slice sad F.ret scp) [boolV true, ⟨vT, vN, vS⟩])
      rw [show ([boolV true, ⟨vT, vN, vS⟩] : List V).length = 2 from rfl] at HP
      rw [← hvs, ← HM.out.2.2.2.1] at HP
      rw [hpr] at f4
      clear HR4 HR5 hv5 HR2
      have HL3 : Hid ((M3.t i).sk.length = (M.t i).sk.length - 2) := hl3
      clear hl3 hl2 hl1
      generalize F.ret = fret at *
      generalize (M3.t i).sk.length = sl at *
      go_wp2_with fail
      go_region
      all_goals go_wp2_with fail
      all_goals
        refine HP.mono ?_; rintro e w4 ⟨rfl, hN⟩
        have HR6 := hN5 _ _ hN
        obtain ⟨HR7, g3⟩ := HEND.out _ _ HR6
        have g4 := HR6.frs
        obtain ⟨e60, e61, e62, e63, e64, e65, e66, e67, e68, z6⟩ := cells9 (HR6.box (b := W.heap.size) (o := zEv) (by simp)).1
        obtain ⟨_, _, _, na6, _⟩ := HR6.box (b := W.heap.size) (o := zEv) (by simp)
        clear hN HP hN5 HR3 HR6
        go_wp2_with fail
        go_region
        all_goals go_wp2_with fail
        all_goals
          refine bodyPost_ret (v := .agg #[.int .i64 0, .int .i64 0, .int .i64 0, .int .i64 0, .int .u64 0, .string ⟨#[]⟩, .int .i64 0, .int .u64 0, .string ⟨#[]⟩]) (by simp [results, go_sem, *]) rfl ?_
          rw [HO.out]
          exact ⟨rfl, ((((((((((HR7.weak.put (by simp) _ _).put (by simp) _ _).put (by simp) _ _).put (by simp) _ _).put (by simp) _ _).put (by simp) _ _).put (by simp) _ _).put (by simp) _ _).put (by simp) _ _).below (below_drewN (Below.refl _ _) 1)).nx⟩
end Go.Proofs.Qxb6500293aGreatRR
