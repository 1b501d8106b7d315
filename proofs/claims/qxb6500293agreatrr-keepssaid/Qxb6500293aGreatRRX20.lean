/-
  unwind walked.
-/
import Derived.Test.Qxb6500293aGreatRRX19
namespace Go.Proofs.Qxb6500293aGreatRR
open Go.RowKit
set_option linter.unusedVariables false
set_option linter.unusedSimpArgs false

theorem Rn.allocW {own : Nat → Nat} {W w : World} {m a nb tp i : Nat} {fs : Option Value} {B : List (Nat × Obj)} {M : Mc} (h : Rn own W m a nb tp i fs B M w.drew) (o : Obj) {n : Nat} (hn : w.heap.size = n) : Rn own W m a nb tp i fs ((n, o) :: B) M ((w.alloc o).drew) := by
  subst hn
  exact h.alloc o
theorem vals_newW (w : World) {n : Nat} (hn : w.heap.size = n) (vs : List V) : ∀ j u, (vs.flatMap valC)[j]? = some u → ((w.alloc (.cells (vs.flatMap valC).toArray 33)).drew).cell? ((⟨n, 0, none⟩ : Addr).add j) = some u := by
  subst hn
  exact vals_new w vs
set_option maxRecDepth 8000 in
set_option maxHeartbeats 3200000 in
theorem unwind_any {own : Nat → Nat} {W : World} {m a nb tp : Nat} {M : Mc} (HV : Vm own W m a nb tp M) {i : Nat} (hi : i < M.th.length) {fb n cp : Nat} (hc : W.cell? ⟨a, i * 5 + 3, none⟩ = some (.slice (some ⟨fb, 0, none⟩) (n + 1) cp)) (hn : (M.t i).fr.length = n + 1) (hn9 : n ≤ 100) (hsk : (M.t i).sk.length ≤ 10000)
    (hop : (M.t i).op.length ≤ 10000) (hce : M.ce.length ≤ 100000) (hok : OpOk M i) (hfrm : ∀ (j : Nat) (f : Fr), (M.t i).fr[j]? = some f → f.base ≤ 100000 ∧ f.ret ≤ (M.t i).sk.length) (v : V) :
    Calls Tryz.prog 76 #[.pointer (some ⟨m, 0, none⟩), .pointer (some ⟨a, i * 5, none⟩), valV v] W fun e W' => e = .returned (.tuple #[evV (unwP M i v).2.1, .bool (unwP M i v).2.2]) ∧ Nx own W m a nb tp (unwP M i v).1 W' := by
  obtain ⟨vT, vN, vS⟩ := v
  have HR0 := ((Rn.start (i := i) HV).alloc (vBox vT vN vS)).alloc zEv
  rw [hc] at HR0
  have e1 : (W.alloc (vBox vT vN vS)).heap.size = W.heap.size + 1 := by simp
  rw [e1] at HR0
  obtain ⟨W0, hW0⟩ : ∃ W0, W0 = (W.alloc (vBox vT vN vS)).alloc zEv := ⟨_, rfl⟩
  rw [← hW0] at HR0
  have HUW : Hid (unwF M i ⟨vT, vN, vS⟩ n = unwP M i ⟨vT, vN, vS⟩) := by show _ = _; unfold unwP; rw [hn, Nat.add_sub_cancel]
  have HFR : Hid (∀ j, j ≤ n → ∃ f, (M.t i).fr[j]? = some f ∧ f.base ≤ 100000 ∧ f.ret ≤ (M.t i).sk.length) := by
    intro j hj
    obtain ⟨f, hf⟩ : ∃ f, (M.t i).fr[j]? = some f := ⟨_, List.getElem?_eq_getElem (by omega)⟩
    exact ⟨f, hf, hfrm j f hf⟩
  have HW0 : Hid (W0 = (W.alloc (vBox vT vN vS)).alloc zEv) := hW0
  have HOK : Hid (OpOk M i) := hok
  have c30 := HR0.frs
  have c31 := c30
  rw [hW0] at c31
  have na0 : ¬ a = W.heap.size := by have := HV.alt; omega
  have na1 : ¬ a = W.heap.size + 1 := by have := HV.alt; omega
  rw [valV_mk]
  clear hok hfrm HV hn hW0
  go_enter Tryz.func76, Tryz.ntmps76
  go_wp2_with fail
  go_loopw [8] (fun j wr => ∃ k : Nat, j = .int .i64 (k : Int) ∧ k ≤ n ∧ Hid (wr = (W.alloc (vBox vT vN vS)).alloc zEv) ∧ Hid (unwF M i ⟨vT, vN, vS⟩ k = unwP M i ⟨vT, vN, vS⟩)) (fun j _ => (intOf j).toNat)
  case atStart => exact ⟨n, by go_num, Nat.le_refl _, rfl, HUW⟩
  case round =>
    obtain ⟨k, rfl, hk, HWR, HU⟩ := hrel
    have hwr : wr = W0 := HWR.out.trans HW0.out.symm
    subst hwr
    obtain ⟨own0, hv0, hN0, hX0⟩ := HR0.vm
    by_cases hk0 : k = 0
    · have HO : Hid (unwP M i ⟨vT, vN, vS⟩ = (killP M i, ⟨2, 0, 0, ⟨vT, vN, vS⟩, nilV⟩, true)) := by rw [← HU.out, hk0]; exact rfl
      have HK := kill_any hv0 hi hop (by omega) hce HOK.out
      subst hk0
      clear hv0 hN0
      go_wp2_with fail
      refine HK.mono ?_; rintro e w3 ⟨rfl, hN⟩
      have HR3 := hX0 _ _ hN
      obtain ⟨e60, e61, e62, e63, e64, e65, e66, e67, e68, z6⟩ := cells9 (HR3.box (b := W.heap.size + 1) (o := zEv) (by simp)).1
      obtain ⟨e70, e71, e72, _⟩ := cells3 (HR3.box (b := W.heap.size) (o := vBox vT vN vS) (by simp)).1
      clear hN hX0 HK
      go_wp2_with fail
      refine bodyPost_ret (v := .tuple #[.agg #[.int .i64 2, .int .i64 0, .int .i64 0, .int .i64 vT, .int .u64 (vN : Int), .string ⟨vS.toArray⟩, .int .i64 0, .int .u64 0, .string ⟨#[]⟩], .bool true]) (by simp [results, go_sem, *]) rfl ?_
      rw [HO.out]
      exact ⟨rfl, (((((((((HR3.weak.put (by simp) _ _).put (by simp) _ _).put (by simp) _ _).put (by simp) _ _).put (by simp) _ _).put (by simp) _ _).put (by simp) _ _).put (by simp) _ _).put (by simp) _ _).nx⟩
    · obtain ⟨F, hF, hFb, hFr⟩ := HFR.out k hk
      obtain ⟨hxx, hfb, hcp, hz, d0, d1, d2, d3, d4, hput⟩ := hv0.frame hi c30 hF
      have dk : decide ((k : Int) > 0) = true := decide_eq_true (by omega)
      clear hxx hput
      cases hpr : F.prot
      · have HU2 : Hid (unwF M i ⟨vT, vN, vS⟩ (k - 1) = unwP M i ⟨vT, vN, vS⟩) := by
          show _ = _
          rw [← HU.out]
          obtain ⟨k', rfl⟩ : ∃ k', k = k' + 1 := ⟨k - 1, by omega⟩
          rw [Nat.add_sub_cancel]
          show _ = (if ((M.t i).fr[k' + 1]?.getD dF).prot then _ else _)
          rw [hF]
          show _ = (if F.prot = true then _ else _)
          rw [hpr]
          exact (if_neg (by simp)).symm
        rw [hpr] at d4
        clear hv0 hN0 hX0 hF
        go_wp2_with fail
        go_roundw
        case rel => exact ⟨k - 1, by go_num, by omega, HWR, HU2⟩
        case measure => simp [intOf]; omega
      · obtain ⟨M3, hM3⟩ : ∃ M3, M3 = closeP M i F.base := ⟨_, rfl⟩
        have hi3 : i < M3.th.length := by rw [hM3]; show i < (M.th.set i _).length; rw [List.length_set]; exact hi
        have ht3 : (M3.t i).sk = (M.t i).sk ∧ (M3.t i).fr = (M.t i).fr := by
          have h : M3.t i = { M.t i with op := (closeF (M.t i).sk F.base (M.t i).op.reverse M.ce).1.reverse } := by rw [hM3]; exact t_setT hi _
          rw [h]
          exact ⟨rfl, rfl⟩
        obtain ⟨M4, hM4⟩ : ∃ M4, M4 = cutP M3 i F.ret := ⟨_, rfl⟩
        have hi4 : i < M4.th.length := by rw [hM4]; unfold cutP; rw [th_setT]; exact hi3
        have ht4 : M4.t i = { M3.t i with sk := (M3.t i).sk.take F.ret } := by rw [hM4]; exact t_setT hi3 _
        obtain ⟨M5, hM5⟩ : ∃ M5, M5 = M4.setT i { M4.t i with fr := (M4.t i).fr.take k } := ⟨_, rfl⟩
        have hi5 : i < M5.th.length := by rw [hM5, th_setT]; exact hi4
        have ht5 : M5.t i = { M4.t i with fr := (M4.t i).fr.take k } := by rw [hM5]; exact t_setT hi4 _
        have hl5 : (M5.t i).sk.length ≤ 20000 := by rw [ht5, ht4]; simp; rw [ht3.1]; omega
        have hfl4 : k ≤ (M4.t i).fr.length := by
          rw [ht4]
          show k ≤ (M3.t i).fr.length
          rw [ht3.2]
          have := (List.getElem?_eq_some_iff.1 hF).1
          omega
        have HO : Hid (unwP M i ⟨vT, vN, vS⟩ = (pushP M5 i [boolV false, ⟨vT, vN, vS⟩], noEv, false)) := by
          show _ = _
          rw [← HU.out]
          obtain ⟨k', rfl⟩ : ∃ k', k = k' + 1 := ⟨k - 1, by omega⟩
          show (if ((M.t i).fr[k' + 1]?.getD dF).prot then _ else _) = _
          rw [hF]
          show (if F.prot = true then _ else _) = _
          rw [hpr, if_pos rfl]
          show ((closeP M i F.base).setT i { (closeP M i F.base).t i with sk := ((closeP M i F.base).t i).sk.take F.ret ++ [boolV false, ⟨vT, vN, vS⟩], fr := ((closeP M i F.base).t i).fr.take (k' + 1) }, noEv, false) = _
          rw [← hM3]
          unfold pushP
          rw [ht5, hM5, setT_setT, ht4, hM4]
          unfold cutP
          rw [setT_setT]
        have HCL := closeFrom_any hv0 hi F.base (by omega) hop (by omega) hce HOK.out
        rw [← hM3] at HCL
        have hf3 : (M3.t i).fr[k]? = some F := by rw [ht3.2]; exact hF
        have hl3 : F.ret ≤ (M3.t i).sk.length := by rw [ht3.1]; exact hFr
        have HM : Hid (M4 = cutP M3 i F.ret ∧ M5 = M4.setT i { M4.t i with fr := (M4.t i).fr.take k } ∧ (M3.t i).fr[k]? = some F) := ⟨hM4, hM5, hf3⟩
        rw [hpr] at d4
        have hret9 : F.ret ≤ 10000 := by omega
        clear hv0 hX0 hF hM3 hM4 hM5 ht3 ht4 ht5 hf3
        go_wp2_with fail
        refine HCL.mono ?_; rintro e w3 ⟨rfl, hN⟩
        have HR3 := hN0 _ _ hN
        clear hN hN0 HCL
        obtain ⟨own3, hv3, _, _⟩ := HR3.vm
        obtain ⟨sad, scp, s1, s2, s3, _⟩ := hv3.sk hi3
        have c3' := HR3.frs
        obtain ⟨hxx, _, _, _, _, _, _, f3, f4, _⟩ := hv3.frame hi3 c3' (j := k) (f := F) HM.out.2.2
        have na := (hv3.fna hi3 c3').1
        have fz3 : w3.frozen? ⟨a, i * 5 + 3, none⟩ = false := by obtain ⟨vals, L, H⟩ := hv3; exact H.az _
        clear hxx hv3
        have hscp : F.ret ≤ scp := by omega
        have HR4 := (HR3.drewN 1).cutSk hi3 s1 F.ret hl3
        rw [← HM.out.1] at HR4
        have HR5 := HR4.cutFr hi4 HR4.frs k hfl4
        rw [← HM.out.2.1] at HR5
        have HR5 : Rn own W m a nb tp i _ _ M5 ((w3.setCell ⟨a, i * 5 + 2, none⟩ (.slice sad F.ret scp)).setCell ⟨a, i * 5 + 3, none⟩ (.slice (some ⟨fb, 0, none⟩) k cp)).drew := HR5
        have HR6 := HR5.allocW (.cells #[.int .i64 1, .int .u64 0, .string ⟨#[]⟩, .int .i64 vT, .int .u64 (vN : Int), .string ⟨vS.toArray⟩] 33) (n := w3.heap.size) (by simp only [size_set])
        obtain ⟨own6, hv6, _, hX6⟩ := HR6.vm
        have HP := push_any hv6 hi5 hl5 _ 0 2 [boolV false, ⟨vT, vN, vS⟩] (by simp) (vals_newW ((w3.setCell ⟨a, i * 5 + 2, none⟩ (.slice sad F.ret scp)).setCell ⟨a, i * 5 + 3, none⟩ (.slice (some ⟨fb, 0, none⟩) k cp)) (n := w3.heap.size) (by simp only [size_set]) [boolV false, ⟨vT, vN, vS⟩])
        rw [show ([boolV false, ⟨vT, vN, vS⟩] : List V).length = 2 from rfl] at HP
        clear HR4 HR5 HR6 hv6
        obtain ⟨e70, e71, e72, _⟩ := cells3 (HR3.box (b := W.heap.size) (o := vBox vT vN vS) (by simp)).1
        obtain ⟨_, _, _, na7, _⟩ := HR3.box (b := W.heap.size) (o := vBox vT vN vS) (by simp)
        have hln : k ≤ cp := by omega
        generalize F.ret = fret at *
        generalize (M3.t i).sk.length = sl at *
        go_wp2_with fail
        go_region
        all_goals go_wp2_with fail
        all_goals
          refine HP.mono ?_; rintro e w4 ⟨rfl, hN⟩
          have HR7 := hX6 _ _ hN.1
          obtain ⟨e60, e61, e62, e63, e64, e65, e66, e67, e68, z6⟩ := cells9 (HR7.box (b := W.heap.size + 1) (o := zEv) (by simp)).1
          clear hN hX6 HP
          go_wp2_with fail
          refine bodyPost_ret (v := .tuple #[.agg #[.int .i64 0, .int .i64 0, .int .i64 0, .int .i64 0, .int .u64 0, .string ⟨#[]⟩, .int .i64 0, .int .u64 0, .string ⟨#[]⟩], .bool false]) (by simp [results, go_sem, *]) rfl ?_
          rw [HO.out]
          exact ⟨rfl, (((((((((HR7.weak.put (by simp) _ _).put (by simp) _ _).put (by simp) _ _).put (by simp) _ _).put (by simp) _ _).put (by simp) _ _).put (by simp) _ _).put (by simp) _ _).put (by simp) _ _).nx⟩
end Go.Proofs.Qxb6500293aGreatRR
