import Derived.Test.Qxb6500292aD1
namespace Go.Proofs.Qxb6500292a
open Go.RowKit
open Ieee (double)
set_option linter.unusedVariables false
set_option linter.unusedSimpArgs false

set_option maxRecDepth 8000 in
set_option maxHeartbeats 3200000 in
theorem do8_r (own : Nat → Nat) (x rb : Nat) (st : List Tbl) (k v : V) (K A B C : Int) (S T : List UInt8) (w : World) (H : RS own w x st) (hG : GoodSt st) (hR : RegAt w rb k v) (hc : own rb = 200) (hk : k.Ok) (hv : v.Ok) (hK : K = 8) :
    Calls Try.prog 13 #[.pointer (some ⟨x, 0, none⟩), .pointer (some ⟨rb, 0, none⟩), opV K A B C S T] w fun e w' => e = .returned (ansV (doP st k v K A B S).E (doP st k v K A B S).N (doP st k v K A B S).Z) ∧ DoEndr own w x rb (doP st k v K A B S) w' := by
  have HB1 : Hid (Below w.heap.size w (doW w K A B C S T)) := doW_below _ _ _ _ _ _ _
  have HS1 : Hid ((doW w K A B C S T).heap.size = w.heap.size + 3) := doW_size _ _ _ _ _ _ _
  have HD1 : Hid (DB w (doW w K A B C S T) K A B C S T) := DB.new _ _ _ _ _ _ _
  have HP1 : Hid (RS (cut own w.heap.size) (doW w K A B C S T) x st) := H.kept HB1.out.size (fun k hk _ _ => HB1.out.block k hk) (fun k hk => cut_low hk)
  have HR : Hid (RegAt w rb k v) := hR
  have hlt := hR.lt
  have n0 : ¬ rb = w.heap.size := by omega
  have n1 : ¬ rb = w.heap.size + 1 := by omega
  have n2 : ¬ rb = w.heap.size + 1 + 1 := by omega
  have n3 : ¬ rb = w.heap.size + 1 + 1 + 1 := by omega
  have n4 : ¬ rb = w.heap.size + 1 + 1 + 1 + 1 := by omega
  have m1 : ¬ w.heap.size + 1 = rb := by omega
  have m2 : ¬ w.heap.size + 1 + 1 = rb := by omega
  have HFIN : Hid (∀ o : Out, doP st k v K A B S = o → o.k = k → o.v = v → ∀ w2 wf, REnd (cut own w.heap.size) (doW w K A B C S T) x o.st w2 → Apt w.heap.size none w2 wf → DoEndr own w x rb (doP st k v K A B S) wf) := by
    rintro o he rfl rfl w2 wf hE hA
    rw [he]
    exact fin_r HB1.out HS1.out hE hA (fun r e => by cases e) (reg_r HB1.out hE hA hR hc)
  have HFIN2 : Hid (∀ o : Out, doP st k v K A B S = o → ∀ w2 wf, REnd (cut own w.heap.size) (doW w K A B C S T) x o.st w2 → Apt w.heap.size (some rb) w2 wf → RegAt wf rb o.k o.v → DoEndr own w x rb (doP st k v K A B S) wf) := by
    rintro o he w2 wf hE hA hreg
    rw [he]
    exact fin_r HB1.out HS1.out hE hA (fun r e => by cases e; exact ⟨hR.lt, hc⟩) hreg
  have HSAME : Hid (∀ w2, Below (doW w K A B C S T).heap.size (doW w K A B C S T) w2 → REnd (cut own w.heap.size) (doW w K A B C S T) x st w2) := fun w2 hb => REnd.same HP1.out hb
  rw [opV_mk]
  have hreg1 : RegAt (doW w K A B C S T) rb k v := hR.same (HB1.out.block rb hlt)
  obtain ⟨⟨k0, k1, k2⟩, ⟨v0, v1, v2⟩, fzr⟩ := hreg1.cells
  have z0 := fzr 0
  have z1 := fzr 1
  have z2 := fzr 2
  obtain ⟨⟨kw0, kw1, kw2⟩, ⟨vw0, vw1, vw2⟩, _⟩ := hR.cells
  have CN := fun W hW => rnext (cut own w.heap.size) x st A k W (HP1.out.below hW) hG hk
  have hgo := nextP_ok hG A k
  subst hK
  have HO : Hid (doP st k v 8 A B S = ⟨(nextP st A k).2.2, 0, pairV (nextP st A k).1 (nextP st A k).2.1, st, k, v⟩) := rfl
  generalize nextP st A k = gp at *
  obtain ⟨gk, gv, ge⟩ := gp
  have CPR := fun w => pair_any gk gv w hgo.1 hgo.2
  simp only at CN HO
  have HR : Hid (RegAt w rb k v) := hR
  obtain ⟨kT, kN, kS⟩ := k
  obtain ⟨gT, gN, gS⟩ := gk
  obtain ⟨hT, hN, hS⟩ := gv
  simp only [valV_mk] at *
  generalize pairV ⟨gT, gN, gS⟩ ⟨hT, hN, hS⟩ = sv at *
  have HCN : Hid (∀ W, Below (doW w 8 A B C S T).heap.size (doW w 8 A B C S T) W → _) := CN
  have HKC : Hid ((doW w 8 A B C S T).cell? ⟨rb, 0, none⟩ = some (.int .i64 kT) ∧ (doW w 8 A B C S T).cell? ⟨rb, 1, none⟩ = some (.int .u64 kN) ∧ (doW w 8 A B C S T).cell? ⟨rb, 2, none⟩ = some (.string ⟨kS.toArray⟩) ∧ (doW w 8 A B C S T).cell? ⟨w.heap.size, 1, none⟩ = some (.int .i64 A)) := ⟨k0, k1, k2, HD1.out.cells.1.2⟩
  clear H hR hc hk hv hreg1 fzr CN hgo k0 k1 k2 v0 v1 v2 kw0 kw1 kw2 vw0 vw1 vw2 z0 z1 z2
  go_enter Try.func13, Try.ntmps13
  go_upto_region 21 with fail
  obtain ⟨W0, hW0⟩ : ∃ W0, ((w.alloc (oOp 8 A B C S T)).alloc oZ).alloc oZ = W0 := ⟨_, rfl⟩
  rw [hW0]
  rw [show doW w 8 A B C S T = W0 from hW0] at HKC HB1 HS1 HD1 HP1 HFIN HFIN2 HSAME HCN
  clear hW0
  obtain ⟨K0, K1, K2, K3⟩ := HKC.out
  go_cut [10, 11, 12] from 13 (fun p q e wx => e = .int .i64 ge ∧ ∃ b b', p = .pointer (some ⟨b, 0, none⟩) ∧ q = .pointer (some ⟨b', 0, none⟩) ∧ ((wx.cell? ⟨b, 0, none⟩ = some (.int .i64 gT) ∧ wx.cell? ⟨b, 1, none⟩ = some (.int .u64 gN) ∧ wx.cell? ⟨b, 2, none⟩ = some (.string ⟨gS.toArray⟩)) ∧ (wx.cell? ⟨b', 0, none⟩ = some (.int .i64 hT) ∧ wx.cell? ⟨b', 1, none⟩ = some (.int .u64 hN) ∧ wx.cell? ⟨b', 2, none⟩ = some (.string ⟨hS.toArray⟩))) ∧ (W0.heap.size ≤ b ∧ W0.heap.size ≤ b') ∧ Hid (Below W0.heap.size W0 wx))
  case first =>
    have hrb0 : rb < W0.heap.size := by rw [HS1.out]; omega
    have hno0 : w.heap.size < W0.heap.size := by rw [HS1.out]; omega
    have nr0 : ¬ rb = W0.heap.size := by omega
    have nr1 : ¬ rb = W0.heap.size + 1 := by omega
    have nn0 : ¬ w.heap.size = W0.heap.size := by omega
    have nn1 : ¬ w.heap.size = W0.heap.size + 1 := by omega
    have HBW0 : Hid (Below W0.heap.size W0 W0.drew) := Below.drew (Below.refl _ _)
    have HBW1 : Hid (Below W0.heap.size W0 (W0.alloc (.cells #[.int .i64 0, .int .u64 0, .string ⟨#[]⟩] 42)).drew) := Below.drew (below_one _ _)
    have HBW2 : Hid (Below W0.heap.size W0 ((W0.alloc (.cells #[.int .i64 0, .int .u64 0, .string ⟨#[]⟩] 42)).alloc (.cells #[.int .i64 0, .int .u64 0, .string ⟨#[]⟩] 42)).drew) := Below.drew (below_two (below_one _ _) (below_one _ _))
    have HZ1 : Hid (∀ w2, Below (W0.alloc (.cells #[.int .i64 0, .int .u64 0, .string ⟨#[]⟩] 42)).drew.heap.size (W0.alloc (.cells #[.int .i64 0, .int .u64 0, .string ⟨#[]⟩] 42)).drew w2 → VB w2 W0.heap.size nilV) := fun w2 hb => VB.below (w := (W0.alloc (.cells #[.int .i64 0, .int .u64 0, .string ⟨#[]⟩] 42)).drew) (VB.new W0 nilV) hb
    have HZ2 : Hid (∀ w2, Below ((W0.alloc (.cells #[.int .i64 0, .int .u64 0, .string ⟨#[]⟩] 42)).alloc (.cells #[.int .i64 0, .int .u64 0, .string ⟨#[]⟩] 42)).drew.heap.size ((W0.alloc (.cells #[.int .i64 0, .int .u64 0, .string ⟨#[]⟩] 42)).alloc (.cells #[.int .i64 0, .int .u64 0, .string ⟨#[]⟩] 42)).drew w2 → VB w2 W0.heap.size nilV ∧ VB w2 (W0.heap.size + 1) nilV) := fun w2 hb => ⟨VB.below (w := ((W0.alloc (.cells #[.int .i64 0, .int .u64 0, .string ⟨#[]⟩] 42)).alloc (.cells #[.int .i64 0, .int .u64 0, .string ⟨#[]⟩] 42)).drew) (two_new W0 nilV nilV).1 hb, VB.below (w := ((W0.alloc (.cells #[.int .i64 0, .int .u64 0, .string ⟨#[]⟩] 42)).alloc (.cells #[.int .i64 0, .int .u64 0, .string ⟨#[]⟩] 42)).drew) (two_new W0 nilV nilV).2 hb⟩
    clear HFIN HFIN2 HO HR HB1 HD1 HP1 HSAME HS1 HKC CPR n0 n1 n2 n3 n4 m1 m2
    go_region_with (go_at_call 34; refine (HCN.out _ (by first | with_reducible exact HBW0.out | with_reducible exact HBW1.out | with_reducible exact HBW2.out)).mono ?_; rintro e w2 ⟨rfl, hb⟩; have HB2 : Hid (Below W0.heap.size W0 w2) := (below_two (by first | with_reducible exact HBW0.out | with_reducible exact HBW1.out | with_reducible exact HBW2.out) hb); have hsz2 := HB2.out.size; have t0 := (HB2.out.cell (p := ⟨rb, 0, none⟩) hrb0).trans K0; have t1 := (HB2.out.cell (p := ⟨rb, 1, none⟩) hrb0).trans K1; have t2 := (HB2.out.cell (p := ⟨rb, 2, none⟩) hrb0).trans K2; have t3 := (HB2.out.cell (p := ⟨w.heap.size, 1, none⟩) hno0).trans K3; first | (with_reducible have hz := HZ2.out w2 hb; have l1 := hz.1.lt; have l2 := hz.2.lt; have ne1 : ¬ W0.heap.size = w2.heap.size := (by omega); have ne2 : ¬ W0.heap.size + 1 = w2.heap.size := (by omega); obtain ⟨ya0, ya1, ya2, yb0, yb1, yb2⟩ := hz.1.cells; obtain ⟨yc0, yc1, yc2, yd0, yd1, yd2⟩ := hz.2.cells; clear hz hb) | (with_reducible have hz := HZ1.out w2 hb; have l1 := hz.lt; have ne1 : ¬ W0.heap.size = w2.heap.size := (by omega); obtain ⟨ya0, ya1, ya2, yb0, yb1, yb2⟩ := hz.cells; clear hz hb) | clear hb)
    all_goals
      go_wp2_with fail
      go_meet
      case rel => exact ⟨rfl, _, _, rfl, rfl, by simp [go_sem, *], ⟨by omega, by omega⟩, (by show Below _ _ _; repeat (first | with_reducible exact HB2.out | refine Below.setCell ?_ (by dsimp only; omega) _ | refine Below.alloc ?_ (by first | omega | (simp; omega)) _))⟩
  case rest =>
    obtain ⟨rfl, b, b', rfl, rfl, ⟨⟨g0, g1, g2⟩, h0, h1, h2⟩, ⟨hb2, hb3⟩, HX⟩ := hcut
    rw [HS1.out] at hb2 hb3
    have hbl : b < wc.heap.size := cell_lt g0
    obtain ⟨⟨o0, o1⟩, ⟨r0, r1, r2, r3, r4⟩, ⟨a0, a1, a2, a3, a4⟩, ⟨fr0, fr1, fr2, fr3, fr4⟩, fa0, fa1, fa3⟩ := (HD1.out.below HX.out).cells
    have c1 : ¬ b = w.heap.size + 1 + 1 := by omega
    have c2 : ¬ w.heap.size + 1 + 1 = b := by omega
    have c3 : ¬ b = w.heap.size + 1 := by omega
    have c4 : ¬ b' = w.heap.size + 1 + 1 := by omega
    have HDX : Hid (DB w wc 8 A B C S T) := HD1.out.below HX.out
    have HG : Hid (wc.cell? ⟨b, 0, none⟩ = some (.int .i64 gT) ∧ wc.cell? ⟨b, 1, none⟩ = some (.int .u64 gN) ∧ wc.cell? ⟨b, 2, none⟩ = some (.string ⟨gS.toArray⟩)) := ⟨g0, g1, g2⟩
    clear K0 K1 K2 K3
    go_wp2_with fail
    refine (CPR _).mono ?_; rintro e w4 ⟨rfl, hb4⟩
    obtain ⟨W3, hW3⟩ : ∃ W3, W3 = wc.setCell ⟨w.heap.size + 1 + 1, 0, none⟩ (.int .i64 ge) := ⟨_, rfl⟩
    rw [← hW3] at hb4
    have hA4 : Apt w.heap.size none wc w4 := Apt.below (by rw [hW3]; exact (Apt.refl _ _ _).set _ (.inl (by dsimp only; omega))) hb4
    have hcl := doAns w wc W3 w4 HDX.out hW3 hb4
    have hop := doOp w wc W3 w4 HDX.out hW3 hb4
    have gg : ∀ j u, wc.cell? ⟨b, j, none⟩ = some u → w4.cell? ⟨b, j, none⟩ = some u := fun j u hu => (hb4.cell (p := ⟨b, j, none⟩) (by rw [hW3]; simpa using hbl)).trans (by rw [hW3, World.cell?_setCell_other _ _ _ _ (by intro e; injection e; omega)]; exact hu)
    have g0' := gg 0 _ HG.out.1
    have g1' := gg 1 _ HG.out.2.1
    have g2' := gg 2 _ HG.out.2.2
    have hrg : RegAt w4 rb ⟨kT, kN, kS⟩ v := HR.out.same ((hA4.block rb (by have := HX.out.size; have := HS1.out; omega) (by simp) (.inl hlt)).trans ((HX.out.block rb (by have := HS1.out; omega)).trans (HB1.out.block rb hlt)))
    obtain ⟨⟨k0, k1, k2⟩, ⟨v0, v1, v2⟩, fzr⟩ := hrg.cells
    have z0 := fzr 0
    have z1 := fzr 1
    have z2 := fzr 2
    obtain ⟨⟨q0, q1, q2, q3, q4⟩, ⟨s0, s1, s2, s3, s4⟩, ⟨fq0, fq1, fq2, fq3, fq4⟩, fs3⟩ := hcl
    have HA4 : Hid (Apt w.heap.size none wc w4) := hA4
    have HRG : Hid (RegAt w4 rb ⟨kT, kN, kS⟩ v) := hrg
    clear hb4 hA4 hW3 r0 r1 r2 r3 r4 a0 a1 a2 a3 a4 fr0 fr1 fr2 fr3 fr4 fa0 fa1 fa3 g0 g1 g2 h0 h1 h2 CPR hrg fzr gg o0 o1
    go_wp2
    refine bodyPost_ret (v := .agg #[.int .i64 ge, .int .i64 0, .int .i64 0, .string ⟨sv.toArray⟩, .string ⟨#[]⟩]) (by simp [results, go_sem, q0, q1, q2, q3, q4, n1, m1]) rfl ?_
    refine ⟨by rw [HO.out]; rfl, ?_⟩
    refine HFIN.out _ HO.out rfl rfl _ _ (HSAME.out _ HX.out) ?_
    repeat (refine Apt.set ?_ _ (.inl (by dsimp only; omega)))
    exact HA4.out

end Go.Proofs.Qxb6500292a
