import Derived.Test.Qxb6500292aR2
namespace Go.Proofs.Qxb6500292a
open Go.RowKit
open Ieee (double)
set_option linter.unusedVariables false
set_option linter.unusedSimpArgs false

theorem two_new (w : World) (a b : V) : VB ((w.alloc (.cells #[.int .i64 a.T, .int .u64 a.N, .string ⟨a.S.toArray⟩] 42)).alloc (.cells #[.int .i64 b.T, .int .u64 b.N, .string ⟨b.S.toArray⟩] 42)) w.heap.size a ∧ VB ((w.alloc (.cells #[.int .i64 a.T, .int .u64 a.N, .string ⟨a.S.toArray⟩] 42)).alloc (.cells #[.int .i64 b.T, .int .u64 b.N, .string ⟨b.S.toArray⟩] 42)) (w.heap.size + 1) b := by
  obtain ⟨h1, h2, _⟩ := two_vals (w := w) (k := a) (z := b) (Below.refl _ _)
  exact ⟨h1, h2⟩
theorem cell_lt {w : World} {b j : Nat} {u : Value} (h : w.cell? ⟨b, j, none⟩ = some u) : b < w.heap.size := by
  unfold World.cell? at h
  simp only at h
  rcases Nat.lt_or_ge b w.heap.size with c | c
  · exact c
  · rw [Array.getElem?_eq_none c] at h
    cases h
theorem VB.lt {w : World} {b : Nat} {v : V} (h : VB w b v) : b < w.heap.size := (Array.getElem?_eq_some_iff.1 h).1
/-- The answer's box behind its first store. -/
theorem doAns (w W W3 w4 : World) {K A B C ge : Int} {S T : List UInt8} (h : DB w W K A B C S T) (hW : W3 = W.setCell ⟨w.heap.size + 1 + 1, 0, none⟩ (.int .i64 ge)) (hb : Below W3.heap.size W3 w4) :
    (w4.cell? ⟨w.heap.size + 1, 0, none⟩ = some (.int .i64 0) ∧ w4.cell? ⟨w.heap.size + 1, 1, none⟩ = some (.int .i64 0) ∧ w4.cell? ⟨w.heap.size + 1, 2, none⟩ = some (.int .i64 0) ∧ w4.cell? ⟨w.heap.size + 1, 3, none⟩ = some (.string ⟨#[]⟩) ∧ w4.cell? ⟨w.heap.size + 1, 4, none⟩ = some (.string ⟨#[]⟩)) ∧
    (w4.cell? ⟨w.heap.size + 1 + 1, 0, none⟩ = some (.int .i64 ge) ∧ w4.cell? ⟨w.heap.size + 1 + 1, 1, none⟩ = some (.int .i64 0) ∧ w4.cell? ⟨w.heap.size + 1 + 1, 2, none⟩ = some (.int .i64 0) ∧ w4.cell? ⟨w.heap.size + 1 + 1, 3, none⟩ = some (.string ⟨#[]⟩) ∧ w4.cell? ⟨w.heap.size + 1 + 1, 4, none⟩ = some (.string ⟨#[]⟩)) ∧
    (w4.frozen? ⟨w.heap.size + 1, 0, none⟩ = false ∧ w4.frozen? ⟨w.heap.size + 1, 1, none⟩ = false ∧ w4.frozen? ⟨w.heap.size + 1, 2, none⟩ = false ∧ w4.frozen? ⟨w.heap.size + 1, 3, none⟩ = false ∧ w4.frozen? ⟨w.heap.size + 1, 4, none⟩ = false) ∧
    w4.frozen? ⟨w.heap.size + 1 + 1, 3, none⟩ = false := by
  have e1 : W3.heap[w.heap.size + 1]? = some oZ := by rw [hW, Below.heap_setCell _ _ _ _ (by dsimp only; omega)]; exact h.r
  have e2 : W3.heap[w.heap.size + 1 + 1]? = some (.cells #[.int .i64 ge, .int .i64 0, .int .i64 0, .string ⟨#[]⟩, .string ⟨#[]⟩] 53) := by rw [hW]; exact heap_setCell_same h.a _
  have f1 := (hb.block _ (Array.getElem?_eq_some_iff.1 e1).1).trans e1
  have f2 := (hb.block _ (Array.getElem?_eq_some_iff.1 e2).1).trans e2
  simp [World.cell?, World.frozen?, f1, f2]
theorem doOp (w W W3 w4 : World) {K A B C ge : Int} {S T : List UInt8} (h : DB w W K A B C S T) (hW : W3 = W.setCell ⟨w.heap.size + 1 + 1, 0, none⟩ (.int .i64 ge)) (hb : Below W3.heap.size W3 w4) : w4.cell? ⟨w.heap.size, 0, none⟩ = some (.int .i64 K) := by
  have e1 : W3.heap[w.heap.size]? = some (oOp K A B C S T) := by rw [hW, Below.heap_setCell _ _ _ _ (by dsimp only; omega)]; exact h.o
  have f1 := (hb.block _ (Array.getElem?_eq_some_iff.1 e1).1).trans e1
  simp [World.cell?, f1]

set_option maxRecDepth 8000 in
set_option maxHeartbeats 3200000 in
theorem do7_r (own : Nat → Nat) (x rb : Nat) (st : List Tbl) (k v : V) (K A B C : Int) (S T : List UInt8) (w : World) (H : RS own w x st) (hG : GoodSt st) (hR : RegAt w rb k v) (hc : own rb = 200) (hk : k.Ok) (hv : v.Ok) (hK : K = 7) :
    Calls Try.prog 13 #[.pointer (some ⟨x, 0, none⟩), .pointer (some ⟨rb, 0, none⟩), opV K A B C S T] w fun e w' => e = .returned (ansV (doP st k v K A B S).E (doP st k v K A B S).N (doP st k v K A B S).Z) ∧ DoEndr own w x rb (doP st k v K A B S) w' := by
  have HB1 : Hid (Below w.heap.size w (doW w K A B C S T)) := doW_below _ _ _ _ _ _ _
  have HS1 : Hid ((doW w K A B C S T).heap.size = w.heap.size + 3) := doW_size _ _ _ _ _ _ _
  have HD1 : Hid (DB w (doW w K A B C S T) K A B C S T) := DB.new _ _ _ _ _ _ _
  have HP1 : Hid (RS (cut own w.heap.size) (doW w K A B C S T) x st) := H.kept HB1.out.size (fun k hk _ _ => HB1.out.block k hk) (fun k hk => cut_low hk)
  have HR : Hid (RegAt w rb k v) := hR
  have hlt := hR.lt
  have n0 : ¬ rb = w.heap.size := by omega
  have n1 : ¬ rb = w.heap.size + 1 := by omega
  have n2 : ¬ rb = w.heap.size + 1 + 1 := by omega
  have n3 : ¬ rb = w.heap.size + 1 + 1 + 1 := by omega
  have n4 : ¬ rb = w.heap.size + 1 + 1 + 1 + 1 := by omega
  have m1 : ¬ w.heap.size + 1 = rb := by omega
  have m2 : ¬ w.heap.size + 1 + 1 = rb := by omega
  have HFIN : Hid (∀ o : Out, doP st k v K A B S = o → o.k = k → o.v = v → ∀ w2 wf, REnd (cut own w.heap.size) (doW w K A B C S T) x o.st w2 → Apt w.heap.size none w2 wf → DoEndr own w x rb (doP st k v K A B S) wf) := by
    rintro o he rfl rfl w2 wf hE hA
    rw [he]
    exact fin_r HB1.out HS1.out hE hA (fun r e => by cases e) (reg_r HB1.out hE hA hR hc)
  have HFIN2 : Hid (∀ o : Out, doP st k v K A B S = o → ∀ w2 wf, REnd (cut own w.heap.size) (doW w K A B C S T) x o.st w2 → Apt w.heap.size (some rb) w2 wf → RegAt wf rb o.k o.v → DoEndr own w x rb (doP st k v K A B S) wf) := by
    rintro o he w2 wf hE hA hreg
    rw [he]
    exact fin_r HB1.out HS1.out hE hA (fun r e => by cases e; exact ⟨hR.lt, hc⟩) hreg
  have HSAME : Hid (∀ w2, Below (doW w K A B C S T).heap.size (doW w K A B C S T) w2 → REnd (cut own w.heap.size) (doW w K A B C S T) x st w2) := fun w2 hb => REnd.same HP1.out hb
  rw [opV_mk]
  have hreg1 : RegAt (doW w K A B C S T) rb k v := hR.same (HB1.out.block rb hlt)
  obtain ⟨⟨k0, k1, k2⟩, ⟨v0, v1, v2⟩, fzr⟩ := hreg1.cells
  have z0 := fzr 0
  have z1 := fzr 1
  have z2 := fzr 2
  obtain ⟨⟨kw0, kw1, kw2⟩, ⟨vw0, vw1, vw2⟩, _⟩ := hR.cells
  have CST := rset (cut own w.heap.size) x st A k v
  have HPd : Hid (RS (cut own w.heap.size) (doW w K A B C S T).drew x st) := HP1.out.below (Below.drew (Below.refl _ _))
  have CST := CST _ HPd.out hG hk hv
  have HUN : Hid (∀ st' w2, REnd (cut own w.heap.size) (doW w K A B C S T).drew x st' w2 → REnd (cut own w.heap.size) (doW w K A B C S T) x st' w2) := fun st' w2 ⟨o, h1, h2, h3⟩ => ⟨o, h1, h2, ⟨h3.os, h3.tape, h3.output, h3.size, h3.block⟩⟩
  subst hK
  have HO : Hid (doP st k v 7 A B S = ⟨(setP st A k v).2, 0, [], (setP st A k v).1, k, v⟩) := rfl
  generalize hsp : setP st A k v = sp at *
  have HCUT : Hid (∀ w2, REnd (cut own w.heap.size) (doW w 7 A B C S T).drew x sp.1 w2 → DB w w2 7 A B C S T) := fun w2 h => HD1.out.endr HS1.out (HUN.out _ _ h)
  obtain ⟨kT, kN, kS⟩ := k
  obtain ⟨vT, vN, vS⟩ := v
  simp only [valV_mk] at *
  have HCST : Hid (Calls Try.prog 33 _ _ _) := CST
  clear H hR hc hk hv hreg1 fzr hsp HSAME HFIN2 CST
  go_enter Try.func13, Try.ntmps13
  go_upto_region 18 with fail
  clear HR HB1 HS1 HD1 HP1
  go_region_with (go_at_call 33; refine HCST.out.mono ?_; rintro e w2 ⟨rfl, hE⟩; obtain ⟨⟨o0, o1⟩, ⟨r0, r1, r2, r3, r4⟩, ⟨a0, a1, a2, a3, a4⟩, ⟨fr0, fr1, fr2, fr3, fr4⟩, fa0, fa1, fa3⟩ := (HCUT.out w2 hE).cells; have HE : Hid (REnd _ _ _ _ w2) := hE; clear hE)
  all_goals
    clear z0 z1 z2 k0 k1 k2 v0 v1 v2 kw0 kw1 kw2 vw0 vw1 vw2
    go_wp2
    refine bodyPost_ret (v := .agg #[.int .i64 sp.2, .int .i64 0, .int .i64 0, .string ⟨#[]⟩, .string ⟨#[]⟩]) (by simp [results, go_sem, r0, r1, r2, r3, r4]) rfl ?_
    refine ⟨by rw [HO.out]; rfl, ?_⟩
    refine HFIN.out _ HO.out rfl rfl _ _ (HUN.out _ _ HE.out) ?_
    repeat (refine Apt.set ?_ _ (.inl (by dsimp only; omega)))
    exact Apt.refl _ _ _

set_option maxRecDepth 8000 in
set_option maxHeartbeats 3200000 in
theorem do6_r (own : Nat → Nat) (x rb : Nat) (st : List Tbl) (k v : V) (K A B C : Int) (S T : List UInt8) (w : World) (H : RS own w x st) (hG : GoodSt st) (hR : RegAt w rb k v) (hc : own rb = 200) (hk : k.Ok) (hv : v.Ok) (hK : K = 6) :
    Calls Try.prog 13 #[.pointer (some ⟨x, 0, none⟩), .pointer (some ⟨rb, 0, none⟩), opV K A B C S T] w fun e w' => e = .returned (ansV (doP st k v K A B S).E (doP st k v K A B S).N (doP st k v K A B S).Z) ∧ DoEndr own w x rb (doP st k v K A B S) w' := by
  have HB1 : Hid (Below w.heap.size w (doW w K A B C S T)) := doW_below _ _ _ _ _ _ _
  have HS1 : Hid ((doW w K A B C S T).heap.size = w.heap.size + 3) := doW_size _ _ _ _ _ _ _
  have HD1 : Hid (DB w (doW w K A B C S T) K A B C S T) := DB.new _ _ _ _ _ _ _
  have HP1 : Hid (RS (cut own w.heap.size) (doW w K A B C S T) x st) := H.kept HB1.out.size (fun k hk _ _ => HB1.out.block k hk) (fun k hk => cut_low hk)
  have HR : Hid (RegAt w rb k v) := hR
  have hlt := hR.lt
  have n0 : ¬ rb = w.heap.size := by omega
  have n1 : ¬ rb = w.heap.size + 1 := by omega
  have n2 : ¬ rb = w.heap.size + 1 + 1 := by omega
  have n3 : ¬ rb = w.heap.size + 1 + 1 + 1 := by omega
  have n4 : ¬ rb = w.heap.size + 1 + 1 + 1 + 1 := by omega
  have m1 : ¬ w.heap.size + 1 = rb := by omega
  have m2 : ¬ w.heap.size + 1 + 1 = rb := by omega
  have HFIN : Hid (∀ o : Out, doP st k v K A B S = o → o.k = k → o.v = v → ∀ w2 wf, REnd (cut own w.heap.size) (doW w K A B C S T) x o.st w2 → Apt w.heap.size none w2 wf → DoEndr own w x rb (doP st k v K A B S) wf) := by
    rintro o he rfl rfl w2 wf hE hA
    rw [he]
    exact fin_r HB1.out HS1.out hE hA (fun r e => by cases e) (reg_r HB1.out hE hA hR hc)
  have HFIN2 : Hid (∀ o : Out, doP st k v K A B S = o → ∀ w2 wf, REnd (cut own w.heap.size) (doW w K A B C S T) x o.st w2 → Apt w.heap.size (some rb) w2 wf → RegAt wf rb o.k o.v → DoEndr own w x rb (doP st k v K A B S) wf) := by
    rintro o he w2 wf hE hA hreg
    rw [he]
    exact fin_r HB1.out HS1.out hE hA (fun r e => by cases e; exact ⟨hR.lt, hc⟩) hreg
  have HSAME : Hid (∀ w2, Below (doW w K A B C S T).heap.size (doW w K A B C S T) w2 → REnd (cut own w.heap.size) (doW w K A B C S T) x st w2) := fun w2 hb => REnd.same HP1.out hb
  rw [opV_mk]
  have hreg1 : RegAt (doW w K A B C S T) rb k v := hR.same (HB1.out.block rb hlt)
  obtain ⟨⟨k0, k1, k2⟩, ⟨v0, v1, v2⟩, fzr⟩ := hreg1.cells
  have z0 := fzr 0
  have z1 := fzr 1
  have z2 := fzr 2
  obtain ⟨⟨kw0, kw1, kw2⟩, ⟨vw0, vw1, vw2⟩, _⟩ := hR.cells
  have CG := fun W hW => rget (cut own w.heap.size) x st A k W (HP1.out.below hW) hG hk
  have hgo := getP_ok hG A k
  subst hK
  have HO : Hid (doP st k v 6 A B S = ⟨(getP st A k).2, 0, showV (getP st A k).1, st, k, v⟩) := rfl
  generalize getP st A k = gp at *
  obtain ⟨gv, ge⟩ := gp
  have CSV := fun w => showVal_any gv w hgo.wf hgo.N
  simp only at CG HO
  obtain ⟨kT, kN, kS⟩ := k
  obtain ⟨gT, gN, gS⟩ := gv
  simp only [valV_mk] at *
  generalize showV ⟨gT, gN, gS⟩ = sv at *
  have HCG : Hid (∀ W, Below (doW w 6 A B C S T).heap.size (doW w 6 A B C S T) W → _) := CG
  have HZ1 : Hid (∀ w2, Below ((doW w 6 A B C S T).alloc (.cells #[.int .i64 0, .int .u64 0, .string ⟨#[]⟩] 42)).drew.heap.size ((doW w 6 A B C S T).alloc (.cells #[.int .i64 0, .int .u64 0, .string ⟨#[]⟩] 42)).drew w2 → VB w2 (w.heap.size + 1 + 1 + 1) nilV) := by
    intro w2 hb
    have h := VB.new (doW w 6 A B C S T) nilV
    rw [HS1.out] at h
    exact VB.below (w := ((doW w 6 A B C S T).alloc (.cells #[.int .i64 0, .int .u64 0, .string ⟨#[]⟩] 42)).drew) h hb
  have HZ2 : Hid (∀ w2, Below (((doW w 6 A B C S T).alloc (.cells #[.int .i64 0, .int .u64 0, .string ⟨#[]⟩] 42)).alloc (.cells #[.int .i64 0, .int .u64 0, .string ⟨#[]⟩] 42)).drew.heap.size (((doW w 6 A B C S T).alloc (.cells #[.int .i64 0, .int .u64 0, .string ⟨#[]⟩] 42)).alloc (.cells #[.int .i64 0, .int .u64 0, .string ⟨#[]⟩] 42)).drew w2 → VB w2 (w.heap.size + 1 + 1 + 1) nilV ∧ VB w2 (w.heap.size + 1 + 1 + 1 + 1) nilV) := by
    intro w2 hb
    have h := two_new (doW w 6 A B C S T) nilV nilV
    rw [HS1.out] at h
    exact ⟨VB.below (w := (((doW w 6 A B C S T).alloc (.cells #[.int .i64 0, .int .u64 0, .string ⟨#[]⟩] 42)).alloc (.cells #[.int .i64 0, .int .u64 0, .string ⟨#[]⟩] 42)).drew) h.1 hb, VB.below (w := (((doW w 6 A B C S T).alloc (.cells #[.int .i64 0, .int .u64 0, .string ⟨#[]⟩] 42)).alloc (.cells #[.int .i64 0, .int .u64 0, .string ⟨#[]⟩] 42)).drew) h.2 hb⟩
  have HBW0 : Hid (Below (doW w 6 A B C S T).heap.size (doW w 6 A B C S T) (doW w 6 A B C S T).drew) := Below.drew (Below.refl _ _)
  have HBW1 : Hid (Below (doW w 6 A B C S T).heap.size (doW w 6 A B C S T) ((doW w 6 A B C S T).alloc (.cells #[.int .i64 0, .int .u64 0, .string ⟨#[]⟩] 42)).drew) := Below.drew (below_one _ _)
  have HBW2 : Hid (Below (doW w 6 A B C S T).heap.size (doW w 6 A B C S T) (((doW w 6 A B C S T).alloc (.cells #[.int .i64 0, .int .u64 0, .string ⟨#[]⟩] 42)).alloc (.cells #[.int .i64 0, .int .u64 0, .string ⟨#[]⟩] 42)).drew) := Below.drew (below_two (below_one _ _) (below_one _ _))
  have hbw1 : Below (doW w 6 A B C S T).heap.size (doW w 6 A B C S T) ((doW w 6 A B C S T).alloc (.cells #[.int .i64 0, .int .u64 0, .string ⟨#[]⟩] 42)) := below_one _ _
  have hlw1 : rb < (doW w 6 A B C S T).heap.size := by rw [HS1.out]; omega
  have how1 : w.heap.size < (doW w 6 A B C S T).heap.size := by rw [HS1.out]; omega
  have ka1 := (hbw1.cell (p := ⟨rb, 0, none⟩) hlw1).trans k0
  have kb1 := (hbw1.cell (p := ⟨rb, 1, none⟩) hlw1).trans k1
  have kc1 := (hbw1.cell (p := ⟨rb, 2, none⟩) hlw1).trans k2
  have kd1 := (hbw1.cell (p := ⟨w.heap.size, 1, none⟩) how1).trans HD1.out.cells.1.2
  clear hbw1 hlw1 how1
  have hbw2 : Below (doW w 6 A B C S T).heap.size (doW w 6 A B C S T) (((doW w 6 A B C S T).alloc (.cells #[.int .i64 0, .int .u64 0, .string ⟨#[]⟩] 42)).alloc (.cells #[.int .i64 0, .int .u64 0, .string ⟨#[]⟩] 42)) := below_two (below_one _ _) (below_one _ _)
  have hlw2 : rb < (doW w 6 A B C S T).heap.size := by rw [HS1.out]; omega
  have how2 : w.heap.size < (doW w 6 A B C S T).heap.size := by rw [HS1.out]; omega
  have ka2 := (hbw2.cell (p := ⟨rb, 0, none⟩) hlw2).trans k0
  have kb2 := (hbw2.cell (p := ⟨rb, 1, none⟩) hlw2).trans k1
  have kc2 := (hbw2.cell (p := ⟨rb, 2, none⟩) hlw2).trans k2
  have kd2 := (hbw2.cell (p := ⟨w.heap.size, 1, none⟩) how2).trans HD1.out.cells.1.2
  clear hbw2 hlw2 how2
  clear H hR hc hk hv hreg1 fzr HFIN2 CG hgo
  go_enter Try.func13, Try.ntmps13
  go_upto_region 14 with fail
  go_cut [8, 9] from 13 (fun p e wx => e = .int .i64 ge ∧ ∃ b, p = .pointer (some ⟨b, 0, none⟩) ∧ (wx.cell? ⟨b, 0, none⟩ = some (.int .i64 gT) ∧ wx.cell? ⟨b, 1, none⟩ = some (.int .u64 gN) ∧ wx.cell? ⟨b, 2, none⟩ = some (.string ⟨gS.toArray⟩)) ∧ w.heap.size + 3 ≤ b ∧ Hid (Below (w.heap.size + 3) (doW w 6 A B C S T) wx))
  case first =>
    clear HFIN HO HR HB1 HD1 HP1 HSAME
    have hs1 := HS1.out
    go_region_with (go_at_call 31; refine (HCG.out _ (by with_reducible first | exact HBW0.out | exact HBW1.out | exact HBW2.out)).mono ?_; rintro e w2 ⟨rfl, hb⟩; have HB2 : Hid (Below (w.heap.size + 3) (doW w 6 A B C S T) w2) := (by rw [← hs1]; exact below_two (by with_reducible first | exact HBW0.out | exact HBW1.out | exact HBW2.out) hb); have hsz2 := HB2.out.size; rw [hs1] at hsz2; first | (with_reducible have hz := HZ2.out w2 hb; have l1 := hz.1.lt; have l2 := hz.2.lt; have ne1 : ¬ w.heap.size + 1 + 1 + 1 = w2.heap.size := (by omega); have ne2 : ¬ w.heap.size + 1 + 1 + 1 + 1 = w2.heap.size := (by omega); obtain ⟨ya0, ya1, ya2, yb0, yb1, yb2⟩ := hz.1.cells; obtain ⟨yc0, yc1, yc2, yd0, yd1, yd2⟩ := hz.2.cells; clear hz) | (with_reducible have hz := HZ1.out w2 hb; have l1 := hz.lt; have ne1 : ¬ w.heap.size + 1 + 1 + 1 = w2.heap.size := (by omega); obtain ⟨ya0, ya1, ya2, yb0, yb1, yb2⟩ := hz.cells; clear hz) | skip; clear hb)
    all_goals
      go_wp2_with fail
      go_meet
      case rel => exact ⟨rfl, _, rfl, by simp [go_sem, *], by omega, (by show Below _ _ _; repeat (first | exact HB2.out | refine Below.setCell ?_ (by dsimp only; omega) _ | refine Below.alloc ?_ (by first | omega | (simp; omega)) _))⟩
  case rest =>
    obtain ⟨rfl, b, rfl, ⟨g0, g1, g2⟩, hb2, HX0⟩ := hcut
    have HX : Hid (Below (doW w 6 A B C S T).heap.size (doW w 6 A B C S T) wc) := by show Below _ _ _; rw [HS1.out]; exact HX0.out
    obtain ⟨⟨o0, o1⟩, ⟨r0, r1, r2, r3, r4⟩, ⟨a0, a1, a2, a3, a4⟩, ⟨fr0, fr1, fr2, fr3, fr4⟩, fa0, fa1, fa3⟩ := (HD1.out.below HX.out).cells
    have c1 : ¬ b = w.heap.size + 1 + 1 := by omega
    have c2 : ¬ w.heap.size + 1 + 1 = b := by omega
    have c3 : ¬ b = w.heap.size + 1 := by omega
    have HDX : Hid (DB w wc 6 A B C S T) := HD1.out.below HX.out
    clear z0 z1 z2 k0 k1 k2 v0 v1 v2 kw0 kw1 kw2 vw0 vw1 vw2 ka1 kb1 kc1 kd1 ka2 kb2 kc2 kd2
    go_wp2_with fail
    refine (CSV _).mono ?_; rintro e w4 ⟨rfl, hb4⟩
    obtain ⟨W3, hW3⟩ : ∃ W3, W3 = wc.setCell ⟨w.heap.size + 1 + 1, 0, none⟩ (.int .i64 ge) := ⟨_, rfl⟩
    rw [← hW3] at hb4
    have hA4 : Apt w.heap.size none wc w4 := Apt.below (by rw [hW3]; exact (Apt.refl _ _ _).set _ (.inl (by dsimp only; omega))) hb4
    have hcl := doAns w wc W3 w4 HDX.out hW3 hb4
    obtain ⟨⟨q0, q1, q2, q3, q4⟩, ⟨s0, s1, s2, s3, s4⟩, ⟨fq0, fq1, fq2, fq3, fq4⟩, fs3⟩ := hcl
    have HA4 : Hid (Apt w.heap.size none wc w4) := hA4
    clear hb4 hA4 hW3 r0 r1 r2 r3 r4 a0 a1 a2 a3 a4 fr0 fr1 fr2 fr3 fr4 fa0 fa1 fa3 g0 g1 g2 CSV
    go_wp2
    refine bodyPost_ret (v := .agg #[.int .i64 ge, .int .i64 0, .int .i64 0, .string ⟨sv.toArray⟩, .string ⟨#[]⟩]) (by simp [results, go_sem, q0, q1, q2, q3, q4]) rfl ?_
    refine ⟨by rw [HO.out]; rfl, ?_⟩
    refine HFIN.out _ HO.out rfl rfl _ _ (HSAME.out _ HX.out) ?_
    repeat (refine Apt.set ?_ _ (.inl (by dsimp only; omega)))
    exact HA4.out

end Go.Proofs.Qxb6500292a
