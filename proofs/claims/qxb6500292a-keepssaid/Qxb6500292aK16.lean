/-
  Held walked.
-/
import Derived.Test.Qxb6500292aK12
import Derived.Test.Qxb6500292aR2
namespace Go.Proofs.Qxb6500292a
open Go.RowKit
open Ieee (double)
set_option linter.unusedVariables false
set_option linter.unusedSimpArgs false

/-- Held's two boxes. -/
def HeB (w W : World) (nb mb : Value) (k : V) : Prop := Below w.heap.size w W ∧ W.heap[w.heap.size]? = some (.cells #[nb, mb] 30) ∧ VB W (w.heap.size + 1) k
theorem HeB.below {w W W' : World} {nb mb : Value} {k : V} (h : HeB w W nb mb k) (hb : Below W.heap.size W W') : HeB w W' nb mb k := ⟨below_two h.1 hb, (hb.block _ (Array.getElem?_eq_some_iff.1 h.2.1).1).trans h.2.1, h.2.2.below hb⟩
theorem HeB.set {w W : World} {nb mb : Value} {k : V} (h : HeB w W nb mb k) (u : V) : HeB w (((W.setCell ⟨w.heap.size + 1, 0, none⟩ (.int .i64 u.T)).setCell ⟨w.heap.size + 1, 1, none⟩ (.int .u64 u.N)).setCell ⟨w.heap.size + 1, 2, none⟩ (.string ⟨u.S.toArray⟩)) nb mb u := by
  refine ⟨?_, ?_, ?_⟩
  · repeat refine Below.setCell ?_ (by dsimp only; omega) _
    exact h.1
  · rw [Below.heap_setCell _ _ _ _ (by dsimp only; omega), Below.heap_setCell _ _ _ _ (by dsimp only; omega), Below.heap_setCell _ _ _ _ (by dsimp only; omega)]
    exact h.2.1
  · have := h.2.2
    unfold VB at *
    rw [heap_setCell_same (heap_setCell_same (heap_setCell_same this _) _) _]
    rfl
theorem HeB.drewN {w W : World} {nb mb : Value} {k : V} (h : HeB w W nb mb k) (m : Nat) : HeB w (W.drewN m) nb mb k := h.below (below_drewN (Below.refl _ _) m)
theorem HeB.alloc {w W : World} {nb mb : Value} {k : V} (h : HeB w W nb mb k) (o : Obj) : HeB w (W.alloc o) nb mb k := h.below (below_one _ _)
set_option maxRecDepth 8000 in
set_option maxHeartbeats 3200000 in
theorem held_any (own : Nat → Nat) (x g h : Nat) (nb mb : Value) (st : List Tbl) (gs : Gs) (ad : Option Addr) (cp : Nat) (t : Tbl) (w : World) (H : RS own w x st) (hR : GRow w g st gs ad cp) (hrel : GRel st gs) (hl : gs.length ≤ 384) (ht : st[h]? = some t) :
    Calls Try.prog 25 #[.pointer (some ⟨x, 0, none⟩), .agg #[nb, mb], .pointer (some ⟨g, 0, none⟩), .int .i64 (h : Int)] w fun e w' => e = .returned (.bool true) ∧ Below w.heap.size w w' := by
  have hG := H.good
  have HS : Hid (RS own w x st) := H
  have HR : Hid (GRow w g st gs ad cp) := hR
  have HREL : Hid (GRel st gs) := hrel
  have HGOOD : Hid (GoodSt st) := hG
  have HT : Hid (st[h]? = some t) := ht
  have lg := hR.lg
  have hne : ¬ g = w.heap.size := by omega
  have hne1 : ¬ g = w.heap.size + 1 := by omega
  have HB0 : Hid (HeB w ((w.alloc (.cells #[nb, mb] 30)).alloc (.cells #[.int .i64 0, .int .u64 0, .string ⟨#[]⟩] 42)) nb mb nilV) := by
    refine ⟨(below_one _ _).alloc (by simp) _, ((below_one _ _).block _ (by simp)).trans (World.alloc_heap_new _ _), ?_⟩
    have := VB.new (w.alloc (.cells #[nb, mb] 30)) nilV
    rw [World.size_alloc] at this
    exact this
  clear H hR hrel hG ht
  go_enter Try.func25, Try.ntmps25
  go_wp2_with fail
  go_loopw [10] (fun j wr => ∃ (n : Nat) (k : V), j = .int .i64 (n : Int) ∧ n ≤ gs.length ∧ Hid (KeyAt gs h n k) ∧ Hid (HeB w wr nb mb k)) (fun j _ => 400 - (intOf j).toNat)
  case atStart => exact ⟨0, nilV, by go_num, by omega, .inl ⟨rfl, fun m s hm => by omega⟩, HB0⟩
  case round =>
    obtain ⟨n, k, rfl, hn, HK, HB⟩ := hrel
    obtain ⟨q0, q2, _, hent, _⟩ := HR.out.below HB.out.1
    by_cases hlt : n < gs.length
    · obtain ⟨s, hs⟩ : ∃ s, gs[n]? = some s := ⟨_, List.getElem?_eq_getElem hlt⟩
      obtain ⟨b, rfl, hbl, hcp, e0, ⟨e1, e2, e3⟩, e4, e5, e6⟩ := hent n s hs
      have HSL : Hid (gs[n]? = some s) := hs
      obtain ⟨sh, ek, ev⟩ := s
      have dn : decide ((n : Int) < (gs.length : Int)) = true := decide_eq_true (by omega)
      by_cases ch : sh = h
      · subst ch
        have hso := vals_ok HREL.out HGOOD.out _ (List.mem_of_getElem? hs)
        have hgp := key_get HREL.out HGOOD.out HT.out hs
        have HGET := fun w (H : RS own w x st) => rget own x st (sh : Int) ek w H H.good (wf_ok hso.1.wf hso.1.N)
        rw [hgp] at HGET
        simp only at HGET
        simp only at e0 e1 e2 e3 e4 e5 e6
        clear hent hs hgp
        obtain ⟨kT, kN, kS⟩ := ek
        obtain ⟨vT, vN, vS⟩ := ev
        simp only [valV_mk] at HGET
        simp only at e1 e2 e3 e4 e5 e6
        have hlg : gs.length ≤ 384 := hl
        generalize hgl : gs.length = gl at *
        go_wp2_with fail
        refine (HGET _ (HS.out.below HB.out.1)).mono ?_; rintro e w1 ⟨rfl, hb1⟩
        have HB1 : Hid (HeB w w1 nb mb k) := HB.out.below hb1
        obtain ⟨q0', q2', _, hent', lg'⟩ := HR.out.below HB1.out.1
        rw [hgl] at q2'
        obtain ⟨b', eb, hbl', _, f0, ⟨f1, f2, f3⟩, f4, f5, f6⟩ := hent' n _ HSL.out
        cases eb
        simp only at f0 f1 f2 f3 f4 f5 f6
        have hg1 : ¬ g = w1.heap.size := by omega
        have hb2 : ¬ b = w1.heap.size := by omega
        clear hb1 hent' q0 q0' q2 e0 e1 e2 e3 e4 e5 e6 HGET
        by_cases cz : vT = 0
        · have HKN : Hid (KeyAt gs sh (n + 1) k) := HK.out.dead HSL.out (by unfold liveS; simp [cz])
          subst cz
          go_wp2_with fail
          go_quiet (fail)
          go_wp2_with fail
          go_roundw
          case rel => exact ⟨n + 1, k, by go_num, by omega, HKN, (HB1.out.alloc _).drewN _⟩
          case measure => simp [intOf]; omega
        · have bz : (vT != 0) = true := by simpa using cz
          have HKN : Hid (KeyAt gs sh (n + 1) ⟨kT, kN, kS⟩) := KeyAt.live HSL.out
          have hnx := key_next HREL.out HGOOD.out HT.out HK.out (by omega) (fun s' h' => by rw [HSL.out] at h'; cases h'; unfold liveS; simp [cz])
          rw [HSL.out] at hnx
          simp only at hnx
          have hkok := (HK.out.ok HREL.out HGOOD.out).2.1
          have HNX := fun w (H : RS own w x st) => rnext own x st (sh : Int) k w H H.good hkok
          rw [hnx] at HNX
          simp only [valV_mk] at HNX
          obtain ⟨k0, k1, k2, _⟩ := HB1.out.2.2.cells
          have hs1 : w.heap.size + 1 < w1.heap.size := (Array.getElem?_eq_some_iff.1 HB1.out.2.2).1
          have hn1 : ¬ w.heap.size + 1 = w1.heap.size := by omega
          obtain ⟨cT, cN, cS⟩ := k
          simp only [valV_mk] at HNX
          simp only at k0 k1 k2
          clear hnx hkok cz
          go_wp2_with fail
          go_quiet (fail)
          go_wp2_with fail
          have HSB : Hid (RS own ((w1.alloc (.cells #[.int .i64 vT, .int .u64 (vN : Int), .string ⟨vS.toArray⟩] 42)).drewN nq) x st) := (HS.out.below HB1.out.1).below (below_two (below_one _ _) (below_drewN (Below.refl _ _) _))
          refine (HNX _ HSB.out).mono ?_; rintro e w2 ⟨rfl, hb3⟩
          have HB2 : Hid (HeB w w2 nb mb ⟨cT, cN, cS⟩) := ((HB1.out.alloc _).drewN _).below hb3
          have hvb : VB w2 w1.heap.size ⟨vT, vN, vS⟩ := ((VB.new w1 ⟨vT, vN, vS⟩).below (below_drewN (Below.refl _ _) nq)).below hb3
          obtain ⟨g0, g1, g2, _⟩ := hvb.cells
          have hv2 : w1.heap.size < w2.heap.size := (Array.getElem?_eq_some_iff.1 hvb).1
          obtain ⟨q0', q2'', _, hent', lg''⟩ := HR.out.below HB2.out.1
          rw [hgl] at q2''
          obtain ⟨b', eb, hbl'', _, d0, ⟨d1, d2, d3⟩, d4, d5, d6⟩ := hent' n _ HSL.out
          cases eb
          obtain ⟨_, _, _, z0, z1, z2⟩ := HB2.out.2.2.cells
          obtain ⟨y0, y1, y2, _⟩ := HB2.out.2.2.cells
          simp only at d0 d1 d2 d3 d4 d5 d6 g0 g1 g2 y0 y1 y2
          have hs2 : w.heap.size + 1 < w2.heap.size := (Array.getElem?_eq_some_iff.1 HB2.out.2.2).1
          have i1 : ¬ g = w2.heap.size := by omega
          have i2 : ¬ g = w2.heap.size + 1 := by omega
          have i3 : ¬ b = w2.heap.size := by omega
          have i4 : ¬ b = w2.heap.size + 1 := by omega
          have i5 : ¬ w1.heap.size = w2.heap.size := by omega
          have i6 : ¬ w1.heap.size = w2.heap.size + 1 := by omega
          have i7 : ¬ w.heap.size + 1 = w2.heap.size := by omega
          have i8 : ¬ w.heap.size = w2.heap.size := by omega
          have hbk : ∀ o1 o2, ((w2.alloc o1).alloc o2).heap[w.heap.size + 1]? = w2.heap[w.heap.size + 1]? := fun o1 o2 => (below_two (below_one w2 o1) (below_one _ o2)).block _ hs2
          have fy : ∀ o1 o2 j, ((w2.alloc o1).alloc o2).frozen? ⟨w.heap.size + 1, j, none⟩ = false := fun o1 o2 j => by
            have hh := HB2.out.2.2
            unfold VB at hh
            simp [World.frozen?, hbk, hh]
          have cy0 : ∀ o1 o2, ((w2.alloc o1).alloc o2).cell? ⟨w.heap.size + 1, 0, none⟩ = some (.int .i64 cT) := fun o1 o2 => (World.cell?_of_block (a := ⟨w.heap.size + 1, 0, none⟩) (hbk o1 o2)).trans y0
          have cy1 : ∀ o1 o2, ((w2.alloc o1).alloc o2).cell? ⟨w.heap.size + 1, 1, none⟩ = some (.int .u64 cN) := fun o1 o2 => (World.cell?_of_block (a := ⟨w.heap.size + 1, 1, none⟩) (hbk o1 o2)).trans y1
          have cy2 : ∀ o1 o2, ((w2.alloc o1).alloc o2).cell? ⟨w.heap.size + 1, 2, none⟩ = some (.string ⟨cS.toArray⟩) := fun o1 o2 => (World.cell?_of_block (a := ⟨w.heap.size + 1, 2, none⟩) (hbk o1 o2)).trans y2
          clear hbk hb3 hvb hent' HNX HSB f0 f1 f2 f3 f4 f5 f6 k0 k1 k2 q2' q0' HB1
          go_wp2_with fail
          go_quiet (fail)
          go_wp2_with fail
          go_roundw
          case rel => exact ⟨n + 1, ⟨kT, kN, kS⟩, by go_num, by omega, HKN, by first | exact ((((HB2.out.alloc _).alloc _).drewN _).set ⟨kT, kN, kS⟩) | exact ((((HB2.out.alloc _).alloc _).set ⟨kT, kN, kS⟩).drewN _)⟩
          case measure => simp [intOf]; omega
      · have HKN : Hid (KeyAt gs h (n + 1) k) := HK.out.dead hs (by unfold liveS; rw [decide_eq_false (show ¬ ((sh : Int) = (h : Int)) by omega)]; rfl)
        have bh : ((sh : Int) == (h : Int)) = false := by rw [beq_eq_false_iff_ne]; omega
        simp only at e0
        clear hent hs HSL
        have hlg : gs.length ≤ 384 := hl
        generalize hgl : gs.length = gl at *
        go_wp2_with fail
        go_roundw
        case rel => exact ⟨n + 1, k, by go_num, by omega, HKN, HB⟩
        case measure => simp [intOf]; omega
    · have hnt : n = gs.length := by omega
      have hgn : gs[n]? = none := by rw [hnt]; exact List.getElem?_eq_none (Nat.le_refl _)
      have hnx := key_next HREL.out HGOOD.out HT.out HK.out (by omega) (fun s' h' => by rw [hgn] at h'; cases h')
      rw [hgn] at hnx
      simp only at hnx
      have hkok := (HK.out.ok HREL.out HGOOD.out).2.1
      have HNX := fun w (H : RS own w x st) => rnext own x st (h : Int) k w H H.good hkok
      rw [hnx] at HNX
      rw [show valV nilV = .agg #[.int .i64 0, .int .u64 0, .string ⟨#[]⟩] from rfl] at HNX
      obtain ⟨hlen, hle, N0, S0, hgt⟩ := key_brd HGOOD.out HT.out
      have HLN := fun w (H : RS own w x st) => rlen own x st (h : Int) w H H.good
      rw [hlen] at HLN
      have hfl : (numKey (brd t + 1)).Ok := ⟨show (-9223372036854775808 : Int) ≤ 2 by decide, show (2 : Int) ≤ 9223372036854775807 by decide, by have := Fl.nearest_false_le (brd t + 1) 0; show fl (brd t + 1) < _; unfold fl; omega, Nat.zero_le _⟩
      have HGT := fun w (H : RS own w x st) => rget own x st (h : Int) (numKey (brd t + 1)) w H H.good hfl
      rw [hgt] at HGT
      rw [show valV (numKey (brd t + 1)) = .agg #[.int .i64 2, .int .u64 (fl (brd t + 1)), .string ⟨#[]⟩] from rfl] at HGT
      have HBT := fun w => bits_any nb mb ((brd t : Int) + 1) w
      have efl : double.nearest (decide ((brd t : Int) + 1 < 0)) ((brd t : Int) + 1).natAbs 0 = fl (brd t + 1) := by
        rw [decide_eq_false (by omega), show ((brd t : Int) + 1).natAbs = brd t + 1 by omega]; rfl
      rw [efl] at HBT
      have HBD := fun W (hb : Below w.heap.size w W) => border_any nb mb g st gs ad cp (h : Int) W (HR.out.below hb) HREL.out HGOOD.out hl
      have HBR : Hid (∀ m, borderP st gs h m → m = brd t) := fun m hp => hp.2 t (by omega) (by rw [Int.toNat_natCast]; exact HT.out)
      obtain ⟨k0, k1, k2, _⟩ := HB.out.2.2.cells
      have hs1 : w.heap.size + 1 < wr.heap.size := (Array.getElem?_eq_some_iff.1 HB.out.2.2).1
      obtain ⟨cT, cN, cS⟩ := k
      simp only [valV_mk] at HNX HGT
      simp only at k0 k1 k2 HLN HNX HGT
      have dn : decide ((n : Int) < (gs.length : Int)) = false := decide_eq_false (by omega)
      generalize (getP st (h : Int) (numKey (brd t + 1))).2 = eg at *
      generalize hgl : gs.length = gl at *
      generalize fl (brd t + 1) = FN at *
      generalize brd t = bt at *
      clear hnx hkok hgn hent hlen hgt hfl efl HB0
      go_wp2_with fail
      refine (HNX _ (HS.out.below HB.out.1)).mono ?_; rintro e w1 ⟨rfl, hb1⟩
      have HB1 : Hid (HeB w w1 nb mb ⟨cT, cN, cS⟩) := HB.out.below hb1
      have hs2 := hb1.size
      have hs3 : w.heap.size + 1 < w1.heap.size := by omega
      clear hb1 k0 k1 k2 q0 q2
      go_wp2_with fail
      have HSB : Hid (RS own ((w1.alloc (.cells #[.int .i64 0, .int .u64 0, .string ⟨#[]⟩] 42)).alloc (.cells #[.int .i64 0, .int .u64 0, .string ⟨#[]⟩] 42)) x st) := (HS.out.below HB1.out.1).below (below_two (below_one _ _) (below_one _ _))
      refine (HLN _ HSB.out).mono ?_; rintro e w3 ⟨rfl, hb3⟩
      obtain ⟨va, vb, hb13⟩ := two_vals (k := nilV) (z := nilV) hb3
      have HB3 : Hid (HeB w w3 nb mb ⟨cT, cN, cS⟩ ∧ VB w3 w1.heap.size nilV ∧ VB w3 (w1.heap.size + 1) nilV) := ⟨HB1.out.below hb13, va, vb⟩
      have c0 : w3.cell? ⟨w.heap.size, 0, none⟩ = some nb := by simp [World.cell?, HB3.out.1.2.1]
      have c1 : w3.cell? ⟨w.heap.size, 1, none⟩ = some mb := by simp [World.cell?, HB3.out.1.2.1]
      clear hb3 va vb hb13 HSB HLN HNX
      go_wp2_with fail
      refine (HBT _).mono ?_; rintro e w4 ⟨rfl, hb4⟩
      have HB4 : Hid (HeB w w4 nb mb ⟨cT, cN, cS⟩ ∧ VB w4 w1.heap.size nilV ∧ VB w4 (w1.heap.size + 1) nilV) := ⟨HB3.out.1.below hb4, HB3.out.2.1.below hb4, HB3.out.2.2.below hb4⟩
      have HS4 : Hid (RS own w4 x st) := HS.out.below HB4.out.1.1
      clear hb4 HB3 HBT c0 c1
      go_wp2_with fail
      refine (HGT _ HS4.out).mono ?_; rintro e w5 ⟨rfl, hb5⟩
      have HB5 : Hid (HeB w w5 nb mb ⟨cT, cN, cS⟩ ∧ VB w5 w1.heap.size nilV ∧ VB w5 (w1.heap.size + 1) nilV) := ⟨HB4.out.1.below hb5, HB4.out.2.1.below hb5, HB4.out.2.2.below hb5⟩
      obtain ⟨a0, _, _, _⟩ := HB5.out.2.1.cells
      obtain ⟨b0, _, _, _⟩ := HB5.out.2.2.cells
      have c0 : w5.cell? ⟨w.heap.size, 0, none⟩ = some nb := by simp [World.cell?, HB5.out.1.2.1]
      have c1 : w5.cell? ⟨w.heap.size, 1, none⟩ = some mb := by simp [World.cell?, HB5.out.1.2.1]
      have l1 : w1.heap.size + 1 < w5.heap.size := (Array.getElem?_eq_some_iff.1 HB5.out.2.2).1
      have j1 : ¬ w1.heap.size = w5.heap.size := by omega
      have j2 : ¬ w1.heap.size + 1 = w5.heap.size := by omega
      have j3 : ¬ w.heap.size = w5.heap.size := by omega
      rw [show nilV.T = 0 from rfl] at a0 b0
      have A0 : ∀ o, (w5.alloc o).cell? ⟨w1.heap.size, 0, none⟩ = some (.int .i64 0) := fun o => ((below_one w5 o).cell (p := ⟨w1.heap.size, 0, none⟩) (by dsimp only; omega)).trans a0
      have B0 : ∀ o, (w5.alloc o).cell? ⟨w1.heap.size + 1, 0, none⟩ = some (.int .i64 0) := fun o => ((below_one w5 o).cell (p := ⟨w1.heap.size + 1, 0, none⟩) (by dsimp only; omega)).trans b0
      have C0 : ∀ o, (w5.alloc o).cell? ⟨w.heap.size, 0, none⟩ = some nb := fun o => ((below_one w5 o).cell (p := ⟨w.heap.size, 0, none⟩) (by dsimp only; omega)).trans c0
      have C1 : ∀ o, (w5.alloc o).cell? ⟨w.heap.size, 1, none⟩ = some mb := fun o => ((below_one w5 o).cell (p := ⟨w.heap.size, 1, none⟩) (by dsimp only; omega)).trans c1
      have HB6 : Hid (∀ o, Below w.heap.size w (w5.alloc o)) := fun o => below_two HB5.out.1.1 (below_one _ _)
      clear hb5 HB4 HGT HS4
      go_wp2_with fail
      refine (HBD _ (HB6.out _)).mono ?_; rintro e w6 ⟨⟨m, rfl, hbp⟩, hb6⟩
      have hm := HBR.out m hbp
      subst hm
      have HE : Hid (Below w.heap.size w w6) := below_two (HB6.out _) hb6
      clear hb6 hbp HB6 HBD
      go_wp2
      go_ret
      exact ⟨rfl, HE.out⟩
end Go.Proofs.Qxb6500292a
