/-
  Format under the machine; text walked.
-/
import Derived.Test.Qxb6500293aGreatRRY7
namespace Go.Proofs.Qxb6500293aGreatRR
open Go.RowKit
open Ieee (double)
set_option linter.unusedVariables false
set_option linter.unusedSimpArgs false

theorem VmAt.numb {own : Nat → Nat} {W : World} {m a nb tp : Nat} {M : Mc} {vals : Nat → Value} {L : List Th} (H : VmAt own W m a nb tp M vals L) {b : Nat} (hb : own b = 442) {W' : World} (hs : Stp b W W') (hn : NumK own W' nb) : VmAt own W' m a nb tp M vals L := by
  have hk : ∀ k, k < W.heap.size → own k ≠ 442 → W'.heap[k]? = W.heap[k]? := fun k h1 h2 => hs.block k h1 (by rintro rfl; exact h2 hb)
  have hm := hk m H.mlt (by rw [H.mc]; omega)
  have ha := hk a H.alt (by rw [H.ac]; omega)
  have cm : ∀ i, W'.cell? ⟨m, i, none⟩ = W.cell? ⟨m, i, none⟩ := fun i => World.cell?_of_block (a := ⟨m, i, none⟩) hm
  have ca : ∀ i, W'.cell? ⟨a, i, none⟩ = W.cell? ⟨a, i, none⟩ := fun i => World.cell?_of_block (a := ⟨a, i, none⟩) ha
  have cl : ∀ j, W'.cell? (locM m a j) = W.cell? (locM m a j) := fun j => by
    rcases locM_block m a j with h | h
    · exact World.cell?_of_block (a := locM m a j) (by rw [h]; exact hm)
    · exact World.cell?_of_block (a := locM m a j) (by rw [h]; exact ha)
  exact ⟨by rw [hm]; exact H.mb, by rw [ha]; exact H.ab, (cm 0).trans H.c0, (cm 1).trans H.c1, (cm 9).trans H.c9, (cm 10).trans H.cf, (cm 12).trans H.cen, fun i hi => ⟨(ca _).trans (H.ts i hi).1, (ca _).trans (H.ts i hi).2⟩,
    fun j hj => ⟨(cl j).trans (H.row j hj).1, ownsRow_block (H.row j hj).2.1 (fun b hb => hk b (ownsRow_lt (H.row j hj).2.1 b hb) (by rw [(H.row j hj).2.2 b hb]; omega)), fun b hb => (H.row j hj).2.2 b hb⟩,
    H.mc, H.ac, H.hL, H.pre, H.tab.kept hs.size (fun k hk' h1 h2 => hk k hk' (by omega)) (fun _ _ => rfl), fun k hk => H.new k (Nat.le_trans hs.size hk), hn⟩
theorem Vm.format {own : Nat → Nat} {W : World} {m a nb tp : Nat} {M : Mc} (HV : Vm own W m a nb tp M) (x : Nat) (hx : x < 18446744073709551616) :
    Calls Tryz.prog 122 #[.pointer (some ⟨nb, 0, none⟩), .int .u64 x] W fun e W' => e = .returned (.string ⟨(fmtP x).toArray⟩) ∧ ∀ i, Nf own W m a nb tp i M W' := by
  obtain ⟨vals, L, H⟩ := HV
  obtain ⟨b, hN, h1, h2⟩ := H.num
  refine (format_num nb b x W hN hx).mono ?_
  rintro e W' ⟨rfl, hs, hn⟩
  refine ⟨rfl, fun i => ⟨⟨own, fun _ _ => rfl, ⟨vals, L, H.numb h2 hs ⟨b, hn, h1, h2⟩⟩, ⟨hs.os, hs.tape, hs.output, hs.size, fun j hj hz => hs.block j hj (by rintro rfl; omega)⟩⟩, World.cell?_of_block (a := ⟨a, i * 5 + 3, none⟩) (hs.block a H.alt (by rintro rfl; have := H.ac; omega))⟩⟩
theorem Nf.pre {own : Nat → Nat} {W W1 W2 : World} {m a nb tp i : Nat} {M M2 : Mc} (h : Vm own W m a nb tp M) (hb : Below W.heap.size W W1) (hn : Nf own W1 m a nb tp i M2 W2) : Nf own W m a nb tp i M2 W2 :=
  ⟨Nx.trans (fun _ _ => rfl) (ChgV.of_below hb) hn.1, hn.2.trans (hb.cell (p := ⟨a, i * 5 + 3, none⟩) h.alt)⟩
theorem wf_built {v : V} (hw : wfB v = true) (h6 : v.T = 6) : 1 ≤ v.N ∧ v.N ≤ 11 := by
  unfold wfB at hw
  rw [if_neg (by omega)] at hw
  by_cases c : (decide (v.S = []) && (decide (0 ≤ v.T) && decide (v.T ≤ 7))) = true
  · rw [if_pos c, if_neg (by omega), if_neg (by omega), if_pos h6] at hw
    simpa using hw
  · rw [if_neg c] at hw; cases hw
theorem textP_len {v : V} (hw : wfB v = true) (hN : v.N < 18446744073709551616) : (textP v).length ≤ 40 := by
  have hd := (nd_spec v.N hN).2.2.1
  unfold textP
  by_cases t0 : v.T = 0
  · rw [if_pos t0]; decide
  rw [if_neg t0]
  by_cases t1 : v.T = 1
  · rw [if_pos t1]; split <;> decide
  rw [if_neg t1]
  by_cases t2 : v.T = 2
  · rw [if_pos t2]
    have := (parse_format v.N hN).2
    omega
  rw [if_neg t2]
  by_cases t3 : v.T = 3
  · rw [if_pos t3]
    exact (wf_str hw t3).2
  rw [if_neg t3]
  by_cases t6 : v.T = 6
  · rw [if_pos t6]
    have hbn : ∀ n, n ≤ 11 → (buName n).length ≤ 10 := by decide
    have : (buName v.N).length ≤ 10 := hbn v.N (wf_built hw t6).2
    rw [List.length_append]
    show 8 + _ ≤ 40
    omega
  rw [if_neg t6, List.length_append, List.length_append, dec_length]
  have : (tyName v.T).length ≤ 10 := by
    obtain ⟨_, h0, h7, _⟩ := wf_other hw t3
    rcases (by omega : v.T = 4 ∨ v.T = 5 ∨ v.T = 7) with e | e | e <;> (rw [e]; decide)
  show _ + 1 + _ ≤ 40
  omega
def strV (s : List UInt8) : Value := .string ⟨s.toArray⟩
abbrev sBox (ps : List (List UInt8)) : Obj := .cells (ps.map strV).toArray 9
theorem PA_of {w : World} {n : Nat} {ps : List (List UInt8)} (h : w.heap[n]? = some (sBox ps)) : PA w n 0 ps := by
  refine ⟨heap_lt h, fun j s hj => ?_⟩
  rw [Nat.zero_add, box_cell h j]
  simp [hj, strV]
theorem PA_new (w : World) (ps : List (List UInt8)) {n : Nat} (hn : w.heap.size = n) : PA (w.alloc (sBox ps)) n 0 ps := PA_of (new_at _ _ hn)
set_option maxRecDepth 8000 in
set_option maxHeartbeats 1600000 in
theorem text_any {own : Nat → Nat} {W : World} {m a nb tp : Nat} {M : Mc} (HV : Vm own W m a nb tp M) (v : V) (hw : wfB v = true) (hN : v.N < 18446744073709551616) :
    Calls Tryz.prog 111 #[.pointer (some ⟨m, 0, none⟩), valV v] W fun e W' => e = .returned (.string ⟨(textP v).toArray⟩) ∧ ∀ i, Nf own W m a nb tp i M W' := by
  have hT : 0 ≤ v.T ∧ v.T ≤ 7 := by
    by_cases h3 : v.T = 3
    · omega
    · have := wf_other hw h3
      omega
  have hb6 : v.T = 6 → 1 ≤ v.N ∧ v.N ≤ 11 := fun h6 => wf_built hw h6
  obtain ⟨_, _, _, c0, hml⟩ := HV.tabR
  have HSAME : Hid (∀ w', Below W.heap.size W w' → ∀ i, Nf own W m a nb tp i M w') := fun w' hb i => Nf.same HV hb
  have HTY := fun W => tyName_any v W hw
  obtain ⟨T, N, S⟩ := v
  rw [valV_mk] at *
  simp only at hT hN hb6
  have hb1 := below_one W (vBox T N S)
  have q0 := (hb1.cell (p := ⟨m, 0, none⟩) hml).trans c0
  have hsz : ¬ m = W.heap.size := by omega
  rcases (by omega : T = 0 ∨ T = 1 ∨ T = 2 ∨ T = 3 ∨ T = 6 ∨ (T = 4 ∨ T = 5 ∨ T = 7)) with rfl | rfl | rfl | rfl | rfl | h
  · have HO : Hid (textP ⟨0, N, S⟩ = [110, 105, 108]) := rfl
    clear HTY hb6
    go_enter Tryz.func111, Tryz.ntmps111
    go_wp2_with fail
    go_ret
    exact ⟨by rw [HO.out]; rfl, HSAME.out _ (below_one _ _)⟩
  · clear HTY hb6
    by_cases h0 : N = 0
    · have HO : Hid (textP ⟨1, N, S⟩ = [102, 97, 108, 115, 101]) := by rw [h0]; exact rfl
      subst h0
      go_enter Tryz.func111, Tryz.ntmps111
      go_wp2_with fail
      go_ret
      exact ⟨by rw [HO.out]; rfl, HSAME.out _ (below_one _ _)⟩
    · have HO : Hid (textP ⟨1, N, S⟩ = [116, 114, 117, 101]) := by
        show (if N = 0 then _ else _) = _
        rw [if_neg h0]
      have bN : ((N : Int) != 0) = true := by rw [bne_iff_ne]; omega
      clear h0
      go_enter Tryz.func111, Tryz.ntmps111
      go_wp2_with fail
      go_ret
      exact ⟨by rw [HO.out]; rfl, HSAME.out _ (below_one _ _)⟩
  · have HO : Hid (textP ⟨2, N, S⟩ = fmtP N) := rfl
    have HF := (HV.below (hb1.trans (below_drewN (Below.refl _ _) 1))).format N hN
    have HFR : Hid (∀ w', (∀ i, Nf own ((W.alloc (vBox 2 N S)).drewN 1) m a nb tp i M w') → ∀ i, Nf own W m a nb tp i M w') := fun w' h i => Nf.pre HV (hb1.trans (below_drewN (Below.refl _ _) 1)) (h i)
    clear HTY hb6
    go_enter Tryz.func111, Tryz.ntmps111
    go_wp2_with fail
    go_region_with (go_at_call 122; refine HF.mono ?_; rintro e w2 ⟨rfl, hN2⟩; have HN2 : Hid _ := HFR.out _ hN2; clear hN2)
    all_goals
      go_wp2_with fail
      go_ret
      exact ⟨by rw [HO.out]; rfl, HN2.out⟩
  · have HO : Hid (textP ⟨3, N, S⟩ = S) := rfl
    clear HTY hb6
    go_enter Tryz.func111, Tryz.ntmps111
    go_wp2_with fail
    go_ret
    exact ⟨by rw [HO.out]; rfl, HSAME.out _ (below_one _ _)⟩
  · obtain ⟨h1, h11⟩ := hb6 rfl
    have HO : Hid (textP ⟨6, N, S⟩ = [[98, 117, 105, 108, 116, 105, 110], [58], buName N].flatten) := by
      show [98, 117, 105, 108, 116, 105, 110, 58] ++ buName N = _
      simp
    have HBU := fun W => buName_any N W h1 h11
    clear HTY hb6
    go_enter Tryz.func111, Tryz.ntmps111
    go_wp2_with fail
    refine (HBU _).mono ?_; rintro e w1 ⟨rfl, rfl⟩
    have HJ := join_any ((W.alloc (vBox 6 N S)).alloc (sBox [[98, 117, 105, 108, 116, 105, 110], [58], buName N])) (W.heap.size + 1) 0 3 [[98, 117, 105, 108, 116, 105, 110], [58], buName N] (PA_new _ _ (by simp)) (by simp) (by
      have hbn : ∀ n, n ≤ 11 → (buName n).length ≤ 10 := by decide
      have := hbn N h11
      simp
      omega)
    have hbj := below_two (below_one W (vBox 6 N S)) (below_one _ (sBox [[98, 117, 105, 108, 116, 105, 110], [58], buName N]))
    have HBJ : Hid _ := hbj
    obtain ⟨R, hR⟩ : ∃ R, R = [[98, 117, 105, 108, 116, 105, 110], [58], buName N].flatten := ⟨_, rfl⟩
    rw [← hR] at HJ HO
    clear hbj HBU hR
    go_wp2_with fail
    refine HJ.mono ?_; rintro e w2 ⟨rfl, hb2⟩
    have HB2 : Hid _ := HSAME.out _ (below_two HBJ.out hb2)
    clear hb2
    go_wp2_with fail
    go_ret
    exact ⟨by rw [HO.out]; rfl, HB2.out⟩
  · have b0 : (T == 0) = false := by rw [beq_eq_false_iff_ne]; omega
    have b1 : (T == 1) = false := by rw [beq_eq_false_iff_ne]; omega
    have b2 : (T == 2) = false := by rw [beq_eq_false_iff_ne]; omega
    have b3 : (T == 3) = false := by rw [beq_eq_false_iff_ne]; omega
    have b6 : (T == 6) = false := by rw [beq_eq_false_iff_ne]; omega
    have HO : Hid (textP ⟨T, N, S⟩ = [tyName T, [58], dec N].flatten) := by
      show textP ⟨T, N, S⟩ = _
      unfold textP
      simp only
      rw [if_neg (by omega), if_neg (by omega), if_neg (by omega), if_neg (by omega), if_neg (by omega)]
      simp
    have HU := fun W => utoa_any N W hN
    have hl : (tyName T).length ≤ 10 ∧ (dec N).length ≤ 20 := by
      refine ⟨?_, by rw [dec_length]; exact (nd_spec N hN).2.2.1⟩
      rcases h with e | e | e <;> (rw [e]; decide)
    have HL : Hid ((tyName T).length ≤ 10 ∧ (dec N).length ≤ 20) := hl
    have hbW := below_two (below_one W (vBox T N S)) (below_one _ (sBox [[98, 117, 105, 108, 116, 105, 110], [58], []]))
    have hbox : ((W.alloc (vBox T N S)).alloc (sBox [[98, 117, 105, 108, 116, 105, 110], [58], []])).heap[W.heap.size + 1]? = some (sBox [[98, 117, 105, 108, 116, 105, 110], [58], []]) := new_at _ _ (by simp)
    have hvb : ((W.alloc (vBox T N S)).alloc (sBox [[98, 117, 105, 108, 116, 105, 110], [58], []])).heap[W.heap.size]? = some (vBox T N S) := ((below_one _ _).block _ (by simp)).trans (World.alloc_heap_new _ _)
    have HBW : Hid (Below W.heap.size W ((W.alloc (vBox T N S)).alloc (sBox [[98, 117, 105, 108, 116, 105, 110], [58], []])) ∧ ((W.alloc (vBox T N S)).alloc (sBox [[98, 117, 105, 108, 116, 105, 110], [58], []])).heap[W.heap.size + 1]? = some (sBox [[98, 117, 105, 108, 116, 105, 110], [58], []]) ∧ ((W.alloc (vBox T N S)).alloc (sBox [[98, 117, 105, 108, 116, 105, 110], [58], []])).heap[W.heap.size]? = some (vBox T N S)) := ⟨hbW, hbox, hvb⟩
    clear hl hb6 hbW hbox hvb h
    simp only at HTY
    go_enter Tryz.func111, Tryz.ntmps111
    go_wp2_with fail
    refine (HTY _).mono ?_; rintro e w1 ⟨rfl, hb1'⟩
    obtain ⟨g1, g2, g3⟩ := HBW.out
    have k1 : w1.heap[W.heap.size + 1]? = some (sBox [[98, 117, 105, 108, 116, 105, 110], [58], []]) := (hb1'.block _ (by simp)).trans g2
    have k2 : w1.heap[W.heap.size]? = some (vBox T N S) := (hb1'.block _ (by simp; omega)).trans g3
    have k3 := below_two g1 hb1'
    obtain ⟨p0, p1, p2, pz⟩ := cells3 k1
    obtain ⟨v0, v1, v2, _⟩ := cells3 k2
    have HK : Hid (w1.heap[W.heap.size + 1]? = some (sBox [[98, 117, 105, 108, 116, 105, 110], [58], []]) ∧ Below W.heap.size W w1 ∧ W.heap.size + 1 < w1.heap.size) := ⟨k1, k3, heap_lt k1⟩
    clear g1 g2 g3 k1 k2 k3 hb1' HBW
    have HT0 : Hid (tyName T = tyName T) := rfl
    go_wp2_with fail
    refine (HU _).mono ?_; rintro e w2 ⟨rfl, hb2⟩
    have k4 : w2.heap[W.heap.size + 1]? = some (sBox [tyName T, [58], []]) := by
      refine (hb2.block _ (by rw [size_set]; exact HK.out.2.2)).trans ?_
      rw [heap_setCell_same HK.out.1]
      rfl
    have k5 : Below W.heap.size W (w1.setCell ⟨W.heap.size + 1, 0, none⟩ (.string ⟨(tyName T).toArray⟩)) := HK.out.2.1.setCell (by show W.heap.size ≤ W.heap.size + 1; omega) _
    have k6 := below_two k5 hb2
    obtain ⟨p0, p1, p2, pz⟩ := cells3 k4
    have HK2 : Hid (w2.heap[W.heap.size + 1]? = some (sBox [tyName T, [58], []]) ∧ Below W.heap.size W w2) := ⟨k4, k6⟩
    have HJ := join_any (w2.setCell ⟨W.heap.size + 1, 2, none⟩ (.string ⟨(dec N).toArray⟩)) (W.heap.size + 1) 0 3 [tyName T, [58], dec N] (PA_of (by
      rw [heap_setCell_same k4]
      rfl)) (by simp) (by
      have := HL.out
      simp
      omega)
    obtain ⟨R, hR⟩ : ∃ R, R = [tyName T, [58], dec N].flatten := ⟨_, rfl⟩
    rw [← hR] at HJ HO
    clear hR k4 k5 k6 hb2 HK HTY HU HL
    go_wp2_with fail
    refine HJ.mono ?_; rintro e w3 ⟨rfl, hb3⟩
    have HB3 : Hid _ := HSAME.out _ (below_two (HK2.out.2.setCell (p := ⟨W.heap.size + 1, 2, none⟩) (by show W.heap.size ≤ W.heap.size + 1; omega) _) hb3)
    clear hb3
    go_wp2_with fail
    go_ret
    exact ⟨by rw [HO.out]; rfl, HB3.out⟩
end Go.Proofs.Qxb6500293aGreatRR
