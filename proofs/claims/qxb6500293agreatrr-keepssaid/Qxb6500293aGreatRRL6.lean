/-
  Load walked.
-/
import Derived.Test.Qxb6500293aGreatRRL5
import Derived.Test.Qxb6500293aGreatRRX17
import Derived.Test.Qxb6500293aGreatRRY33
import Derived.Test.Qxb6500293aGreatRRY26
namespace Go.Proofs.Qxb6500293aGreatRR
open Go.RowKit
open Ieee (double)
set_option linter.unusedVariables false
set_option linter.unusedSimpArgs false

section
variable {own : Nat → Nat} {W w : World} {m a nb tp : Nat} {M : Mc}
theorem Nx.on (h : Nx own W m a nb tp M w) : ∃ own', Vm own' w m a nb tp M ∧ ∀ M2 w2, Nx own' w m a nb tp M2 w2 → Nx own W m a nb tp M2 w2 := by
  obtain ⟨own1, h1, h2, h3⟩ := h
  exact ⟨own1, h2, fun M2 w2 g => Nx.trans h1 h3 g⟩
theorem Vm.outCut (HV : Vm own W m a nb tp M) : ∃ ad cp, W.cell? ⟨m, 11, none⟩ = some (.slice ad M.out.length cp) ∧ M.out.length ≤ cp ∧ (∀ k, W.frozen? ⟨m, k, none⟩ = false) ∧ Nx own W m a nb tp { M with out := [] } (W.setCell ⟨m, 11, none⟩ (.slice ad 0 cp)) := by
  obtain ⟨ad, cp, h1, h2, h3⟩ := HV.outRow []
  have h4 := h3 W ad cp (grownBy_refl W _) (row_zero h2) (fun b hb => .inl (by
    cases ad with
    | none => exact hb
    | some p => exact hb))
  have hc : M.out.length ≤ cp := by
    rcases h2.2 with ⟨g1, g2⟩ | ⟨g, cap, cur, g1, hb, hgg, hc, hm, hs, ht⟩
    · have g1 := congrArg (fun v => match v with | .slice _ n _ => n | _ => 0) g1
      have g1 : M.out.length = 0 := g1
      omega
    · cases g1
      exact hc
  obtain ⟨vals, L, H⟩ := HV
  exact ⟨ad, cp, h1, hc, H.mz, (h4.2.2 0).1⟩
theorem Vm.fuelC (HV : Vm own W m a nb tp M) (n : Nat) : W.cell? ⟨m, 10, none⟩ = some (i64 M.fuel) ∧ Nx own W m a nb tp { M with fuel := n } (W.setCell ⟨m, 10, none⟩ (i64 n)) := by
  obtain ⟨vals, L, H⟩ := HV
  have := H.setm 10 (i64 n) (by omega) { M with fuel := n } (fun j hj => rfl) rfl H.pre rfl rfl rfl
  exact ⟨H.cf, own, fun _ _ => rfl, ⟨vals, L, this.1⟩, this.2⟩
theorem Vm.enC (HV : Vm own W m a nb tp M) (e : Int) : W.cell? ⟨m, 12, none⟩ = some (.int .i64 M.en) ∧ Nx own W m a nb tp { M with en := e } (W.setCell ⟨m, 12, none⟩ (.int .i64 e)) := by
  obtain ⟨vals, L, H⟩ := HV
  have := H.setm 12 (.int .i64 e) (by omega) { M with en := e } (fun j hj => rfl) rfl H.pre rfl rfl rfl
  exact ⟨H.cen, own, fun _ _ => rfl, ⟨vals, L, this.1⟩, this.2⟩
theorem Vm.fz (HV : Vm own W m a nb tp M) : ∀ k, W.frozen? ⟨m, k, none⟩ = false := by
  obtain ⟨vals, L, H⟩ := HV
  exact H.mz
end
def globF (n : Nat) : List Tbl := (List.range n).foldl (fun st b => (setP st 0 (str (buName (b + 1))) ⟨6, b + 1, []⟩).1) (makeP []).2.2
theorem globF_succ (n : Nat) : globF (n + 1) = (setP (globF n) 0 (str (buName (n + 1))) ⟨6, n + 1, []⟩).1 := by
  unfold globF
  rw [List.range_succ, List.foldl_append]
  rfl
theorem buName_len : ∀ b, b ≤ 11 → (buName b).length ≤ 40 := by
  intro b hb
  rcases (by omega : b = 0 ∨ b = 1 ∨ b = 2 ∨ b = 3 ∨ b = 4 ∨ b = 5 ∨ b = 6 ∨ b = 7 ∨ b = 8 ∨ b = 9 ∨ b = 10 ∨ b = 11) with rfl | rfl | rfl | rfl | rfl | rfl | rfl | rfl | rfl | rfl | rfl | rfl <;> decide
set_option maxRecDepth 8000 in
set_option maxHeartbeats 3200000 in
theorem load_any {own : Nat → Nat} {W : World} {m a nb tp : Nat} {M : Mc} (HV : Vm own W m a nb tp M) (bs : List UInt8) (fuel : Int) (hb : bs.length ≤ 9223372036854775807) (hf : I64 fuel) :
    Calls Tryz.prog 36 #[.pointer (some ⟨m, 0, none⟩), .string ⟨bs.toArray⟩, .int .i64 fuel] W fun e W' => e = .returned (.int .i64 (loadP bs fuel).2) ∧ Nx own W m a nb tp (loadP bs fuel).1 W' := by
  have HW := wipe_any HV 21
  clear HV
  go_enter Tryz.func36, Tryz.ntmps36
  go_wp2_with fail
  refine HW.mono ?_; rintro e w1 ⟨rfl, hN1⟩
  obtain ⟨own1, hv1, t1⟩ := hN1.on
  obtain ⟨ad, cp, a0, a1, az, hN2⟩ := hv1.outCut
  obtain ⟨own2, hv2, t2⟩ := hN2.on
  obtain ⟨b0, hN3⟩ := hv2.fuelC 0
  have hN3 : Nx own2 (w1.setCell ⟨m, 11, none⟩ (.slice ad 0 cp)) m a nb tp { ({ wipeP M 21 with out := [] } : Mc) with fuel := 0 } ((w1.setCell ⟨m, 11, none⟩ (.slice ad 0 cp)).setCell ⟨m, 10, none⟩ (.int .i64 0)) := hN3
  obtain ⟨own3, hv3, t3⟩ := hN3.on
  obtain ⟨r1, r2, r3, r4, r5⟩ := hv3.tabR
  have HRS := rreset own3 tp _ _ r1 r2
  have bz := hv2.fz
  have HT : Hid (∀ w4, REnd own3 ((w1.setCell ⟨m, 11, none⟩ (.slice ad 0 cp)).setCell ⟨m, 10, none⟩ (.int .i64 0)) tp [] w4 → Nx own W m a nb tp mt w4) := fun w4 hE => t1 _ _ (t2 _ _ (t3 _ _ ((hv3.tabsN hE 0).1)))
  have hl11 : m < w1.heap.size := hv1.tabR.2.2.2.2
  clear hN1 hN2 hN3 hv1 hv2 hv3 t1 t2 t3 r1 r2 r4 HW
  generalize ({ wipeP M 21 with out := [] } : Mc).fuel = fu0 at *
  generalize (wipeP M 21).out.length = ol at *
  go_wp2_with fail
  refine HRS.mono ?_; rintro e w4 ⟨rfl, hE4⟩
  have N4 := HT.out _ hE4
  clear HT hE4 HRS a0 a1 az b0 bz r3 r5 hl11
  by_cases h8 : 32768 < bs.length
  · have d8 : decide ((32768 : Int) < (bs.length : Int)) = true := decide_eq_true (by omega)
    have HE : Hid (Nx own W m a nb tp mt w4) := N4
    have HL : loadP bs fuel = (mt, 1) := if_pos h8
    clear N4
    go_wp2_with fail
    go_ret
    rw [HL]
    exact ⟨rfl, HE.out⟩
  have d8 : decide ((32768 : Int) < (bs.length : Int)) = false := decide_eq_false (by omega)
  obtain ⟨own4, hv4, t4⟩ := N4.on
  have HDE := decode_any hv4 rfl rfl rfl rfl bs (by omega)
  have HT4 : Hid (∀ M2 w2, Nx own4 w4 m a nb tp M2 w2 → Nx own W m a nb tp M2 w2) := t4
  clear N4 hv4 t4
  cases hD : (decodeP mt bs).2 with
  | false =>
    rw [hD] at HDE
    have HL : loadP bs fuel = (mt, 11) := by unfold loadP; rw [if_neg h8, if_pos hD]
    go_wp2_with fail
    refine HDE.mono ?_; rintro e w5 ⟨rfl, hN5⟩
    obtain ⟨own5, hv5, t5⟩ := (HT4.out _ _ hN5).on
    have HW2 := wipe_any hv5 21
    rw [(decode_wipe bs).1] at HW2
    have HT5 : Hid (∀ M2 w2, Nx own5 w5 m a nb tp M2 w2 → Nx own W m a nb tp M2 w2) := t5
    clear hN5 hv5 t5 HT4 HDE
    go_wp2_with fail
    refine HW2.mono ?_; rintro e w6 ⟨rfl, hN6⟩
    have HE : Hid (Nx own W m a nb tp mt w6) := HT5.out _ _ hN6
    clear hN6 HW2 HT5
    go_wp2_with fail
    go_ret
    rw [HL]
    exact ⟨rfl, HE.out⟩
  | true =>
    rw [hD] at HDE
    have HL : Hid (loadP bs fuel = ({ (decodeP mt bs).1 with tb := globT, cs := [⟨0, 0, 0⟩], th := [⟨1, 0, [], [], []⟩], fuel := fuel.toNat, en := 0 }, 0)) := by
      show loadP bs fuel = _
      unfold loadP; rw [if_neg h8, if_neg (by rw [hD]; decide)]
    obtain ⟨-, w1', w2', w3', w4', w5', w6', w7', w8'⟩ := decode_wipe bs
    go_wp2_with fail
    refine HDE.mono ?_; rintro e w5 ⟨rfl, hN5⟩
    generalize (decodeP mt bs).1 = D at *
    obtain ⟨own5, hv5, t5⟩ := (HT4.out _ _ hN5).on
    obtain ⟨r1, r2, r3, r4, r5⟩ := hv5.tabR
    rw [w5'] at r1 r2
    have HMK := rmake own5 tp [] _ r1 r2
    have HT5 : Hid (∀ w6, REnd own5 w5 tp (makeP []).2.2 w6 → Nx own W m a nb tp { D with tb := globF 0 } w6) := fun w6 hE => t5 _ _ (hv5.tabsN hE 0).1
    clear hN5 HT4 HDE hv5 t5 r1 r2 r4 hD
    go_wp2_with fail
    refine HMK.mono ?_; rintro e w6 ⟨rfl, hE6⟩
    have HN6 : Hid (Nx own W m a nb tp { D with tb := globF 0 } w6) := HT5.out _ hE6
    clear hE6 HT5 HMK r3 r5
    go_wp2_with fail
    go_loopg [8] 11 (fun g bv wr => ∃ k : Nat, bv = .int .i64 ((k : Int) + 1) ∧ k + g = 11 ∧ Hid (Nx own W m a nb tp { D with tb := globF k } wr))
    case atStart => exact ⟨0, rfl, by omega, HN6.out⟩
    case round =>
      obtain ⟨k, rfl, hkg, HK⟩ := hrel
      obtain ⟨ownk, hvk, tk⟩ := HK.out.on
      by_cases hk : k < 11
      · obtain ⟨g', rfl⟩ : ∃ g', gk = g' + 1 := ⟨gk - 1, by omega⟩
        have dk : decide ((k : Int) + 1 ≤ 11) = true := decide_eq_true (by omega)
        have HBN := buName_any (k + 1) wr (by omega) (by omega)
        have hi1 : i64 (k + 1) = .int .i64 ((k : Int) + 1) := rfl
        rw [hi1] at HBN
        have hok1 : (str (buName (k + 1))).Ok := (str_okV mt (buName_len (k + 1) (by omega))).ok
        have hok2 : (⟨6, k + 1, []⟩ : V).Ok := ⟨by show (-9223372036854775808 : Int) ≤ 6; decide, by show (6 : Int) ≤ 9223372036854775807; decide, by show k + 1 < _; omega, by show (0 : Nat) ≤ _; decide⟩
        obtain ⟨r1, r2, r3, r4, r5⟩ := hvk.tabR
        have HST := rset ownk tp (globF k) 0 (str (buName (k + 1))) ⟨6, k + 1, []⟩ wr r1 r2 hok1 hok2
        have HTK : Hid (∀ w6, REnd ownk wr tp (setP (globF k) 0 (str (buName (k + 1))) ⟨6, k + 1, []⟩).1 w6 → Nx own W m a nb tp { D with tb := globF (k + 1) } w6) := fun w6 hE => by
          rw [globF_succ]
          exact tk _ _ (hvk.tabsN hE 0).1
        have hs1 : str (buName (k + 1)) = ⟨3, 0, buName (k + 1)⟩ := rfl
        have hv2 : valV ⟨6, k + 1, []⟩ = .agg #[.int .i64 6, .int .u64 ((k : Int) + 1), .string ⟨#[]⟩] := rfl
        rw [hs1] at HST
        rw [valV_mk, hv2] at HST
        rw [← hs1] at HST
        have hwk : IntKind.u64.wrap ((k : Int) + 1) = (k : Int) + 1 := IntWalk.u64_in _ ⟨by omega, by omega⟩
        have hwj : IntKind.i64.wrap ((k : Int) + 1 + 1) = (k : Int) + 1 + 1 := IntWalk.i64_in _ ⟨by omega, by omega⟩
        clear hvk tk r1 r2 r4 hok1 hok2 hs1 hv2 hi1 HK HL w1' w2' w3' w4' w5' w6' w7' w8'
        generalize (setP (globF k) 0 (str (buName (k + 1))) ⟨6, k + 1, []⟩).1 = st2 at *
        generalize (setP (globF k) 0 (str (buName (k + 1))) ⟨6, k + 1, []⟩).2 = st3 at *
        generalize buName (k + 1) = bn at *
        go_wp2_with fail
        refine HBN.mono ?_; rintro e w7 ⟨rfl, hq⟩; have hq := hq.symm; subst hq
        clear HBN
        go_wp2_with fail
        refine HST.mono ?_; rintro e w8 ⟨rfl, hE8⟩
        have HN8 : Hid (Nx own W m a nb tp { D with tb := globF (k + 1) } w8) := HTK.out _ hE8
        clear HST hE8 HTK r3 r5
        go_wp2_with fail
        go_roundg g'
        case measure => omega
        case rel => exact ⟨k + 1, by go_num, by omega, HN8⟩
      · have hk11 : k = 11 := by omega
        subst hk11
        have hg : globF 11 = globT := rfl
        rw [hg] at hvk
        obtain ⟨ca, cc, ca', cc', w7, f00, happ0, f1, f2, hNf, -⟩ := hvk.csApp (by show D.cs.length ≤ _; rw [w1']; decide) ⟨0, 0, 0⟩
        have f0 : wr.cell? ⟨m, 6, none⟩ = some (.slice ca 0 cc) := by
          have h : wr.cell? ⟨m, 6, none⟩ = some (.slice ca D.cs.length cc) := f00
          rw [w1'] at h
          exact h
        have happ : (Builtin.append_ #[55, 55] 55 #[.slice ca 0 cc, .slice (some ⟨wr.heap.size, 0, none⟩) 1 1]).run Tryz.prog (wr.alloc (.cells #[.int .i64 0, .int .i64 0, .int .i64 0] 69)) = .ok (.slice ca' 1 cc') w7 := by
          have h : (Builtin.append_ #[55, 55] 55 #[.slice ca D.cs.length cc, .slice (some ⟨wr.heap.size, 0, none⟩) 1 1]).run Tryz.prog (wr.alloc (.cells #[.int .i64 0, .int .i64 0, .int .i64 0] 69)) = .ok (.slice ca' (D.cs.length + 1) cc') w7 := happ0
          rw [w1'] at h
          exact h
        have f1 : w7.cell? ⟨m, 6, none⟩ = some (.slice ca 0 cc) := by
          have h : w7.cell? ⟨m, 6, none⟩ = some (.slice ca D.cs.length cc) := f1
          rw [w1'] at h
          exact h
        have hN7 : Nx ownk wr m a nb tp { D with tb := globT, cs := [⟨0, 0, 0⟩] } (w7.setCell ⟨m, 6, none⟩ (.slice ca' 1 cc')) := by
          have h : Nx ownk wr m a nb tp { D with tb := globT, cs := D.cs ++ [⟨0, 0, 0⟩] } (w7.setCell ⟨m, 6, none⟩ (.slice ca' (D.cs.length + 1) cc')) := (hNf 0).1
          rw [w1'] at h
          exact h
        obtain ⟨own8, hv8, t8⟩ := (tk _ _ hN7).on
        have HSP := spawn_any hv8 (by show D.th.length < 5; rw [w4']; decide) 0
        have HT8 : Hid (∀ w9, Nx own8 (w7.setCell ⟨m, 6, none⟩ (.slice ca' 1 cc')) m a nb tp (spawnP { D with tb := globT, cs := [⟨0, 0, 0⟩] } 0) w9 → Nx own W m a nb tp { D with tb := globT, cs := [⟨0, 0, 0⟩], th := [⟨1, 0, [], [], []⟩] } w9) := fun w9 h => by
          have h := t8 _ _ h
          unfold spawnP at h
          simp only [w4', List.nil_append] at h
          exact h
        have hml := hvk.tabR.2.2.2.2
        have dk : decide ((11 : Int) + 1 ≤ 11) = false := decide_eq_false (by omega)
        clear hvk tk f00 happ0 hNf hN7 hv8 t8 HK hg
        go_wp2_with (at_builtin; refine wpList_append_eq rfl (.tmp 63) (.tmp 65) 55 rfl _ _ _ _ (by simp [Act.eval, Act.put]) (by simp [Act.eval, Act.put]) happ ?_)
        refine HSP.mono ?_; rintro e w9 ⟨rfl, -, hN9⟩
        have N9 := HT8.out _ hN9
        clear HSP hN9 HT8 happ f0 f1 f2 hml
        by_cases hf0 : 0 < fuel
        · have df : decide ((0 : Int) < fuel) = true := decide_eq_true hf0
          obtain ⟨n, rfl⟩ : ∃ n : Nat, fuel = (n : Int) := ⟨fuel.toNat, by omega⟩
          obtain ⟨own9, hv9, t9⟩ := N9.on
          obtain ⟨g1, hN10⟩ := hv9.fuelC n
          obtain ⟨own10, hv10, t10⟩ := (t9 _ _ hN10).on
          obtain ⟨g2, hN11⟩ := hv10.enC 0
          have hz := hv9.fz
          have hz2 := hv10.fz
          have hml := hv9.tabR.2.2.2.2
          have hml2 := hv10.tabR.2.2.2.2
          have HE : Hid (Nx own W m a nb tp { D with tb := globT, cs := [⟨0, 0, 0⟩], th := [⟨1, 0, [], [], []⟩], fuel := n, en := 0 } ((w9.setCell ⟨m, 10, none⟩ (.int .i64 (n : Int))).setCell ⟨m, 12, none⟩ (.int .i64 0))) := t10 _ _ hN11
          have HL2 : loadP bs (n : Int) = ({ D with tb := globT, cs := [⟨0, 0, 0⟩], th := [⟨1, 0, [], [], []⟩], fuel := n, en := 0 }, 0) := HL.out
          have g1 : w9.cell? ⟨m, 10, none⟩ = some (i64 D.fuel) := g1
          have g2 : (w9.setCell ⟨m, 10, none⟩ (.int .i64 (n : Int))).cell? ⟨m, 12, none⟩ = some (.int .i64 D.en) := g2
          clear hN10 hN11 hv9 hv10 t9 t10 N9 HL w1' w2' w3' w4' w5' w6' w7' w8'
          go_wp2_with fail
          go_ret
          rw [HL2]
          exact ⟨rfl, HE.out⟩
        · have df : decide ((0 : Int) < fuel) = false := decide_eq_false hf0
          obtain ⟨own9, hv9, t9⟩ := N9.on
          obtain ⟨g2, hN11⟩ := hv9.enC 0
          have hz := hv9.fz
          have hml := hv9.tabR.2.2.2.2
          have HE : Hid (Nx own W m a nb tp { D with tb := globT, cs := [⟨0, 0, 0⟩], th := [⟨1, 0, [], [], []⟩], fuel := 0, en := 0 } (w9.setCell ⟨m, 12, none⟩ (.int .i64 0))) := by
            have h := t9 _ _ hN11
            simp only [w7'] at h
            exact h
          have HL2 : loadP bs fuel = ({ D with tb := globT, cs := [⟨0, 0, 0⟩], th := [⟨1, 0, [], [], []⟩], fuel := 0, en := 0 }, 0) := by
            rw [HL.out, show fuel.toNat = 0 by omega]
          have g2 : w9.cell? ⟨m, 12, none⟩ = some (.int .i64 D.en) := g2
          clear hN11 hv9 t9 N9 HL w1' w2' w3' w4' w5' w6' w7' w8'
          go_wp2_with fail
          go_ret
          rw [HL2]
          exact ⟨rfl, HE.out⟩
end Go.Proofs.Qxb6500293aGreatRR
