/-
  jump; Fuel, Out, Ended, Status.
-/
import Derived.Test.Qxb6500293aGreatRRX5
namespace Go.Proofs.Qxb6500293aGreatRR
open Go.RowKit
set_option linter.unusedVariables false
set_option linter.unusedSimpArgs false

/-- The same, where thread i's frames lie where they lay if it answers. -/
def OuEf {α : Type} (own : Nat → Nat) (W : World) (m a nb tp i : Nat) (o : Ou α) (val : α → Value) (en : Ending) (W' : World) : Prop :=
  (o.k = 0 ∧ en = .returned (val o.x) ∧ Nf own W m a nb tp i o.M W') ∨
  (o.k = 2 ∧ (∃ b, en = thrE b ∧ W.heap.size ≤ b ∧ W'.heap[b]? = some (thrO o.v)) ∧ Nx own W m a nb tp o.M W') ∨
  (o.k = 3 ∧ en = trapE o.e ∧ Nx own W m a nb tp o.M W')
theorem burn_f {own : Nat → Nat} {W : World} {m a nb tp : Nat} {M : Mc} (HV : Vm own W m a nb tp M) (hf : M.fuel ≤ 9223372036854775807) (i : Nat) :
    Calls Tryz.prog 93 #[.pointer (some ⟨m, 0, none⟩)] W (OuEf own W m a nb tp i (burnP M) (fun _ => .tuple #[])) := by
  have HS : Hid (Nx own W m a nb tp M W) := Nx.same HV (Below.refl _ _)
  obtain ⟨vals, L, H⟩ := HV
  have cf := H.cf
  have fz := H.mz 10
  by_cases h0 : M.fuel = 0
  · have HO : Hid (burnP M = trp M () 9) := if_pos h0
    rw [h0] at cf
    clear H hf h0
    have HST := fun W => stop_any 9 W
    go_enter Tryz.func93, Tryz.ntmps93
    go_wp2_with fail
    refine (HST _).mono ?_; rintro e w1 ⟨rfl, rfl⟩
    go_wp2_with fail
    simp [bodyPost]
    rw [HO.out]
    exact .inr (.inr ⟨rfl, rfl, HS.out⟩)
  · have HO : Hid (burnP M = ok { M with fuel := M.fuel - 1 } ()) := if_neg h0
    have HN : Hid (Nf own W m a nb tp i { M with fuel := M.fuel - 1 } (W.setCell ⟨m, 10, none⟩ (i64 (M.fuel - 1)))) := by
      have := H.setm 10 (i64 (M.fuel - 1)) (by omega) { M with fuel := M.fuel - 1 } (fun j hj => rfl) rfl H.pre rfl rfl rfl
      exact ⟨⟨own, fun _ _ => rfl, ⟨vals, L, this.1⟩, this.2⟩, World.cell?_of_block (a := ⟨a, i * 5 + 3, none⟩) (Below.heap_setCell _ _ _ _ H.ma.symm)⟩
    obtain ⟨n, hn⟩ : ∃ n, M.fuel = n + 1 := ⟨M.fuel - 1, by omega⟩
    rw [hn] at cf hf
    rw [hn, Nat.add_sub_cancel] at HN HO
    clear H h0 HS hn
    go_enter Tryz.func93, Tryz.ntmps93
    go_wp2_with fail
    go_end0
    rw [HO.out]
    exact .inl ⟨rfl, rfl, HN.out⟩
/-- A frame's cells. -/
theorem Vm.frame {own : Nat → Nat} {W : World} {m a nb tp : Nat} {M : Mc} (HV : Vm own W m a nb tp M) {i : Nat} (hi : i < M.th.length) {fb n cp : Nat} (hc : W.cell? ⟨a, i * 5 + 3, none⟩ = some (.slice (some ⟨fb, 0, none⟩) n cp)) {j : Nat} {f : Fr} (hj : (M.t i).fr[j]? = some f) :
    n = (M.t i).fr.length ∧ fb < W.heap.size ∧ n ≤ cp ∧ (∀ k, W.frozen? ⟨fb, k, none⟩ = false) ∧ W.cell? ⟨fb, j * 5, none⟩ = some (i64 f.clo) ∧ W.cell? ⟨fb, j * 5 + 1, none⟩ = some (i64 f.pc) ∧ W.cell? ⟨fb, j * 5 + 2, none⟩ = some (i64 f.base) ∧ W.cell? ⟨fb, j * 5 + 3, none⟩ = some (i64 f.ret) ∧ W.cell? ⟨fb, j * 5 + 4, none⟩ = some (.bool f.prot) ∧
    ∀ k x f', k < 5 → (frC f).set k x = frC f' → Nf own W m a nb tp i (M.setT i { M.t i with fr := (M.t i).fr.set j f' }) (W.setCell ⟨fb, j * 5 + k, none⟩ x) := by
  obtain ⟨vals, L, H⟩ := HV
  obtain ⟨c3, hrow, hcol⟩ := H.frRow hi
  obtain ⟨b, cp', hv, hl, hb, hz, hcell⟩ := row_elem frC_len (by decide) hrow hj
  rw [hc, hv] at c3
  cases c3
  exact ⟨rfl, hb, hl, hz, hcell 0 _ rfl, hcell 1 _ rfl, hcell 2 _ rfl, hcell 3 _ rfl, hcell 4 _ rfl, fun k x f' hk h => H.frSet hi hv hj hk h⟩
theorem Th.f_at {t : Th} (h : 1 ≤ t.fr.length) : t.fr[t.fr.length - 1]? = some t.f := by
  unfold Th.f
  rw [List.getElem?_eq_getElem (by omega)]
  rfl
set_option maxRecDepth 8000 in
set_option maxHeartbeats 400000 in
theorem jump_any {own : Nat → Nat} {W : World} {m a nb tp : Nat} {M : Mc} (HV : Vm own W m a nb tp M) (hf : M.fuel ≤ 9223372036854775807) {i : Nat} (hi : i < M.th.length) {fb n cp : Nat} (hc : W.cell? ⟨a, i * 5 + 3, none⟩ = some (.slice (some ⟨fb, 0, none⟩) (n + 1) cp)) (hn : (M.t i).fr.length = n + 1) (x : Nat) (hx : x < 65536) (hpc : (M.t i).f.pc < 100000) :
    Calls Tryz.prog 88 #[.pointer (some ⟨m, 0, none⟩), .pointer (some ⟨fb, n * 5, none⟩), i64 x] W (OuEf own W m a nb tp i (jumpP M i x) (fun _ => .tuple #[])) := by
  have hfa := Th.f_at (t := M.t i) (by omega)
  rw [hn, Nat.add_sub_cancel] at hfa
  obtain ⟨_, hfb, hcp, hz, d0, d1, d2, d3, d4, hput⟩ := HV.frame hi hc hfa
  have hz1 := hz (n * 5 + 1)
  by_cases hle : x ≤ (M.t i).f.pc
  · have HBN := burn_f HV hf i
    by_cases h0 : M.fuel = 0
    · have HO : Hid (jumpP M i x = trp M () 9) := by show _ = _; unfold jumpP; rw [if_pos hle]; unfold burnP; rw [if_pos h0]; rfl
      have hb0 : burnP M = trp M () 9 := if_pos h0
      rw [hb0] at HBN
      have dle : decide ((x : Int) ≤ ((M.t i).f.pc : Int)) = true := decide_eq_true (by omega)
      generalize (M.t i).f.pc = pc at *
      clear hput hfa h0 hb0 d0 d2 d3 d4
      go_enter Tryz.func88, Tryz.ntmps88
      go_wp2_with fail
      refine HBN.mono ?_; rintro e w1 hE
      rcases hE with ⟨h, _⟩ | ⟨h, _⟩ | ⟨_, rfl, hN⟩
      · cases h
      · cases h
      have HN : Hid (Nx own W m a nb tp M w1) := hN
      clear hN
      go_wp2_with fail
      simp [bodyPost]
      rw [HO.out]
      exact .inr (.inr ⟨rfl, rfl, HN.out⟩)
    · have HO : Hid (jumpP M i x = ok (setPc { M with fuel := M.fuel - 1 } i x) ()) := by show _ = _; unfold jumpP; rw [if_pos hle]; unfold burnP; rw [if_neg h0]; rfl
      have hb0 : burnP M = ok { M with fuel := M.fuel - 1 } () := if_neg h0
      rw [hb0] at HBN
      have dle : decide ((x : Int) ≤ ((M.t i).f.pc : Int)) = true := decide_eq_true (by omega)
      have HP : Hid (∀ w1, Nf own W m a nb tp i { M with fuel := M.fuel - 1 } w1 → w1.cell? ⟨fb, n * 5 + 1, none⟩ = some (i64 (M.t i).f.pc) ∧ w1.frozen? ⟨fb, n * 5 + 1, none⟩ = false ∧ Nf own W m a nb tp i (setPc { M with fuel := M.fuel - 1 } i x) (w1.setCell ⟨fb, n * 5 + 1, none⟩ (i64 x))) := by
        intro w1 h1
        obtain ⟨⟨own1, ho, hv1, hch⟩, hc1⟩ := h1
        obtain ⟨_, _, _, hz', _, d1', _, _, _, hput'⟩ := hv1.frame hi (hc1.trans hc) hfa
        refine ⟨d1', hz' _, ?_⟩
        have h2 := hput' 1 (i64 x) { (M.t i).f with pc := x } (by omega) rfl
        refine ⟨Nx.trans ho hch ?_, h2.2.trans hc1⟩
        have e : setPc { M with fuel := M.fuel - 1 } i x = Mc.setT { M with fuel := M.fuel - 1 } i { M.t i with fr := (M.t i).fr.set n { (M.t i).f with pc := x } } := by
          unfold setPc Th.setF
          show Mc.setT _ i { M.t i with fr := (M.t i).fr.set ((M.t i).fr.length - 1) _ } = _
          rw [hn, Nat.add_sub_cancel]
          rfl
        rw [e]
        exact h2.1
      generalize (M.t i).f.pc = pc at *
      clear hput hfa h0 hb0 d0 d2 d3 d4
      go_enter Tryz.func88, Tryz.ntmps88
      go_wp2_with fail
      refine HBN.mono ?_; rintro e w1 hE
      rcases hE with ⟨_, rfl, hN⟩ | ⟨h, _⟩ | ⟨h, _⟩
      · obtain ⟨t1, t2, t3⟩ := HP.out w1 hN
        have HN : Hid (Nf own W m a nb tp i (setPc { M with fuel := M.fuel - 1 } i x) (w1.setCell ⟨fb, n * 5 + 1, none⟩ (i64 x))) := t3
        clear hN t3 hz1 hz d1 HP
        go_wp2_with fail
        go_end0
        rw [HO.out]
        exact .inl ⟨rfl, rfl, HN.out⟩
      · cases h
      · cases h
  · have HO : Hid (jumpP M i x = ok (setPc M i x) ()) := by show _ = _; unfold jumpP; rw [if_neg hle]; rfl
    have dle : decide ((x : Int) ≤ ((M.t i).f.pc : Int)) = false := decide_eq_false (by omega)
    have h2 := hput 1 (i64 x) { (M.t i).f with pc := x } (by omega) rfl
    have e : setPc M i x = M.setT i { M.t i with fr := (M.t i).fr.set n { (M.t i).f with pc := x } } := by
      unfold setPc Th.setF
      rw [hn, Nat.add_sub_cancel]
    rw [← e] at h2
    have HN : Hid (Nf own W m a nb tp i (setPc M i x) (W.setCell ⟨fb, n * 5 + 1, none⟩ (i64 x))) := h2
    generalize (M.t i).f.pc = pc at *
    clear hput hfa h2 e d0 d2 d3 d4 hz
    go_enter Tryz.func88, Tryz.ntmps88
    go_wp2_with fail
    go_end0
    rw [HO.out]
    exact .inl ⟨rfl, rfl, HN.out⟩
end Go.Proofs.Qxb6500293aGreatRR
