/-
  setUp walked; a slot is stored.
-/
import Derived.Test.Qxb6500293aGreatRRX21
namespace Go.Proofs.Qxb6500293aGreatRR
open Go.RowKit
set_option linter.unusedVariables false
set_option linter.unusedSimpArgs false

def put3 (W : World) (b o : Nat) (v : V) : World := ((W.setCell ⟨b, o, none⟩ (.int .i64 v.T)).setCell ⟨b, o + 1, none⟩ (.int .u64 (v.N : Int))).setCell ⟨b, o + 2, none⟩ (.string ⟨v.S.toArray⟩)
theorem put3_all (W : World) (b o : Nat) (v : V) : (put3 W b o v).os = W.os ∧ (put3 W b o v).tape = W.tape ∧ (put3 W b o v).output = W.output ∧ (put3 W b o v).heap.size = W.heap.size ∧ ∀ k, k ≠ b → (put3 W b o v).heap[k]? = W.heap[k]? := by
  unfold put3
  refine ⟨by simp only [os_set], by simp only [tape_set], by simp only [output_set], by simp only [size_set], fun k hk => ?_⟩
  rw [Below.heap_setCell _ _ _ _ hk, Below.heap_setCell _ _ _ _ hk, Below.heap_setCell _ _ _ _ hk]
theorem row_put3 {W : World} {b cp j : Nat} {l : List V} (h : W.ownsRow 0 33 3 (.slice (some ⟨b, 0, none⟩) l.length cp) l.length (l.flatMap valC)) (hj : j < l.length) (v : V) : (put3 W b (j * 3) v).ownsRow 0 33 3 (.slice (some ⟨b, 0, none⟩) l.length cp) l.length ((l.set j v).flatMap valC) := by
  obtain ⟨x, hx⟩ : ∃ x, l[j]? = some x := ⟨_, List.getElem?_eq_getElem hj⟩
  have h1 := row_set1 h (show j * 3 + 0 < l.length * 3 by omega) (.int .i64 v.T)
  rw [flat_set1 valC_len hx (by omega) (show (valC x).set 0 (.int .i64 v.T) = valC ⟨v.T, x.N, x.S⟩ from rfl)] at h1
  have h2 := row_set1 h1 (show j * 3 + 1 < l.length * 3 by omega) (.int .u64 (v.N : Int))
  rw [flat_set1 valC_len (a := ⟨v.T, x.N, x.S⟩) (by rw [List.getElem?_set, if_pos rfl, if_pos hj]) (by omega) (show (valC ⟨v.T, x.N, x.S⟩).set 1 (.int .u64 (v.N : Int)) = valC ⟨v.T, v.N, x.S⟩ from rfl), List.set_set] at h2
  have h3 := row_set1 h2 (show j * 3 + 2 < l.length * 3 by omega) (.string ⟨v.S.toArray⟩)
  rw [flat_set1 valC_len (a := ⟨v.T, v.N, x.S⟩) (by rw [List.getElem?_set, if_pos rfl, if_pos hj]) (by omega) (show (valC ⟨v.T, v.N, x.S⟩).set 2 (.string ⟨v.S.toArray⟩) = valC v from rfl), List.set_set] at h3
  exact h3
section
variable {own : Nat → Nat} {W : World} {m a nb tp : Nat} {M : Mc}
/-- A slot of thread k's stack is stored. -/
theorem Vm.skPut (HV : Vm own W m a nb tp M) {k : Nat} (hk : k < M.th.length) {j : Nat} (hj : j < (M.t k).sk.length) {sb n cp : Nat} (hc : W.cell? ⟨a, k * 5 + 2, none⟩ = some (.slice (some ⟨sb, 0, none⟩) n cp)) (v : V) (i : Nat) : Nf own W m a nb tp i (M.setT k { M.t k with sk := (M.t k).sk.set j v }) (put3 W sb (j * 3) v) := by
  obtain ⟨vals, L, H⟩ := HV
  obtain ⟨e1, h5, e2⟩ := H.thr hk
  have hL := H.hL
  obtain ⟨c2, hrow, hcol⟩ := H.skRow hk
  obtain ⟨ad, cp', hv⟩ := row_slice hrow
  rw [hc, hv] at c2
  cases c2
  rw [hv] at hrow hcol
  have hr2 := row_put3 hrow hj v
  obtain ⟨g1, g2, g3, g4, g5⟩ := put3_all W sb (j * 3) v
  generalize put3 W sb (j * 3) v = W' at *
  have hsa : sb ≠ a := by
    rintro rfl
    have h1 : own sb = 409 + 3 * k := hcol sb rfl
    have h2 := H.ac
    omega
  have e3 : ((L.set k { M.t k with sk := (M.t k).sk.set j v })[k]?).getD dT = { M.t k with sk := (M.t k).sk.set j v } := by rw [List.getElem?_set, if_pos rfl, if_pos (by omega)]; rfl
  have h := H.setElem (j := 8 + 3 * k) (by omega) (W' := W') (b := sb) (by rw [hv]; rfl) g5 g1 g2 g3 g4 (M.setT k { M.t k with sk := (M.t k).sk.set j v }) (L.set k { M.t k with sk := (M.t k).sk.set j v }) ?_ ?_ rfl rfl rfl (by simp [Mc.setT]) ?_ (by simpa using hL) (take_setT M L k _ H.pre)
  · exact ⟨⟨own, fun _ _ => rfl, ⟨_, _, h.1⟩, h.2⟩, World.cell?_of_block (a := ⟨a, i * 5 + 3, none⟩) (g5 a hsa.symm)⟩
  · rw [row_sk, e3, hv]
    show World.ownsRow _ 0 33 3 _ ((M.t k).sk.set j v).length _
    rw [List.length_set]
    exact hr2
  · intro q hq hn
    exact row_thread M L k _ q hq (by omega) (fun h => absurd h hn) (fun _ => by rw [e1]) (fun _ => by rw [e1])
  · intro q hq
    rw [List.getElem?_set]
    by_cases c : k = q
    · subst c
      rw [if_pos rfl, if_pos (by omega), e1]
      exact ⟨rfl, rfl⟩
    · rw [if_neg c]
      exact ⟨rfl, rfl⟩
/-- A cell's value is stored. -/
theorem Vm.cePut (HV : Vm own W m a nb tp M) {x : Nat} (hx : x < M.ce.length) {cb n cp : Nat} (hc : W.cell? ⟨m, 8, none⟩ = some (.slice (some ⟨cb, 0, none⟩) n cp)) (v : V) (i : Nat) : Nf own W m a nb tp i { M with ce := M.ce.set x { M.x x with v := v } } (put3 W cb (x * 5 + 2) v) := by
  obtain ⟨vals, L, H⟩ := HV
  obtain ⟨e8, erow, ecol⟩ := H.ceRow
  obtain ⟨ad, cp', hv⟩ := row_slice erow
  rw [hc, hv] at e8
  cases e8
  have hv' := hv
  rw [hv] at erow
  obtain ⟨g1, g2, g3, g4, g5⟩ := put3_all W cb (x * 5 + 2) v
  have hxx : M.ce[x]? = some (M.x x) := at_some hx
  refine H.ceSet hv' hx _ g5 g1 g2 g3 g4 ?_ i
  have h1 := row_set1 erow (show x * 5 + 2 < M.ce.length * 5 by omega) (.int .i64 v.T)
  rw [flat_set1 ceC_len hxx (by omega) (show (ceC (M.x x)).set 2 (.int .i64 v.T) = ceC ⟨(M.x x).th, (M.x x).at', ⟨v.T, (M.x x).v.N, (M.x x).v.S⟩⟩ from rfl)] at h1
  have h2 := row_set1 h1 (show x * 5 + 3 < M.ce.length * 5 by omega) (.int .u64 (v.N : Int))
  rw [flat_set1 ceC_len (a := ⟨(M.x x).th, (M.x x).at', ⟨v.T, (M.x x).v.N, (M.x x).v.S⟩⟩) (by rw [List.getElem?_set, if_pos rfl, if_pos hx]) (by omega) (show (ceC ⟨(M.x x).th, (M.x x).at', ⟨v.T, (M.x x).v.N, (M.x x).v.S⟩⟩).set 3 (.int .u64 (v.N : Int)) = ceC ⟨(M.x x).th, (M.x x).at', ⟨v.T, v.N, (M.x x).v.S⟩⟩ from rfl), List.set_set] at h2
  have h3 := row_set1 h2 (show x * 5 + 4 < M.ce.length * 5 by omega) (.string ⟨v.S.toArray⟩)
  rw [flat_set1 ceC_len (a := ⟨(M.x x).th, (M.x x).at', ⟨v.T, v.N, (M.x x).v.S⟩⟩) (by rw [List.getElem?_set, if_pos rfl, if_pos hx]) (by omega) (show (ceC ⟨(M.x x).th, (M.x x).at', ⟨v.T, v.N, (M.x x).v.S⟩⟩).set 4 (.string ⟨v.S.toArray⟩) = ceC ⟨(M.x x).th, (M.x x).at', v⟩ from rfl), List.set_set] at h3
  exact h3
end
def setUpP (M : Mc) (c x : Nat) (v : V) : Mc :=
  let u := upX M c x
  if 0 ≤ (M.x u).th then M.setT (M.x u).th.toNat { M.t (M.x u).th.toNat with sk := (M.t (M.x u).th.toNat).sk.set (M.x u).at' v } else { M with ce := M.ce.set u { M.x u with v := v } }
set_option maxRecDepth 8000 in
set_option maxHeartbeats 1600000 in
theorem setUp_any {own : Nat → Nat} {W : World} {m a nb tp : Nat} {M : Mc} (HV : Vm own W m a nb tp M) {c x : Nat} (h : UpOk M c x) {fb fo : Nat} (hf : W.cell? ⟨fb, fo, none⟩ = some (i64 c)) (hfl : fb < W.heap.size) (v : V) (i : Nat) :
    Calls Tryz.prog 104 #[.pointer (some ⟨m, 0, none⟩), .pointer (some ⟨fb, fo, none⟩), i64 x, valV v] W fun e W' => e = .returned (.tuple #[]) ∧ Nf own W m a nb tp i (setUpP M c x v) W' := by
  obtain ⟨vT, vN, vS⟩ := v
  have HV1 := HV
  have HV := HV.below (below_one W (vBox vT vN vS))
  have hf := ((below_one W (vBox vT vN vS)).cell (p := ⟨fb, fo, none⟩) hfl).trans hf
  have HFR : Hid (∀ w', Nf own (W.alloc (vBox vT vN vS)) m a nb tp i (setUpP M c x ⟨vT, vN, vS⟩) w' → Nf own W m a nb tp i (setUpP M c x ⟨vT, vN, vS⟩) w') := by
    intro w' hw
    have ha := HV1.alt
    refine ⟨Nx.trans (fun _ _ => rfl) (ChgV.of_below (below_one _ _)) hw.1, hw.2.trans ((below_one W (vBox vT vN vS)).cell (p := ⟨a, i * 5 + 3, none⟩) ha)⟩
  have HV0 : Hid (Vm own (W.alloc (vBox vT vN vS)) m a nb tp M) := HV
  obtain ⟨hc, hu, he, ho, lc, lu, le, ls⟩ := h
  obtain ⟨cb, ccp, c1, c2, c3, c4, _, c6, _⟩ := HV.csE hc
  obtain ⟨ub, ucp, u1, u2, u3, u4, u5⟩ := HV.uxE hu
  obtain ⟨eb, ecp, e1, e2, e3, e4, ez, e5, e6, e7, e8, e9⟩ := HV.ceE he
  obtain ⟨t1, t2⟩ := HV.c9V
  have b0 : (W.alloc (vBox vT vN vS)).cell? ⟨W.heap.size, 0, none⟩ = some (.int .i64 vT) := (cells3 (World.alloc_heap_new _ _)).1
  have b1 : (W.alloc (vBox vT vN vS)).cell? ⟨W.heap.size, 1, none⟩ = some (.int .u64 (vN : Int)) := (cells3 (World.alloc_heap_new _ _)).2.1
  have b2 : (W.alloc (vBox vT vN vS)).cell? ⟨W.heap.size, 2, none⟩ = some (.string ⟨vS.toArray⟩) := (cells3 (World.alloc_heap_new _ _)).2.2.1
  have hup : M.ux[(M.c c).up + x]?.getD 0 = upX M c x := rfl
  rw [hup] at u5
  have hsz : (W.alloc (vBox vT vN vS)).heap.size = W.heap.size + 1 := by simp
  by_cases hop : 0 ≤ (M.x (upX M c x)).th
  · obtain ⟨ho1, ho2⟩ := ho hop
    obtain ⟨k, hk⟩ : ∃ k : Nat, (M.x (upX M c x)).th = (k : Int) := ⟨_, (Int.toNat_of_nonneg hop).symm⟩
    rw [hk, Int.toNat_natCast] at ho1 ho2
    obtain ⟨sb, scp, s1, s2, s3, s4, s5, sz, s6, s7, s8⟩ := HV.skE ho1 ho2
    have hls := ls _ (Mc.t_mem ho1)
    have HO : Hid (∀ q, Nf own W m a nb tp i (setUpP M c x ⟨vT, vN, vS⟩) (put3 ((W.alloc (vBox vT vN vS)).drewN q) sb ((M.x (upX M c x)).at' * 3) ⟨vT, vN, vS⟩)) := by
      intro q
      have hb := below_drewN (Below.refl (W.alloc (vBox vT vN vS)).heap.size (W.alloc (vBox vT vN vS))) q
      have h1 := (HV.below hb).skPut ho1 ho2 (hc := s1) ⟨vT, vN, vS⟩ i
      have e : setUpP M c x ⟨vT, vN, vS⟩ = M.setT k { M.t k with sk := (M.t k).sk.set (M.x (upX M c x)).at' ⟨vT, vN, vS⟩ } := by
        unfold setUpP
        rw [if_pos hop, hk, Int.toNat_natCast]
      refine HFR.out _ ?_
      rw [e]
      exact ⟨Nx.trans (fun _ _ => rfl) (ChgV.of_below hb) h1.1, h1.2⟩
    simp only [put3] at HO
    rw [hk] at e5
    have dk : decide (0 ≤ (k : Int)) = true := decide_eq_true (by omega)
    have q6 := sz
    generalize (M.t k).sk[(M.x (upX M c x)).at']?.getD nilV = ov at *
    obtain ⟨oT, oN, oS⟩ := ov
    simp only at s6 s7 s8
    generalize (M.x (upX M c x)).at' = at' at *
    generalize (M.c c).up = cup at *
    generalize upX M c x = ux at *
    generalize (M.t k).sk.length = sl at *
    generalize M.th.length = tl at *
    generalize M.ce.length = cl at *
    generalize M.cs.length = csl at *
    generalize M.ux.length = uxl at *
    rw [valV_mk]
    clear HV HV1 ls e7 e8 e9 ho hop
    go_enter Tryz.func104, Tryz.ntmps104
    go_wp2_with fail
    go_quiet (fail)
    go_wp2_with fail
    go_region
    all_goals go_wp2_with fail
    all_goals
      go_end0
      exact ⟨rfl, HO.out _⟩
  · have HO : Hid (∀ q, Nf own W m a nb tp i (setUpP M c x ⟨vT, vN, vS⟩) (put3 ((W.alloc (vBox vT vN vS)).drewN q) eb (upX M c x * 5 + 2) ⟨vT, vN, vS⟩)) := by
      intro q
      have hb := below_drewN (Below.refl (W.alloc (vBox vT vN vS)).heap.size (W.alloc (vBox vT vN vS))) q
      have h1 := (HV.below hb).cePut he (hc := e1) ⟨vT, vN, vS⟩ i
      have e : setUpP M c x ⟨vT, vN, vS⟩ = { M with ce := M.ce.set (upX M c x) { M.x (upX M c x) with v := ⟨vT, vN, vS⟩ } } := by
        unfold setUpP
        rw [if_neg hop]
      refine HFR.out _ ?_
      rw [e]
      exact ⟨Nx.trans (fun _ _ => rfl) (ChgV.of_below hb) h1.1, h1.2⟩
    simp only [put3, Nat.add_assoc, Nat.reduceAdd] at HO
    have dk : decide (0 ≤ (M.x (upX M c x)).th) = false := decide_eq_false hop
    generalize (M.x (upX M c x)).v = ov at *
    obtain ⟨oT, oN, oS⟩ := ov
    simp only at e7 e8 e9
    generalize (M.x (upX M c x)).th = eth at *
    generalize (M.c c).up = cup at *
    generalize upX M c x = ux at *
    generalize M.th.length = tl at *
    generalize M.ce.length = cl at *
    generalize M.cs.length = csl at *
    generalize M.ux.length = uxl at *
    rw [valV_mk]
    clear HV HV1 ls ho hop
    go_enter Tryz.func104, Tryz.ntmps104
    go_wp2_with fail
    go_quiet (fail)
    go_wp2_with fail
    go_end0
    exact ⟨rfl, HO.out _⟩
end Go.Proofs.Qxb6500293aGreatRR
