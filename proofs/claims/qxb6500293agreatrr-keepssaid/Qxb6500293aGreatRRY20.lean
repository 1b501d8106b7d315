/-
  plain walked: constants, globals stored, ISETI.
-/
import Derived.Test.Qxb6500293aGreatRRY19
import Derived.StillTailTactics
namespace Go.Proofs.Qxb6500293aGreatRR
open Go.RowKit
open Ieee (double)
set_option linter.unusedVariables false
set_option linter.unusedSimpArgs false

/-- A region whose last steps call: the head may come in any order, the tail comes last. -/
theorem region_tail {P : Program} {id : Nat} {Q : Exit → Act → World → Prop} {a : Act} {w : World} {l : List Oper} (n : Nat) (hm : P.follows .mixedOrders = true) (hB : Region.lexTailB .any l.toArray n = true)
    (h : wpStill P l.toArray (w.drewN 1) (fun a' => wpList P l.toArray Q (l.drop n) a' (w.drewN 1)) (l.take n) a) : (Code.region id l.toArray true).wp P Q a w :=
  wp_region_still_tail n hm hB h
/-- pop, in the midst: all but the arena of threads lies as it lay. -/
theorem Rm.popB {own : Nat → Nat} {W w : World} {m a nb tp i : Nat} {B : List (Nat × Obj)} {M : Mc} (h : Rm own W m a nb tp i B M w) (hi : i < M.th.length) (h1 : 1 ≤ (M.t i).sk.length) (hs : (M.t i).sk.length ≤ 20000) :
    Calls Tryz.prog 89 #[.pointer (some ⟨a, i * 5, none⟩)] w fun e W' => e = .returned (valV (topP M i)) ∧ Rm own W m a nb tp i B (dropP M i) W' ∧ (∀ k, k < w.heap.size → k ≠ a → W'.heap[k]? = w.heap[k]?) ∧ w.heap.size ≤ W'.heap.size := by
  obtain ⟨own1, hv, hN⟩ := h.vm
  obtain ⟨sb, scp, t1, _⟩ := hv.skE hi (k := (M.t i).sk.length - 1) (by omega)
  obtain ⟨n, hn⟩ : ∃ n, (M.t i).sk.length = n + 1 := ⟨(M.t i).sk.length - 1, by omega⟩
  rw [hn] at t1
  refine (pop_keeps hv hi h1 hs t1).mono ?_
  rintro e w2 ⟨rfl, hn2, _, hk⟩
  refine ⟨rfl, hN _ _ hn2, hk, ?_⟩
  obtain ⟨⟨_, _, _, hch⟩, _⟩ := hn2
  exact hch.size
section
variable {own : Nat → Nat} {w : World} {m a nb tp i : Nat} {α : Type} {o : Ou α} {val : α → Value} {n : Nat} {args : Array Value}
/-- A callee whose end is known. -/
theorem OuEf.k0 (h : Calls Tryz.prog n args w (OuEf own w m a nb tp i o val)) (hk : o.k = 0) : Calls Tryz.prog n args w fun e w' => e = .returned (val o.x) ∧ OuEf own w m a nb tp i o val e w' := by
  refine h.mono ?_
  rintro e w' hE
  refine ⟨?_, hE⟩
  rcases hE with ⟨_, h1, _⟩ | ⟨h1, _⟩ | ⟨h1, _⟩
  · exact h1
  · omega
  · omega
theorem OuEf.k2 (h : Calls Tryz.prog n args w (OuEf own w m a nb tp i o val)) (hk : o.k = 2) : Calls Tryz.prog n args w fun e w' => (∃ b, e = thrE b) ∧ OuEf own w m a nb tp i o val e w' := by
  refine h.mono ?_
  rintro e w' hE
  refine ⟨?_, hE⟩
  rcases hE with ⟨h1, _⟩ | ⟨_, ⟨b, h1, _⟩, _⟩ | ⟨h1, _⟩
  · omega
  · exact ⟨b, h1⟩
  · omega
theorem OuEf.k3 (h : Calls Tryz.prog n args w (OuEf own w m a nb tp i o val)) (hk : o.k = 3) : Calls Tryz.prog n args w fun e w' => e = trapE o.e ∧ OuEf own w m a nb tp i o val e w' := by
  refine h.mono ?_
  rintro e w' hE
  refine ⟨?_, hE⟩
  rcases hE with ⟨h1, _⟩ | ⟨h1, _⟩ | ⟨_, h1, _⟩
  · omega
  · omega
  · exact h1
end
theorem storeP_k (M : Mc) (h : Int) (k v : V) : (storeP M h k v).k = 0 ∨ (storeP M h k v).k = 2 ∨ (storeP M h k v).k = 3 := by
  unfold storeP
  simp only
  split
  · exact .inr (.inr rfl)
  split
  · exact .inr (.inl rfl)
  · exact .inl rfl
theorem Vm.col {own : Nat → Nat} {W : World} {m a nb tp : Nat} {M : Mc} (HV : Vm own W m a nb tp M) : own m = 400 ∧ own a = 440 ∧ m ≠ a ∧ m < W.heap.size := by
  obtain ⟨vals, L, H⟩ := HV
  exact ⟨H.mc, H.ac, H.ma, H.mlt⟩
set_option maxRecDepth 16000 in
set_option maxHeartbeats 1000000 in
theorem plain_1 {own : Nat → Nat} {W : World} {m a nb tp : Nat} {M : Mc} (HV : Vm own W m a nb tp M) {i : Nat} (hi : i < M.th.length) {fb n pb P sl base ns kk clo : Nat} {ad : Option Addr} {scp : Nat} (hC : PlC W m a M i fb n pb P sl base ns kk clo ad scp) (x : Nat) (hkx : kk + x < M.ks.length) (hx : x < 65536) :
    Calls Tryz.prog 92 #[.pointer (some ⟨m, 0, none⟩), i64 i, .pointer (some ⟨a, i * 5, none⟩), .pointer (some ⟨fb, n * 5, none⟩), .pointer (some ⟨pb, P * 8, none⟩), .int .u8 1, i64 x] W (OuEf own W m a nb tp i (plainP M i 1 x) (fun _ => .tuple #[])) := by
  have HHV : Hid (Vm own W m a nb tp M) := HV
  have HO1 : Hid (plainP M i 1 x = ok (pushP M i [M.ks[(M.p (M.t i).f.clo).k + x]?.getD nilV]) ()) := rfl
  obtain ⟨s1, s2, f2, f0, p1, p4, hle, hs9, hk9, HE, fl, pl⟩ := hC
  obtain ⟨kb, kcp, k1, k2, k3, k4, k5, k6, k7⟩ := HV.ksE (k := kk + x) hkx
  rw [Nat.add_mul] at k5 k6 k7
  obtain ⟨kv, hkv⟩ : ∃ kv, kv = M.ks[kk + x]?.getD nilV := ⟨_, rfl⟩
  rw [← hkv] at k5 k6 k7
  have HKV : Hid (kv = M.ks[(M.p (M.t i).f.clo).k + x]?.getD nilV) := by rw [← HE.out.2.2.2.1]; exact hkv
  clear hkv
  obtain ⟨kT, kN, kS⟩ := kv
  simp only at k5 k6 k7
  have hwk : IntKind.i64.wrap ((kk : Int) + (x : Int)) = ((kk + x : Nat) : Int) := by rw [IntWalk.i64_in _ ⟨by omega, by omega⟩, Int.natCast_add]
  generalize hKL : M.ks.length = kl at *
  have HKL : Hid (M.ks.length = kl) := hKL
  clear hKL
  go_enter Tryz.func92, Tryz.ntmps92
  go_wp2_with fail
  go_quiet (fail)
  rw [Nat.add_sub_cancel_left]
  generalize (if scp = base then ad else Option.map (fun x => x.add (base * 3)) ad) = adx
  have R0 : Rm own W m a nb tp i [] M (W.drewN nq) := (Rm.start HHV.out).below (below_drewN (Below.refl _ _) _)
  have g2 : (W.drewN nq).cell? ⟨fb, n * 5 + 2, none⟩ = some (i64 base) := f2
  have g0 : (W.drewN nq).cell? ⟨fb, n * 5, none⟩ = some (i64 clo) := f0
  have gl : fb < (W.drewN nq).heap.size := fl
  have hcq : (W.drewN nq).cell? ⟨a, i * 5 + 3, none⟩ = W.cell? ⟨a, i * 5 + 3, none⟩ := rfl
  have v1 : (W.drewN nq).cell? ⟨m, 4, none⟩ = some (.slice (some ⟨kb, 0, none⟩) kl kcp) := k1
  have v5 : (W.drewN nq).cell? ⟨kb, kk * 3 + x * 3, none⟩ = some (.int .i64 kT) := k5
  have v6 : (W.drewN nq).cell? ⟨kb, kk * 3 + x * 3 + 1, none⟩ = some (.int .u64 (kN : Int)) := k6
  have v7 : (W.drewN nq).cell? ⟨kb, kk * 3 + x * 3 + 2, none⟩ = some (.string ⟨kS.toArray⟩) := k7
  have v4 : (W.drewN nq).cell? ⟨pb, P * 8 + 4, none⟩ = some (i64 kk) := p4
  have vl : kb < (W.drewN nq).heap.size := k3
  have pbl : pb < (W.drewN nq).heap.size := pl
  clear s1 f2 f0 p1 p4 fl pl k1 k5 k6 k7 k3
  generalize W.drewN nq = w0 at *
  have HSL : Hid (sl = (M.t i).sk.length) := HE.out.1
  obtain ⟨qa0, qa1, qam⟩ := R0.rn.cellM
  have HO : Hid (plainP M i 1 x = ok (pushP M i [⟨kT, kN, kS⟩]) ()) := by rw [HO1.out, ← HKV.out]; exact rfl
  have HPU := (R0.below (below_drewN (Below.refl _ _) 1)).rn.weak.push rfl hi (by have := HSL.out; omega) kT kN kS (n := w0.heap.size) rfl
  have e13 : kk * 3 + x * 3 = (kk + x) * 3 := by rw [Nat.add_mul]
  rw [e13] at v5 v6 v7
  clear HV R0 HO1 e13
  go_wp2_with fail
  go_region_with (go_at_call 60; refine HPU.mono ?_; rintro e w9 ⟨rfl, hN⟩; have HN : Hid (Nf own W m a nb tp i (pushP M i [⟨kT, kN, kS⟩]) w9) := hN; clear hN)
  all_goals
    go_wp2_with fail
    go_end0
    rw [HO.out]
    exact .inl ⟨rfl, rfl, HN.out⟩
set_option maxRecDepth 16000 in
set_option maxHeartbeats 1000000 in
theorem plain_10 {own : Nat → Nat} {W : World} {m a nb tp : Nat} {M : Mc} (HV : Vm own W m a nb tp M) {i : Nat} (hi : i < M.th.length) {fb n pb P sl base ns kk clo : Nat} {ad : Option Addr} {scp : Nat} (hC : PlC W m a M i fb n pb P sl base ns kk clo ad scp) (x : Nat) (hkx : kk + x < M.ks.length) (hx : x < 65536) (h1 : 1 ≤ (M.t i).sk.length) (hpa : pb ≠ a) (hok : (topP M i).Ok) (hkok : (M.ks[(M.p (M.t i).f.clo).k + x]?.getD nilV).Ok) :
    Calls Tryz.prog 92 #[.pointer (some ⟨m, 0, none⟩), i64 i, .pointer (some ⟨a, i * 5, none⟩), .pointer (some ⟨fb, n * 5, none⟩), .pointer (some ⟨pb, P * 8, none⟩), .int .u8 10, i64 x] W (OuEf own W m a nb tp i (plainP M i 10 x) (fun _ => .tuple #[])) := by
  have HHV : Hid (Vm own W m a nb tp M) := HV
  have HO1 : Hid (plainP M i 10 x = storeP (dropP M i) 0 (M.ks[(M.p (M.t i).f.clo).k + x]?.getD nilV) (topP M i)) := rfl
  obtain ⟨v, hv⟩ : ∃ v, v = topP M i := ⟨_, rfl⟩
  rw [← hv] at HO1 hok
  have HTP : Hid (topP M i = v ∧ v.Ok ∧ (M.ks[(M.p (M.t i).f.clo).k + x]?.getD nilV).Ok) := ⟨hv.symm, hok, hkok⟩
  clear hv hok hkok
  obtain ⟨vT, vN, vS⟩ := v
  obtain ⟨s1, s2, f2, f0, p1, p4, hle, hs9, hk9, HE, fl, pl⟩ := hC
  obtain ⟨kb, kcp, k1, k2, k3, k4, k5, k6, k7⟩ := HV.ksE (k := kk + x) hkx
  rw [Nat.add_mul] at k5 k6 k7
  obtain ⟨o400, o440, hma, _⟩ := HV.col
  have hka : kb ≠ a := by rintro rfl; omega
  obtain ⟨kv, hkv⟩ : ∃ kv, kv = M.ks[kk + x]?.getD nilV := ⟨_, rfl⟩
  rw [← hkv] at k5 k6 k7
  have HKV : Hid (kv = M.ks[(M.p (M.t i).f.clo).k + x]?.getD nilV) := by rw [← HE.out.2.2.2.1]; exact hkv
  clear hkv
  obtain ⟨kT, kN, kS⟩ := kv
  simp only at k5 k6 k7
  have hwk : IntKind.i64.wrap ((kk : Int) + (x : Int)) = ((kk + x : Nat) : Int) := by rw [IntWalk.i64_in _ ⟨by omega, by omega⟩, Int.natCast_add]
  generalize hKL : M.ks.length = kl at *
  have HKL : Hid (M.ks.length = kl) := hKL
  clear hKL
  go_enter Tryz.func92, Tryz.ntmps92
  go_wp2_with fail
  go_quiet (fail)
  rw [Nat.add_sub_cancel_left]
  generalize (if scp = base then ad else Option.map (fun x => x.add (base * 3)) ad) = adx
  have R0 : Rm own W m a nb tp i [] M (W.drewN nq) := (Rm.start HHV.out).below (below_drewN (Below.refl _ _) _)
  have g2 : (W.drewN nq).cell? ⟨fb, n * 5 + 2, none⟩ = some (i64 base) := f2
  have g0 : (W.drewN nq).cell? ⟨fb, n * 5, none⟩ = some (i64 clo) := f0
  have gl : fb < (W.drewN nq).heap.size := fl
  have hcq : (W.drewN nq).cell? ⟨a, i * 5 + 3, none⟩ = W.cell? ⟨a, i * 5 + 3, none⟩ := rfl
  have v1 : (W.drewN nq).cell? ⟨m, 4, none⟩ = some (.slice (some ⟨kb, 0, none⟩) kl kcp) := k1
  have v5 : (W.drewN nq).cell? ⟨kb, kk * 3 + x * 3, none⟩ = some (.int .i64 kT) := k5
  have v6 : (W.drewN nq).cell? ⟨kb, kk * 3 + x * 3 + 1, none⟩ = some (.int .u64 (kN : Int)) := k6
  have v7 : (W.drewN nq).cell? ⟨kb, kk * 3 + x * 3 + 2, none⟩ = some (.string ⟨kS.toArray⟩) := k7
  have v4 : (W.drewN nq).cell? ⟨pb, P * 8 + 4, none⟩ = some (i64 kk) := p4
  have vl : kb < (W.drewN nq).heap.size := k3
  have pbl : pb < (W.drewN nq).heap.size := pl
  clear s1 f2 f0 p1 p4 fl pl k1 k5 k6 k7 k3
  generalize W.drewN nq = w0 at *
  have HSL : Hid (sl = (M.t i).sk.length) := HE.out.1
  obtain ⟨qa0, qa1, qam⟩ := R0.rn.cellM
  have HO : Hid (plainP M i 10 x = storeP (dropP M i) 0 ⟨kT, kN, kS⟩ ⟨vT, vN, vS⟩) := by rw [HO1.out, ← HKV.out]; exact rfl
  have HKO : Hid ((⟨kT, kN, kS⟩ : V).Ok ∧ (⟨vT, vN, vS⟩ : V).Ok) := ⟨by rw [HKV.out]; exact HTP.out.2.2, HTP.out.2.1⟩
  have HP := R0.popB hi h1 (by have := HSL.out; omega)
  rw [HTP.out.1, valV_mk] at HP
  have e13 : kk * 3 + x * 3 = (kk + x) * 3 := by rw [Nat.add_mul]
  rw [e13] at v5 v6 v7
  have HBL : Hid (w0.cell? ⟨m, 4, none⟩ = some (.slice (some ⟨kb, 0, none⟩) kl kcp) ∧ w0.cell? ⟨kb, (kk + x) * 3, none⟩ = some (.int .i64 kT) ∧ w0.cell? ⟨kb, (kk + x) * 3 + 1, none⟩ = some (.int .u64 (kN : Int)) ∧ w0.cell? ⟨kb, (kk + x) * 3 + 2, none⟩ = some (.string ⟨kS.toArray⟩) ∧ w0.cell? ⟨pb, P * 8 + 4, none⟩ = some (i64 kk)) := ⟨v1, v5, v6, v7, v4⟩
  clear HV R0 HO1 e13 v1 v5 v6 v7 v4 g0 g2 HKV HTP
  go_wp2_with fail
  refine HP.mono ?_; rintro e w1 ⟨rfl, R1', hkp, hsz⟩
  obtain ⟨b1, b2, b3, b4, b5⟩ := HBL.out
  have x1 := (World.cell?_of_block (a := ⟨m, 4, none⟩) (hkp m qam hma)).trans b1
  have x2 := (World.cell?_of_block (a := ⟨kb, (kk + x) * 3, none⟩) (hkp kb vl hka)).trans b2
  have x3 := (World.cell?_of_block (a := ⟨kb, (kk + x) * 3 + 1, none⟩) (hkp kb vl hka)).trans b3
  have x4 := (World.cell?_of_block (a := ⟨kb, (kk + x) * 3 + 2, none⟩) (hkp kb vl hka)).trans b4
  have x5 := (World.cell?_of_block (a := ⟨pb, P * 8 + 4, none⟩) (hkp pb pbl hpa)).trans b5
  obtain ⟨own9, hv9, _⟩ := R1'.vm
  have l1 : m < w1.heap.size := by omega
  have l2 : kb < w1.heap.size := by omega
  have l3 : pb < w1.heap.size := by omega
  have R1 := (R1'.alloc (vBox vT vN vS) rfl).below (below_drewN (Below.refl _ _) 1)
  obtain ⟨own2, hv2, _, ho2⟩ := R1.vmO
  have HST := store_any hv2 0 ⟨kT, kN, kS⟩ ⟨vT, vN, vS⟩ HKO.out.1 HKO.out.2 i
  rw [valV_mk, valV_mk] at HST
  have HOT : Hid (∀ e w5, OuEf own2 ((w1.alloc (vBox vT vN vS)).drewN 1) m a nb tp i (storeP (dropP M i) ((0 : Nat) : Int) ⟨kT, kN, kS⟩ ⟨vT, vN, vS⟩) (fun _ => .tuple #[]) e w5 → OuEf own W m a nb tp i (storeP (dropP M i) ((0 : Nat) : Int) ⟨kT, kN, kS⟩ ⟨vT, vN, vS⟩) (fun _ => .tuple #[]) e w5) := fun e w5 h => ho2 h
  have HST : Calls Tryz.prog 106 #[.pointer (some ⟨m, 0, none⟩), .int .i64 0, .agg #[.int .i64 kT, .int .u64 (kN : Int), .string ⟨kS.toArray⟩], .agg #[.int .i64 vT, .int .u64 (vN : Int), .string ⟨vS.toArray⟩]] ((w1.alloc (vBox vT vN vS)).drewN 1) (OuEf own2 ((w1.alloc (vBox vT vN vS)).drewN 1) m a nb tp i (storeP (dropP M i) ((0 : Nat) : Int) ⟨kT, kN, kS⟩ ⟨vT, vN, vS⟩) (fun _ => .tuple #[])) := HST
  have hok := storeP_k (dropP M i) ((0 : Nat) : Int) ⟨kT, kN, kS⟩ ⟨vT, vN, vS⟩
  have HO : Hid (plainP M i 10 x = storeP (dropP M i) ((0 : Nat) : Int) ⟨kT, kN, kS⟩ ⟨vT, vN, vS⟩) := HO.out
  clear hv2 ho2 R1 R1' hv9 HP hkp b1 b2 b3 b4 b5 HBL HKO
  go_wp2_with fail
  have hbd1 : (0 : Int) ≤ (kk : Int) + (x : Int) := by omega
  have hbd2 : (kk : Int) + (x : Int) < (kl : Int) := by omega
  have hbd3 : ((kk : Int) + (x : Int)).toNat = kk + x := by omega
  refine region_tail 14 (by kernel_rfl) (by kernel_rfl) ?_
  simp only [List.take_succ_cons, List.take_zero, List.drop_succ_cons, List.drop_zero]
  repeat (refine wpStill_step (fun K hK => ?_); go_simp; (try go_bits); refine hK _ ?_; clear hK K)
  refine wpStill_nil ?_
  go_wp2_with fail
  refine HST.mono ?_; rintro e w5 hE
  have HE5 : Hid (OuEf own W m a nb tp i (storeP (dropP M i) ((0 : Nat) : Int) ⟨kT, kN, kS⟩ ⟨vT, vN, vS⟩) (fun _ => .tuple #[]) e w5) := HOT.out _ _ hE
  clear HOT HST
  rcases hE with ⟨_, rfl, _⟩ | ⟨_, ⟨bb, rfl, _, _⟩, _⟩ | ⟨_, rfl, _⟩
  · go_wp2_with fail
    go_end0
    rw [HO.out]
    exact HE5.out
  · go_wp2_with fail
    simp [bodyPost]
    rw [HO.out]
    exact HE5.out
  · go_wp2_with fail
    simp [bodyPost]
    rw [HO.out]
    exact HE5.out
end Go.Proofs.Qxb6500293aGreatRR
