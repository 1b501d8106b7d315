/-
  oper walked: the operators of two operands, and #.
-/
import Derived.Test.Qxb6500293aGreatRRY14
namespace Go.Proofs.Qxb6500293aGreatRR
open Go.RowKit
open Ieee (double)
set_option linter.unusedVariables false
set_option linter.unusedSimpArgs false

theorem raise_end (s : List UInt8) (W : World) : Calls Tryz.prog 94 #[.string ⟨s.toArray⟩] W (ThrEnd W (str s)) := by
  refine (raise_any s W).mono ?_
  rintro e w ⟨rfl, rfl⟩
  exact ⟨_, rfl, Nat.le_refl _, World.alloc_heap_new _ _, below_one _ _⟩
theorem brdF_le (t : Tbl) : ∀ (k n : Nat), brdF t k n ≤ n + k
  | 0, n => Nat.le_refl _
  | k + 1, n => by
    unfold brdF
    split
    · have := brdF_le t k (n + 1)
      omega
    · omega
theorem fromInt_nat (p : Value) (n : Nat) (w : World) (hn : n ≤ 9007199254740992) : Calls Tryz.prog 45 #[p, .int .i64 (n : Int)] w fun e' w' => e' = .returned (.int .u64 (fl n : Nat)) ∧ w' = w := by
  have h := fromInt_any p (n : Int) w
  have e1 : decide ((n : Int) < 0) = false := decide_eq_false (by omega)
  rw [e1, Int.natAbs_natCast] at h
  exact h
set_option maxRecDepth 8000 in
set_option maxHeartbeats 1000000 in
theorem oper_arith {own : Nat → Nat} {W : World} {m a nb tp : Nat} {M : Mc} (HV : Vm own W m a nb tp M) {i : Nat} (hi : i < M.th.length) (h1 : 2 ≤ (M.t i).sk.length) (hs : (M.t i).sk.length ≤ 10000) (x : Nat) (hN : (topP M i).N < 18446744073709551616) (hN2 : (topP (dropP M i) i).N < 18446744073709551616) :
    Calls Tryz.prog 110 #[.pointer (some ⟨m, 0, none⟩), .pointer (some ⟨a, i * 5, none⟩), .int .u8 15, i64 x] W (OuEf own W m a nb tp i (operP M i 15 x) (fun _ => .tuple #[])) := by
  have HO : Hid (operP M i 15 x = if (topP (dropP M i) i).T ≠ 2 ∨ (topP M i).T ≠ 2 then thr (dropP (dropP M i) i) () (str mArith) else ok (pushP (dropP (dropP M i) i) i [numV (arithW (x : Int) (topP (dropP M i) i).N (topP M i).N)]) ()) := rfl
  obtain ⟨hi1, hl1⟩ := drop_len hi
  obtain ⟨hi2, hl2⟩ := drop_len hi1
  have HP := (Rm.start (i := i) HV).pop hi (by omega) (by omega)
  have HAR := fun W => arith_R (.pointer (some ⟨nb, 0, none⟩)) x (topP (dropP M i) i).N (topP M i).N W hN2 hN
  obtain ⟨v, hv⟩ : ∃ v, v = topP M i := ⟨_, rfl⟩
  obtain ⟨u, hu⟩ : ∃ u, u = topP (dropP M i) i := ⟨_, rfl⟩
  rw [← hv, ← hu] at HO HAR
  rw [← hv] at HP
  have HTOP : Hid (topP (dropP M i) i = u) := hu.symm
  clear hu hv
  obtain ⟨bT, bN, bS⟩ := v
  obtain ⟨aT, aN, aS⟩ := u
  rw [valV_mk] at HP
  simp only at HO HAR
  obtain ⟨rN, hrN⟩ : ∃ rN, rN = arithW (x : Int) aN bN := ⟨_, rfl⟩
  rw [← hrN] at HAR HO
  clear HV hrN hN hN2
  by_cases ta : aT = 2
  · subst ta
    by_cases tb : bT = 2
    · subst tb
      have HO2 : Hid (operP M i 15 x = ok (pushP (dropP (dropP M i) i) i [⟨2, rN, []⟩]) ()) := by rw [HO.out]; exact if_neg (by simp)
      have HNA := fun W => numOf_ok ⟨2, aN, aS⟩ mArith W rfl
      have HNB := fun W => numOf_ok ⟨2, bN, bS⟩ mArith W rfl
      rw [valV_mk] at HNA HNB
      unfold mArith at HNA HNB
      simp only at HNA HNB
      clear HO
      go_enter Tryz.func110, Tryz.ntmps110
      go_wp2_with fail
      refine HP.mono ?_; rintro e w1 ⟨rfl, R0⟩
      have R1 := (R0.alloc (vBox 2 bN bS) rfl).alloc (vBox 0 0 []) (n := w1.heap.size + 1) (by simp)
      obtain ⟨qa0, qa1, qam⟩ := R0.rn.cellM
      clear R0 HP
      have HP2 := R1.pop hi1 (by omega) (by omega)
      rw [HTOP.out, valV_mk] at HP2
      clear R1
      go_wp2_with fail
      refine HP2.mono ?_; rintro e w2 ⟨rfl, R2'⟩
      obtain ⟨x0, x1, x2, _⟩ := R2'.val (b := w1.heap.size) (T := 2) (N := bN) (S := bS) (by simp)
      have xl := (R2'.rn.box (b := w1.heap.size) (o := vBox 2 bN bS) (by simp)).2.2.1
      have R2 := R2'.alloc (vBox 2 aN aS) rfl
      clear R2' HP2
      go_wp2_with fail
      refine (HNA _).mono ?_; rintro e w3 ⟨rfl, hb3⟩
      have R3 := R2.below hb3
      obtain ⟨y0, y1, y2, _⟩ := R3.val (b := w1.heap.size) (T := 2) (N := bN) (S := bS) (by simp)
      clear hb3 HNA R2
      go_wp2_with fail
      refine (HNB _).mono ?_; rintro e w4 ⟨rfl, hb4⟩
      have R4 := R3.below hb4
      obtain ⟨q0, _, _⟩ := R4.rn.cellM
      clear hb4 HNB R3 y0 y1 y2
      go_wp2_with fail
      refine (HAR _).mono ?_; rintro e w5 ⟨rfl, hb5⟩
      have R5 := R4.below hb5.below
      clear hb5 HAR R4 q0
      obtain ⟨z0, z1, z2, zz⟩ := R5.val (b := w1.heap.size + 1) (T := 0) (N := 0) (S := []) (by simp)
      have HPU := R5.push3 hi2 (by omega) (b := w1.heap.size + 1) (by simp) 2 rN []
      clear R5
      go_wp2_with fail
      refine HPU.mono ?_; rintro e w9 ⟨rfl, hN⟩
      have HN : Hid (Nf own W m a nb tp i (pushP (dropP (dropP M i) i) i [⟨2, rN, []⟩]) w9) := hN
      clear hN HPU
      go_wp2_with fail
      go_end0
      rw [HO2.out]
      exact .inl ⟨rfl, rfl, HN.out⟩
    · have HO2 : Hid (operP M i 15 x = thr (dropP (dropP M i) i) () (str [97, 114, 105, 116, 104])) := by rw [HO.out]; exact if_pos (.inr tb)
      have HNA := fun W => numOf_ok ⟨2, aN, aS⟩ mArith W rfl
      have HNB := fun W => numOf_thr ⟨bT, bN, bS⟩ mArith W tb
      rw [valV_mk] at HNA HNB
      unfold mArith at HNA HNB
      simp only at HNA
      clear HO HAR tb
      go_enter Tryz.func110, Tryz.ntmps110
      go_wp2_with fail
      refine HP.mono ?_; rintro e w1 ⟨rfl, R0⟩
      have R1 := (R0.alloc (vBox bT bN bS) rfl).alloc (vBox 0 0 []) (n := w1.heap.size + 1) (by simp)
      obtain ⟨qa0, qa1, qam⟩ := R0.rn.cellM
      clear R0 HP
      have HP2 := R1.pop hi1 (by omega) (by omega)
      rw [HTOP.out, valV_mk] at HP2
      clear R1
      go_wp2_with fail
      refine HP2.mono ?_; rintro e w2 ⟨rfl, R2'⟩
      obtain ⟨x0, x1, x2, _⟩ := R2'.val (b := w1.heap.size) (T := bT) (N := bN) (S := bS) (by simp)
      have xl := (R2'.rn.box (b := w1.heap.size) (o := vBox bT bN bS) (by simp)).2.2.1
      have R2 := R2'.alloc (vBox 2 aN aS) rfl
      clear R2' HP2
      go_wp2_with fail
      refine (HNA _).mono ?_; rintro e w3 ⟨rfl, hb3⟩
      have R3 := R2.below hb3
      obtain ⟨y0, y1, y2, _⟩ := R3.val (b := w1.heap.size) (T := bT) (N := bN) (S := bS) (by simp)
      clear hb3 HNA R2
      go_wp2_with fail
      refine (HNB _).mono ?_; rintro e w4 ht
      obtain ⟨bb, rfl, ht2, ht3, ht4⟩ := ht
      have HE : Hid (OuEf own W m a nb tp i (thr (dropP (dropP M i) i) () (str [97, 114, 105, 116, 104])) (fun _ => .tuple #[]) (thrE bb) w4) := R3.thrown ⟨bb, rfl, ht2, ht3, ht4⟩
      clear ht2 ht3 ht4 R3 HNB
      go_wp2_with fail
      simp [bodyPost]
      rw [HO2.out]
      exact HE.out
  · have HO2 : Hid (operP M i 15 x = thr (dropP (dropP M i) i) () (str [97, 114, 105, 116, 104])) := by rw [HO.out]; exact if_pos (.inl ta)
    have HNA := fun W => numOf_thr ⟨aT, aN, aS⟩ mArith W ta
    rw [valV_mk] at HNA
    unfold mArith at HNA
    clear HO HAR ta
    go_enter Tryz.func110, Tryz.ntmps110
    go_wp2_with fail
    refine HP.mono ?_; rintro e w1 ⟨rfl, R0⟩
    have R1 := (R0.alloc (vBox bT bN bS) rfl).alloc (vBox 0 0 []) (n := w1.heap.size + 1) (by simp)
    obtain ⟨qa0, qa1, qam⟩ := R0.rn.cellM
    clear R0 HP
    have HP2 := R1.pop hi1 (by omega) (by omega)
    rw [HTOP.out, valV_mk] at HP2
    clear R1
    go_wp2_with fail
    refine HP2.mono ?_; rintro e w2 ⟨rfl, R2'⟩
    obtain ⟨x0, x1, x2, _⟩ := R2'.val (b := w1.heap.size) (T := bT) (N := bN) (S := bS) (by simp)
    have xl := (R2'.rn.box (b := w1.heap.size) (o := vBox bT bN bS) (by simp)).2.2.1
    have R2 := R2'.alloc (vBox aT aN aS) rfl
    clear R2' HP2
    go_wp2_with fail
    refine (HNA _).mono ?_; rintro e w3 ht
    obtain ⟨bb, rfl, ht2, ht3, ht4⟩ := ht
    have HE : Hid (OuEf own W m a nb tp i (thr (dropP (dropP M i) i) () (str [97, 114, 105, 116, 104])) (fun _ => .tuple #[]) (thrE bb) w3) := R2.thrown ⟨bb, rfl, ht2, ht3, ht4⟩
    clear ht2 ht3 ht4 R2 HNA
    go_wp2_with fail
    simp [bodyPost]
    rw [HO2.out]
    exact HE.out
set_option maxRecDepth 8000 in
set_option maxHeartbeats 1000000 in
theorem oper_cmp {own : Nat → Nat} {W : World} {m a nb tp : Nat} {M : Mc} (HV : Vm own W m a nb tp M) {i : Nat} (hi : i < M.th.length) (h1 : 2 ≤ (M.t i).sk.length) (hs : (M.t i).sk.length ≤ 10000) (x : Nat) (hx : 1 ≤ x ∧ x ≤ 6) :
    Calls Tryz.prog 110 #[.pointer (some ⟨m, 0, none⟩), .pointer (some ⟨a, i * 5, none⟩), .int .u8 16, i64 x] W (OuEf own W m a nb tp i (operP M i 16 x) (fun _ => .tuple #[])) := by
  have HO : Hid (operP M i 16 x = if cmpThr x (topP (dropP M i) i) (topP M i) then thr (dropP (dropP M i) i) () (str mCompare) else ok (pushP (dropP (dropP M i) i) i [boolV (cmpP x (topP (dropP M i) i) (topP M i))]) ()) := rfl
  obtain ⟨hi1, hl1⟩ := drop_len hi
  obtain ⟨hi2, hl2⟩ := drop_len hi1
  have HP := (Rm.start (i := i) HV).pop hi (by omega) (by omega)
  obtain ⟨v, hv⟩ : ∃ v, v = topP M i := ⟨_, rfl⟩
  obtain ⟨u, hu⟩ : ∃ u, u = topP (dropP M i) i := ⟨_, rfl⟩
  rw [← hv, ← hu] at HO
  rw [← hv] at HP
  have HHV : Hid (Vm own W m a nb tp M) := HV
  cases hc : cmpThr x u v
  · have HCO : Hid (∀ w own', Vm own' w m a nb tp (dropP (dropP M i) i) → Calls Tryz.prog 119 #[.pointer (some ⟨m, 0, none⟩), i64 x, valV u, valV v] w fun e W' => e = .returned (.bool (cmpP x u v)) ∧ Below w.heap.size w W') := fun w own' h => compare_ok h x hx.1 hx.2 u v hc
    obtain ⟨rN, hrN⟩ := boolV_mk (cmpP x u v)
    have HBO := fun W => bool_any (cmpP x u v) W
    have HO2 : Hid (operP M i 16 x = ok (pushP (dropP (dropP M i) i) i [⟨1, rN, []⟩]) ()) := by rw [HO.out, hc, hrN]; exact if_neg (by simp)
    rw [hrN, valV_mk] at HBO
    generalize cmpP x u v = cr at *
    have HTOP : Hid (topP (dropP M i) i = u) := hu.symm
    clear hu hv
    obtain ⟨bT, bN, bS⟩ := v
    obtain ⟨aT, aN, aS⟩ := u
    rw [valV_mk] at HP
    rw [valV_mk, valV_mk] at HCO
    clear HO HV hc hrN
    go_enter Tryz.func110, Tryz.ntmps110
    go_wp2_with fail
    refine HP.mono ?_; rintro e w1 ⟨rfl, R0⟩
    have R1 := (R0.alloc (vBox bT bN bS) rfl).alloc (vBox 0 0 []) (n := w1.heap.size + 1) (by simp)
    obtain ⟨qa0, qa1, qam⟩ := R0.rn.cellM
    clear R0 HP
    have HP2 := R1.pop hi1 (by omega) (by omega)
    rw [HTOP.out, valV_mk] at HP2
    clear R1
    go_wp2_with fail
    refine HP2.mono ?_; rintro e w2 ⟨rfl, R2'⟩
    obtain ⟨x0, x1, x2, _⟩ := R2'.val (b := w1.heap.size) (T := bT) (N := bN) (S := bS) (by simp)
    have xl := (R2'.rn.box (b := w1.heap.size) (o := vBox bT bN bS) (by simp)).2.2.1
    have R2 := R2'.alloc (vBox aT aN aS) rfl
    clear R2' HP2
    obtain ⟨own2, hv2, _⟩ := R2.vm
    have HC := HCO.out _ own2 hv2
    clear hv2 HCO
    obtain ⟨y0, y1, y2, _⟩ := R2.val (b := w1.heap.size) (T := bT) (N := bN) (S := bS) (by simp)
    go_wp2_with fail
    refine HC.mono ?_; rintro e w3 ⟨rfl, hb3⟩
    have R3 := R2.below hb3
    clear hb3 HC R2 y0 y1 y2
    go_wp2_with fail
    refine (HBO _).mono ?_; rintro e w4 ⟨rfl, hb4⟩
    have R4 := R3.below hb4
    clear hb4 HBO R3
    obtain ⟨z0, z1, z2, zz⟩ := R4.val (b := w1.heap.size + 1) (T := 0) (N := 0) (S := []) (by simp)
    have HPU := R4.push3 hi2 (by omega) (b := w1.heap.size + 1) (by simp) 1 rN []
    clear R4
    go_wp2_with fail
    refine HPU.mono ?_; rintro e w9 ⟨rfl, hN⟩
    have HN : Hid (Nf own W m a nb tp i (pushP (dropP (dropP M i) i) i [⟨1, rN, []⟩]) w9) := hN
    clear hN HPU
    go_wp2_with fail
    go_end0
    rw [HO2.out]
    exact .inl ⟨rfl, rfl, HN.out⟩
  · have HCO := fun W => compare_thr (W := W) (m := m) x u v hc
    have HO2 : Hid (operP M i 16 x = thr (dropP (dropP M i) i) () (str [99, 111, 109, 112, 97, 114, 101])) := by rw [HO.out, hc]; exact if_pos rfl
    unfold mCompare at HCO
    have HTOP : Hid (topP (dropP M i) i = u) := hu.symm
    clear hu hv
    obtain ⟨bT, bN, bS⟩ := v
    obtain ⟨aT, aN, aS⟩ := u
    rw [valV_mk] at HP
    rw [valV_mk, valV_mk] at HCO
    clear HO HV hc
    go_enter Tryz.func110, Tryz.ntmps110
    go_wp2_with fail
    refine HP.mono ?_; rintro e w1 ⟨rfl, R0⟩
    have R1 := (R0.alloc (vBox bT bN bS) rfl).alloc (vBox 0 0 []) (n := w1.heap.size + 1) (by simp)
    obtain ⟨qa0, qa1, qam⟩ := R0.rn.cellM
    clear R0 HP
    have HP2 := R1.pop hi1 (by omega) (by omega)
    rw [HTOP.out, valV_mk] at HP2
    clear R1
    go_wp2_with fail
    refine HP2.mono ?_; rintro e w2 ⟨rfl, R2'⟩
    obtain ⟨x0, x1, x2, _⟩ := R2'.val (b := w1.heap.size) (T := bT) (N := bN) (S := bS) (by simp)
    have xl := (R2'.rn.box (b := w1.heap.size) (o := vBox bT bN bS) (by simp)).2.2.1
    have R2 := R2'.alloc (vBox aT aN aS) rfl
    clear R2' HP2
    obtain ⟨y0, y1, y2, _⟩ := R2.val (b := w1.heap.size) (T := bT) (N := bN) (S := bS) (by simp)
    go_wp2_with fail
    refine (HCO _).mono ?_; rintro e w3 ht
    obtain ⟨bb, rfl, ht2, ht3, ht4⟩ := ht
    have HE : Hid (OuEf own W m a nb tp i (thr (dropP (dropP M i) i) () (str [99, 111, 109, 112, 97, 114, 101])) (fun _ => .tuple #[]) (thrE bb) w3) := R2.thrown ⟨bb, rfl, ht2, ht3, ht4⟩
    clear ht2 ht3 ht4 R2 HCO
    go_wp2_with fail
    simp [bodyPost]
    rw [HO2.out]
    exact HE.out
set_option maxRecDepth 8000 in
set_option maxHeartbeats 1000000 in
theorem oper_len {own : Nat → Nat} {W : World} {m a nb tp : Nat} {M : Mc} (HV : Vm own W m a nb tp M) {i : Nat} (hi : i < M.th.length) (h1 : 1 ≤ (M.t i).sk.length) (hs : (M.t i).sk.length ≤ 10000) (x : Nat) (hw : wfB (topP M i) = true) (htb : (topP M i).T = 4 → (topP M i).N < M.tb.length) :
    Calls Tryz.prog 110 #[.pointer (some ⟨m, 0, none⟩), .pointer (some ⟨a, i * 5, none⟩), .int .u8 20, i64 x] W (OuEf own W m a nb tp i (operP M i 20 x) (fun _ => .tuple #[])) := by
  have HO : Hid (operP M i 20 x = if (topP M i).T = 3 then ok (pushP (dropP M i) i [numV (fl (topP M i).S.length)]) () else if (topP M i).T = 4 then ok (pushP (dropP M i) i [numV (fl (lenP M.tb ((topP M i).N : Int)).1.toNat)]) () else thr (dropP M i) () (str mLen)) := rfl
  obtain ⟨hi1, hl1⟩ := drop_len hi
  have HP := (Rm.start (i := i) HV).pop hi (by omega) (by omega)
  obtain ⟨hRS, hG, _⟩ := HV.tabR
  have HGT : Hid (GoodSt M.tb) := hG
  obtain ⟨v, hv⟩ : ∃ v, v = topP M i := ⟨_, rfl⟩
  rw [← hv] at HO HP hw htb
  clear hv
  obtain ⟨bT, bN, bS⟩ := v
  rw [valV_mk] at HP
  simp only at HO htb
  by_cases t3 : bT = 3
  · subst t3
    have hsl := (wf_str hw rfl).2
    simp only at hsl
    have HO2 : Hid (operP M i 20 x = ok (pushP (dropP M i) i [⟨2, fl bS.length, []⟩]) ()) := by rw [HO.out]; exact if_pos rfl
    have HFI := fun W => fromInt_nat (.pointer (some ⟨nb, 0, none⟩)) bS.length W (by omega)
    generalize fl bS.length = rN at *
    clear HO HV hRS hG hw htb
    go_enter Tryz.func110, Tryz.ntmps110
    go_wp2_with fail
    refine HP.mono ?_; rintro e w1 ⟨rfl, R0⟩
    have R1 := (R0.alloc (vBox 3 bN bS) rfl).alloc (vBox 0 0 []) (n := w1.heap.size + 1) (by simp)
    obtain ⟨qa0, qa1, qam⟩ := R0.rn.cellM
    have R1' := (R0.alloc (vBox 3 bN bS) rfl).alloc (vBox 2 rN []) (n := w1.heap.size + 1) (by simp)
    clear R0 HP
    go_wp2_with fail
    refine (HFI _).mono ?_; rintro e w3 ⟨rfl, rfl⟩
    have HPU := R1'.rn.weak.push rfl hi1 (by omega) 2 rN [] (n := w1.heap.size + 1 + 1) (by simp)
    clear HFI R1 R1'
    go_wp2_with fail
    refine HPU.mono ?_; rintro e w9 ⟨rfl, hN⟩
    have HN : Hid (Nf own W m a nb tp i (pushP (dropP M i) i [⟨2, rN, []⟩]) w9) := hN
    clear hN HPU
    go_wp2_with fail
    go_end0
    rw [HO2.out]
    exact .inl ⟨rfl, rfl, HN.out⟩
  · have b3 : (bT != 3) = true := by simpa using t3
    have hS : bS = [] := (wf_other hw t3).1
    by_cases t4 : bT = 4
    · subst t4
      have hbr : (lenP M.tb (bN : Int)) = (((brd (M.tb[bN]?.getD []) : Nat) : Int), 0) := by
        unfold lenP
        have := htb rfl
        rw [if_neg (by omega), Int.toNat_natCast]
      have HO2 : Hid (operP M i 20 x = ok (pushP (dropP M i) i [⟨2, fl (brd (M.tb[bN]?.getD [])), []⟩]) ()) := by
        rw [HO.out, hbr]
        exact (if_neg (by decide)).trans (if_pos rfl)
      have hbb : brd (M.tb[bN]?.getD []) ≤ 40 := by have := brdF_le (M.tb[bN]?.getD []) 33 0; unfold brd; omega
      have HLE : Hid (∀ w own', Vm own' w m a nb tp (dropP M i) → Calls Tryz.prog 121 #[.pointer (some ⟨tp, 0, none⟩), .int .i64 (bN : Int)] w fun e w' => e = .returned (.tuple #[.int .i64 ((brd (M.tb[bN]?.getD []) : Nat) : Int), .int .i64 0]) ∧ Below w.heap.size w w') := by
        intro w own' h
        have h1 := rlen own' tp M.tb (bN : Int) w h.tabR.1 h.tabR.2.1
        rw [hbr] at h1
        exact h1
      have HFI := fun W => fromInt_nat (.pointer (some ⟨nb, 0, none⟩)) (brd (M.tb[bN]?.getD [])) W (by omega)
      have HTO := fun W => tabOf_ok ⟨4, bN, bS⟩ mLen W rfl (by have h9 := (wf_other hw (by show (4 : Int) ≠ 3; decide)).2.2.2 (by show (4 : Int) ≠ 2; decide); have h9 : bN < 4294967296 := h9; show bN ≤ 9223372036854775807; omega)
      rw [valV_mk] at HTO
      unfold mLen at HTO
      simp only at HTO
      generalize brd (M.tb[bN]?.getD []) = br at *
      generalize fl br = rN at *
      clear HO HV hRS hG hw htb hbr t3 hS
      go_enter Tryz.func110, Tryz.ntmps110
      go_wp2_with fail
      refine HP.mono ?_; rintro e w1 ⟨rfl, R0⟩
      have R1 := (R0.alloc (vBox 4 bN bS) rfl).alloc (vBox 0 0 []) (n := w1.heap.size + 1) (by simp)
      obtain ⟨qa0, qa1, qam⟩ := R0.rn.cellM
      clear R0 HP
      go_wp2_with fail
      refine (HTO _).mono ?_; rintro e w2 ⟨rfl, hb2⟩
      have R2 := R1.below hb2
      obtain ⟨own2, hv2, _⟩ := R2.vm
      have HL := HLE.out _ own2 hv2
      obtain ⟨q0, q1, _⟩ := R2.rn.cellM
      clear hb2 HTO R1 hv2 HLE
      go_wp2_with fail
      refine HL.mono ?_; rintro e w3 ⟨rfl, hb3⟩
      have R3 := R2.below hb3
      obtain ⟨q0', _, _⟩ := R3.rn.cellM
      clear hb3 HL R2 q0 q1
      go_wp2_with fail
      refine (HFI _).mono ?_; rintro e w4 ⟨rfl, rfl⟩
      clear HFI q0'
      obtain ⟨z0, z1, z2, zz⟩ := R3.val (b := w1.heap.size + 1) (T := 0) (N := 0) (S := []) (by simp)
      have HPU := R3.push3 hi1 (by omega) (b := w1.heap.size + 1) (by simp) 2 rN []
      clear R3
      go_wp2_with fail
      refine HPU.mono ?_; rintro e w9 ⟨rfl, hN⟩
      have HN : Hid (Nf own W m a nb tp i (pushP (dropP M i) i [⟨2, rN, []⟩]) w9) := hN
      clear hN HPU
      go_wp2_with fail
      go_end0
      rw [HO2.out]
      exact .inl ⟨rfl, rfl, HN.out⟩
    · have HO2 : Hid (operP M i 20 x = thr (dropP M i) () (str [108, 101, 110])) := by rw [HO.out]; exact (if_neg t3).trans (if_neg t4)
      have HTO := fun W => tabOf_thr ⟨bT, bN, bS⟩ mLen W t4
      rw [valV_mk] at HTO
      unfold mLen at HTO
      subst hS
      clear HO HV hRS hG hw htb t3 t4
      go_enter Tryz.func110, Tryz.ntmps110
      go_wp2_with fail
      refine HP.mono ?_; rintro e w1 ⟨rfl, R0⟩
      have R1 := (R0.alloc (vBox bT bN []) rfl).alloc (vBox 0 0 []) (n := w1.heap.size + 1) (by simp)
      obtain ⟨qa0, qa1, qam⟩ := R0.rn.cellM
      clear R0 HP
      go_wp2_with fail
      refine (HTO _).mono ?_; rintro e w2 ht
      obtain ⟨bb, rfl, ht2, ht3, ht4⟩ := ht
      have HE : Hid (OuEf own W m a nb tp i (thr (dropP M i) () (str [108, 101, 110])) (fun _ => .tuple #[]) (thrE bb) w2) := R1.thrown ⟨bb, rfl, ht2, ht3, ht4⟩
      clear ht2 ht3 ht4 R1 HTO
      go_wp2_with fail
      simp [bodyPost]
      rw [HO2.out]
      exact HE.out
set_option maxRecDepth 8000 in
set_option maxHeartbeats 1000000 in
theorem oper_cat {own : Nat → Nat} {W : World} {m a nb tp : Nat} {M : Mc} (HV : Vm own W m a nb tp M) {i : Nat} (hi : i < M.th.length) (h1 : 2 ≤ (M.t i).sk.length) (hs : (M.t i).sk.length ≤ 10000) (x : Nat) (hw1 : wfB (topP M i) = true) (hN : (topP M i).N < 18446744073709551616) (hw2 : wfB (topP (dropP M i) i) = true) (hN2 : (topP (dropP M i) i).N < 18446744073709551616) :
    Calls Tryz.prog 110 #[.pointer (some ⟨m, 0, none⟩), .pointer (some ⟨a, i * 5, none⟩), .int .u8 17, i64 x] W (OuEf own W m a nb tp i (operP M i 17 x) (fun _ => .tuple #[])) := by
  have HO : Hid (operP M i 17 x = if (((topP (dropP M i) i).T ≠ 3 ∧ (topP (dropP M i) i).T ≠ 2) ∨ ((topP M i).T ≠ 3 ∧ (topP M i).T ≠ 2)) then thr (dropP (dropP M i) i) () (str mConcat) else if 40 < (textP (topP (dropP M i) i)).length + (textP (topP M i)).length then thr (dropP (dropP M i) i) () (str mLong) else ok (pushP (dropP (dropP M i) i) i [str (textP (topP (dropP M i) i) ++ textP (topP M i))]) ()) := rfl
  obtain ⟨hi1, hl1⟩ := drop_len hi
  obtain ⟨hi2, hl2⟩ := drop_len hi1
  have HP := (Rm.start (i := i) HV).pop hi (by omega) (by omega)
  have hla := textP_len hw2 hN2
  have hlb := textP_len hw1 hN
  obtain ⟨v, hv⟩ : ∃ v, v = topP M i := ⟨_, rfl⟩
  obtain ⟨u, hu⟩ : ∃ u, u = topP (dropP M i) i := ⟨_, rfl⟩
  rw [← hv, ← hu] at HO
  rw [← hv] at HP hw1 hN hlb
  rw [← hu] at hw2 hN2 hla
  have HTA : Hid (∀ w own', Vm own' w m a nb tp (dropP (dropP M i) i) → Calls Tryz.prog 111 #[.pointer (some ⟨m, 0, none⟩), valV u] w fun e W' => e = .returned (.string ⟨(textP u).toArray⟩) ∧ ∀ k, Nf own' w m a nb tp k (dropP (dropP M i) i) W') := fun w own' h => text_any h u hw2 hN2
  have HTB : Hid (∀ w own', Vm own' w m a nb tp (dropP (dropP M i) i) → Calls Tryz.prog 111 #[.pointer (some ⟨m, 0, none⟩), valV v] w fun e W' => e = .returned (.string ⟨(textP v).toArray⟩) ∧ ∀ k, Nf own' w m a nb tp k (dropP (dropP M i) i) W') := fun w own' h => text_any h v hw1 hN
  have HTOP : Hid (topP (dropP M i) i = u) := hu.symm
  clear hu hv
  obtain ⟨bT, bN, bS⟩ := v
  obtain ⟨aT, aN, aS⟩ := u
  rw [valV_mk] at HP
  simp only at HO
  obtain ⟨la, hla'⟩ : ∃ la, la = textP ⟨aT, aN, aS⟩ := ⟨_, rfl⟩
  obtain ⟨lb, hlb'⟩ : ∃ lb, lb = textP ⟨bT, bN, bS⟩ := ⟨_, rfl⟩
  rw [← hla'] at HO HTA hla
  rw [← hlb'] at HO HTB hlb
  rw [valV_mk] at HTA HTB
  clear HV hN hN2 hw1 hw2 hla' hlb'
  by_cases hcat : (aT ≠ 3 ∧ aT ≠ 2) ∨ (bT ≠ 3 ∧ bT ≠ 2)
  · have HO2 : Hid (operP M i 17 x = thr (dropP (dropP M i) i) () (str [99, 111, 110, 99, 97, 116])) := by rw [HO.out]; exact if_pos hcat
    have HRA := fun W => raise_end [99, 111, 110, 99, 97, 116] W
    clear HO HTA HTB
    rcases hcat with ⟨c1, c2⟩ | ⟨c1, c2⟩
    · have e1 : (aT != 3) = true := by simpa using c1
      have e2 : (aT != 2) = true := by simpa using c2
      clear c1 c2
      go_enter Tryz.func110, Tryz.ntmps110
      go_wp2_with fail
      refine HP.mono ?_; rintro e w1 ⟨rfl, R0⟩
      have R1 := (R0.alloc (vBox bT bN bS) rfl).alloc (vBox 0 0 []) (n := w1.heap.size + 1) (by simp)
      obtain ⟨qa0, qa1, qam⟩ := R0.rn.cellM
      clear R0 HP
      have HP2 := R1.pop hi1 (by omega) (by omega)
      rw [HTOP.out, valV_mk] at HP2
      clear R1
      go_wp2_with fail
      refine HP2.mono ?_; rintro e w2 ⟨rfl, R2'⟩
      obtain ⟨x0, x1, x2, _⟩ := R2'.val (b := w1.heap.size) (T := bT) (N := bN) (S := bS) (by simp)
      have xl := (R2'.rn.box (b := w1.heap.size) (o := vBox bT bN bS) (by simp)).2.2.1
      have R2 := R2'.alloc (vBox aT aN aS) rfl
      clear R2' HP2
      go_wp2_with fail
      refine (HRA _).mono ?_; rintro e w3 ht
      obtain ⟨bb, rfl, ht2, ht3, ht4⟩ := ht
      have HE : Hid (OuEf own W m a nb tp i (thr (dropP (dropP M i) i) () (str [99, 111, 110, 99, 97, 116])) (fun _ => .tuple #[]) (thrE bb) w3) := R2.thrown ⟨bb, rfl, ht2, ht3, ht4⟩
      clear ht2 ht3 ht4 R2 HRA
      go_wp2_with fail
      simp [bodyPost]
      rw [HO2.out]
      exact HE.out
    · have e1 : (bT != 3) = true := by simpa using c1
      have e2 : (bT != 2) = true := by simpa using c2
      clear c1 c2
      by_cases d : (aT != 3) = true
      · by_cases d2 : (aT != 2) = true
        · go_enter Tryz.func110, Tryz.ntmps110
          go_wp2_with fail
          refine HP.mono ?_; rintro e w1 ⟨rfl, R0⟩
          have R1 := (R0.alloc (vBox bT bN bS) rfl).alloc (vBox 0 0 []) (n := w1.heap.size + 1) (by simp)
          obtain ⟨qa0, qa1, qam⟩ := R0.rn.cellM
          clear R0 HP
          have HP2 := R1.pop hi1 (by omega) (by omega)
          rw [HTOP.out, valV_mk] at HP2
          clear R1
          go_wp2_with fail
          refine HP2.mono ?_; rintro e w2 ⟨rfl, R2'⟩
          obtain ⟨x0, x1, x2, _⟩ := R2'.val (b := w1.heap.size) (T := bT) (N := bN) (S := bS) (by simp)
          have xl := (R2'.rn.box (b := w1.heap.size) (o := vBox bT bN bS) (by simp)).2.2.1
          have R2 := R2'.alloc (vBox aT aN aS) rfl
          obtain ⟨y0, y1, y2, _⟩ := R2.val (b := w1.heap.size) (T := bT) (N := bN) (S := bS) (by simp)
          clear R2' HP2
          go_wp2_with fail
          refine (HRA _).mono ?_; rintro e w3 ht
          obtain ⟨bb, rfl, ht2, ht3, ht4⟩ := ht
          have HE : Hid (OuEf own W m a nb tp i (thr (dropP (dropP M i) i) () (str [99, 111, 110, 99, 97, 116])) (fun _ => .tuple #[]) (thrE bb) w3) := R2.thrown ⟨bb, rfl, ht2, ht3, ht4⟩
          clear ht2 ht3 ht4 R2 HRA
          go_wp2_with fail
          simp [bodyPost]
          rw [HO2.out]
          exact HE.out
        · go_enter Tryz.func110, Tryz.ntmps110
          go_wp2_with fail
          refine HP.mono ?_; rintro e w1 ⟨rfl, R0⟩
          have R1 := (R0.alloc (vBox bT bN bS) rfl).alloc (vBox 0 0 []) (n := w1.heap.size + 1) (by simp)
          obtain ⟨qa0, qa1, qam⟩ := R0.rn.cellM
          clear R0 HP
          have HP2 := R1.pop hi1 (by omega) (by omega)
          rw [HTOP.out, valV_mk] at HP2
          clear R1
          go_wp2_with fail
          refine HP2.mono ?_; rintro e w2 ⟨rfl, R2'⟩
          obtain ⟨x0, x1, x2, _⟩ := R2'.val (b := w1.heap.size) (T := bT) (N := bN) (S := bS) (by simp)
          have xl := (R2'.rn.box (b := w1.heap.size) (o := vBox bT bN bS) (by simp)).2.2.1
          have R2 := R2'.alloc (vBox aT aN aS) rfl
          obtain ⟨y0, y1, y2, _⟩ := R2.val (b := w1.heap.size) (T := bT) (N := bN) (S := bS) (by simp)
          clear R2' HP2
          go_wp2_with fail
          refine (HRA _).mono ?_; rintro e w3 ht
          obtain ⟨bb, rfl, ht2, ht3, ht4⟩ := ht
          have HE : Hid (OuEf own W m a nb tp i (thr (dropP (dropP M i) i) () (str [99, 111, 110, 99, 97, 116])) (fun _ => .tuple #[]) (thrE bb) w3) := R2.thrown ⟨bb, rfl, ht2, ht3, ht4⟩
          clear ht2 ht3 ht4 R2 HRA
          go_wp2_with fail
          simp [bodyPost]
          rw [HO2.out]
          exact HE.out
      · have d3 : (aT != 3) = false := by simpa using d
        clear d
        go_enter Tryz.func110, Tryz.ntmps110
        go_wp2_with fail
        refine HP.mono ?_; rintro e w1 ⟨rfl, R0⟩
        have R1 := (R0.alloc (vBox bT bN bS) rfl).alloc (vBox 0 0 []) (n := w1.heap.size + 1) (by simp)
        obtain ⟨qa0, qa1, qam⟩ := R0.rn.cellM
        clear R0 HP
        have HP2 := R1.pop hi1 (by omega) (by omega)
        rw [HTOP.out, valV_mk] at HP2
        clear R1
        go_wp2_with fail
        refine HP2.mono ?_; rintro e w2 ⟨rfl, R2'⟩
        obtain ⟨x0, x1, x2, _⟩ := R2'.val (b := w1.heap.size) (T := bT) (N := bN) (S := bS) (by simp)
        have xl := (R2'.rn.box (b := w1.heap.size) (o := vBox bT bN bS) (by simp)).2.2.1
        have R2 := R2'.alloc (vBox aT aN aS) rfl
        obtain ⟨y0, y1, y2, _⟩ := R2.val (b := w1.heap.size) (T := bT) (N := bN) (S := bS) (by simp)
        clear R2' HP2
        go_wp2_with fail
        refine (HRA _).mono ?_; rintro e w3 ht
        obtain ⟨bb, rfl, ht2, ht3, ht4⟩ := ht
        have HE : Hid (OuEf own W m a nb tp i (thr (dropP (dropP M i) i) () (str [99, 111, 110, 99, 97, 116])) (fun _ => .tuple #[]) (thrE bb) w3) := R2.thrown ⟨bb, rfl, ht2, ht3, ht4⟩
        clear ht2 ht3 ht4 R2 HRA
        go_wp2_with fail
        simp [bodyPost]
        rw [HO2.out]
        exact HE.out
  · have ha : aT = 3 ∨ aT = 2 := by omega
    have hb : bT = 3 ∨ bT = 2 := by omega
    rw [if_neg hcat] at HO
    have HO : Hid (operP M i 17 x = if 40 < la.length + lb.length then thr (dropP (dropP M i) i) () (str mLong) else ok (pushP (dropP (dropP M i) i) i [str (la ++ lb)]) ()) := HO
    clear hcat
    have HRA := fun W => raise_end [108, 111, 110, 103] W
    rcases ha with rfl | rfl <;> rcases hb with rfl | rfl
    · by_cases hlong : 40 < la.length + lb.length
      · have HO2 : Hid (operP M i 17 x = thr (dropP (dropP M i) i) () (str [108, 111, 110, 103])) := by rw [HO.out]; exact if_pos hlong
        have dl : decide (40 < la.length + lb.length) = true := decide_eq_true hlong
        have dl2 : decide ((40 : Int) < (la.length : Int) + (lb.length : Int)) = true := decide_eq_true (by omega)
        clear HO
        go_enter Tryz.func110, Tryz.ntmps110
        go_wp2_with fail
        refine HP.mono ?_; rintro e w1 ⟨rfl, R0⟩
        have R1 := (R0.alloc (vBox 3 bN bS) rfl).alloc (vBox 0 0 []) (n := w1.heap.size + 1) (by simp)
        obtain ⟨qa0, qa1, qam⟩ := R0.rn.cellM
        clear R0 HP
        have HP2 := R1.pop hi1 (by omega) (by omega)
        rw [HTOP.out, valV_mk] at HP2
        clear R1
        go_wp2_with fail
        refine HP2.mono ?_; rintro e w2 ⟨rfl, R2'⟩
        obtain ⟨x0, x1, x2, _⟩ := R2'.val (b := w1.heap.size) (T := 3) (N := bN) (S := bS) (by simp)
        have xl := (R2'.rn.box (b := w1.heap.size) (o := vBox 3 bN bS) (by simp)).2.2.1
        have R2 := R2'.alloc (vBox 3 aN aS) rfl
        clear R2' HP2
        obtain ⟨own2, hv2, hn2⟩ := R2.vm
        have HA := HTA.out _ own2 hv2
        clear hv2 HTA
        go_wp2_with fail
        refine HA.mono ?_; rintro e w3 ⟨rfl, hN3⟩
        have R3 := hn2 _ _ (hN3 i)
        obtain ⟨own3, hv3, hn3⟩ := R3.vm
        have HB := HTB.out _ own3 hv3
        obtain ⟨y0, y1, y2, _⟩ := R3.val (b := w1.heap.size) (T := 3) (N := bN) (S := bS) (by simp)
        clear hv3 HTB hN3 hn2 R2 HA
        go_wp2_with fail
        refine HB.mono ?_; rintro e w4 ⟨rfl, hN4⟩
        have R4 := hn3 _ _ (hN4 i)
        clear hN4 hn3 R3 HB y0 y1 y2
        go_wp2_with fail
        refine (HRA _).mono ?_; rintro e w5 ht
        obtain ⟨bb, rfl, ht2, ht3, ht4⟩ := ht
        have HE : Hid (OuEf own W m a nb tp i (thr (dropP (dropP M i) i) () (str [108, 111, 110, 103])) (fun _ => .tuple #[]) (thrE bb) w5) := R4.thrown ⟨bb, rfl, ht2, ht3, ht4⟩
        clear ht2 ht3 ht4 R4 HRA
        go_wp2_with fail
        simp [bodyPost]
        rw [HO2.out]
        exact HE.out
      · have HO2 : Hid (operP M i 17 x = ok (pushP (dropP (dropP M i) i) i [⟨3, 0, la ++ lb⟩]) ()) := by rw [HO.out]; exact if_neg hlong
        have dl : decide (40 < la.length + lb.length) = false := decide_eq_false hlong
        have dl2 : decide ((40 : Int) < (la.length : Int) + (lb.length : Int)) = false := decide_eq_false (by omega)
        clear HO HRA
        go_enter Tryz.func110, Tryz.ntmps110
        go_wp2_with fail
        refine HP.mono ?_; rintro e w1 ⟨rfl, R0⟩
        have R1 := (R0.alloc (vBox 3 bN bS) rfl).alloc (vBox 0 0 []) (n := w1.heap.size + 1) (by simp)
        obtain ⟨qa0, qa1, qam⟩ := R0.rn.cellM
        clear R0 HP
        have HP2 := R1.pop hi1 (by omega) (by omega)
        rw [HTOP.out, valV_mk] at HP2
        clear R1
        go_wp2_with fail
        refine HP2.mono ?_; rintro e w2 ⟨rfl, R2'⟩
        obtain ⟨x0, x1, x2, _⟩ := R2'.val (b := w1.heap.size) (T := 3) (N := bN) (S := bS) (by simp)
        have xl := (R2'.rn.box (b := w1.heap.size) (o := vBox 3 bN bS) (by simp)).2.2.1
        have R2 := R2'.alloc (vBox 3 aN aS) rfl
        clear R2' HP2
        obtain ⟨own2, hv2, hn2⟩ := R2.vm
        have HA := HTA.out _ own2 hv2
        clear hv2 HTA
        go_wp2_with fail
        refine HA.mono ?_; rintro e w3 ⟨rfl, hN3⟩
        have R3 := hn2 _ _ (hN3 i)
        obtain ⟨own3, hv3, hn3⟩ := R3.vm
        have HB := HTB.out _ own3 hv3
        obtain ⟨y0, y1, y2, _⟩ := R3.val (b := w1.heap.size) (T := 3) (N := bN) (S := bS) (by simp)
        clear hv3 HTB hN3 hn2 R2 HA
        go_wp2_with fail
        refine HB.mono ?_; rintro e w4 ⟨rfl, hN4⟩
        have R4 := hn3 _ _ (hN4 i)
        clear hN4 hn3 R3 HB y0 y1 y2
        obtain ⟨z0, z1, z2, zz⟩ := R4.val (b := w1.heap.size + 1) (T := 0) (N := 0) (S := []) (by simp)
        have HPU := R4.push3 hi2 (by omega) (b := w1.heap.size + 1) (by simp) 3 0 (la ++ lb)
        clear R4
        go_wp2_with fail
        refine HPU.mono ?_; rintro e w9 ⟨rfl, hN⟩
        have HN : Hid (Nf own W m a nb tp i (pushP (dropP (dropP M i) i) i [⟨3, 0, (la ++ lb)⟩]) w9) := hN
        clear hN HPU
        go_wp2_with fail
        go_end0
        rw [HO2.out]
        exact .inl ⟨rfl, rfl, HN.out⟩
    · by_cases hlong : 40 < la.length + lb.length
      · have HO2 : Hid (operP M i 17 x = thr (dropP (dropP M i) i) () (str [108, 111, 110, 103])) := by rw [HO.out]; exact if_pos hlong
        have dl : decide (40 < la.length + lb.length) = true := decide_eq_true hlong
        have dl2 : decide ((40 : Int) < (la.length : Int) + (lb.length : Int)) = true := decide_eq_true (by omega)
        clear HO
        go_enter Tryz.func110, Tryz.ntmps110
        go_wp2_with fail
        refine HP.mono ?_; rintro e w1 ⟨rfl, R0⟩
        have R1 := (R0.alloc (vBox 2 bN bS) rfl).alloc (vBox 0 0 []) (n := w1.heap.size + 1) (by simp)
        obtain ⟨qa0, qa1, qam⟩ := R0.rn.cellM
        clear R0 HP
        have HP2 := R1.pop hi1 (by omega) (by omega)
        rw [HTOP.out, valV_mk] at HP2
        clear R1
        go_wp2_with fail
        refine HP2.mono ?_; rintro e w2 ⟨rfl, R2'⟩
        obtain ⟨x0, x1, x2, _⟩ := R2'.val (b := w1.heap.size) (T := 2) (N := bN) (S := bS) (by simp)
        have xl := (R2'.rn.box (b := w1.heap.size) (o := vBox 2 bN bS) (by simp)).2.2.1
        have R2 := R2'.alloc (vBox 3 aN aS) rfl
        clear R2' HP2
        obtain ⟨own2, hv2, hn2⟩ := R2.vm
        have HA := HTA.out _ own2 hv2
        clear hv2 HTA
        go_wp2_with fail
        refine HA.mono ?_; rintro e w3 ⟨rfl, hN3⟩
        have R3 := hn2 _ _ (hN3 i)
        obtain ⟨own3, hv3, hn3⟩ := R3.vm
        have HB := HTB.out _ own3 hv3
        obtain ⟨y0, y1, y2, _⟩ := R3.val (b := w1.heap.size) (T := 2) (N := bN) (S := bS) (by simp)
        clear hv3 HTB hN3 hn2 R2 HA
        go_wp2_with fail
        refine HB.mono ?_; rintro e w4 ⟨rfl, hN4⟩
        have R4 := hn3 _ _ (hN4 i)
        clear hN4 hn3 R3 HB y0 y1 y2
        go_wp2_with fail
        refine (HRA _).mono ?_; rintro e w5 ht
        obtain ⟨bb, rfl, ht2, ht3, ht4⟩ := ht
        have HE : Hid (OuEf own W m a nb tp i (thr (dropP (dropP M i) i) () (str [108, 111, 110, 103])) (fun _ => .tuple #[]) (thrE bb) w5) := R4.thrown ⟨bb, rfl, ht2, ht3, ht4⟩
        clear ht2 ht3 ht4 R4 HRA
        go_wp2_with fail
        simp [bodyPost]
        rw [HO2.out]
        exact HE.out
      · have HO2 : Hid (operP M i 17 x = ok (pushP (dropP (dropP M i) i) i [⟨3, 0, la ++ lb⟩]) ()) := by rw [HO.out]; exact if_neg hlong
        have dl : decide (40 < la.length + lb.length) = false := decide_eq_false hlong
        have dl2 : decide ((40 : Int) < (la.length : Int) + (lb.length : Int)) = false := decide_eq_false (by omega)
        clear HO HRA
        go_enter Tryz.func110, Tryz.ntmps110
        go_wp2_with fail
        refine HP.mono ?_; rintro e w1 ⟨rfl, R0⟩
        have R1 := (R0.alloc (vBox 2 bN bS) rfl).alloc (vBox 0 0 []) (n := w1.heap.size + 1) (by simp)
        obtain ⟨qa0, qa1, qam⟩ := R0.rn.cellM
        clear R0 HP
        have HP2 := R1.pop hi1 (by omega) (by omega)
        rw [HTOP.out, valV_mk] at HP2
        clear R1
        go_wp2_with fail
        refine HP2.mono ?_; rintro e w2 ⟨rfl, R2'⟩
        obtain ⟨x0, x1, x2, _⟩ := R2'.val (b := w1.heap.size) (T := 2) (N := bN) (S := bS) (by simp)
        have xl := (R2'.rn.box (b := w1.heap.size) (o := vBox 2 bN bS) (by simp)).2.2.1
        have R2 := R2'.alloc (vBox 3 aN aS) rfl
        clear R2' HP2
        obtain ⟨own2, hv2, hn2⟩ := R2.vm
        have HA := HTA.out _ own2 hv2
        clear hv2 HTA
        go_wp2_with fail
        refine HA.mono ?_; rintro e w3 ⟨rfl, hN3⟩
        have R3 := hn2 _ _ (hN3 i)
        obtain ⟨own3, hv3, hn3⟩ := R3.vm
        have HB := HTB.out _ own3 hv3
        obtain ⟨y0, y1, y2, _⟩ := R3.val (b := w1.heap.size) (T := 2) (N := bN) (S := bS) (by simp)
        clear hv3 HTB hN3 hn2 R2 HA
        go_wp2_with fail
        refine HB.mono ?_; rintro e w4 ⟨rfl, hN4⟩
        have R4 := hn3 _ _ (hN4 i)
        clear hN4 hn3 R3 HB y0 y1 y2
        obtain ⟨z0, z1, z2, zz⟩ := R4.val (b := w1.heap.size + 1) (T := 0) (N := 0) (S := []) (by simp)
        have HPU := R4.push3 hi2 (by omega) (b := w1.heap.size + 1) (by simp) 3 0 (la ++ lb)
        clear R4
        go_wp2_with fail
        refine HPU.mono ?_; rintro e w9 ⟨rfl, hN⟩
        have HN : Hid (Nf own W m a nb tp i (pushP (dropP (dropP M i) i) i [⟨3, 0, (la ++ lb)⟩]) w9) := hN
        clear hN HPU
        go_wp2_with fail
        go_end0
        rw [HO2.out]
        exact .inl ⟨rfl, rfl, HN.out⟩
    · by_cases hlong : 40 < la.length + lb.length
      · have HO2 : Hid (operP M i 17 x = thr (dropP (dropP M i) i) () (str [108, 111, 110, 103])) := by rw [HO.out]; exact if_pos hlong
        have dl : decide (40 < la.length + lb.length) = true := decide_eq_true hlong
        have dl2 : decide ((40 : Int) < (la.length : Int) + (lb.length : Int)) = true := decide_eq_true (by omega)
        clear HO
        go_enter Tryz.func110, Tryz.ntmps110
        go_wp2_with fail
        refine HP.mono ?_; rintro e w1 ⟨rfl, R0⟩
        have R1 := (R0.alloc (vBox 3 bN bS) rfl).alloc (vBox 0 0 []) (n := w1.heap.size + 1) (by simp)
        obtain ⟨qa0, qa1, qam⟩ := R0.rn.cellM
        clear R0 HP
        have HP2 := R1.pop hi1 (by omega) (by omega)
        rw [HTOP.out, valV_mk] at HP2
        clear R1
        go_wp2_with fail
        refine HP2.mono ?_; rintro e w2 ⟨rfl, R2'⟩
        obtain ⟨x0, x1, x2, _⟩ := R2'.val (b := w1.heap.size) (T := 3) (N := bN) (S := bS) (by simp)
        have xl := (R2'.rn.box (b := w1.heap.size) (o := vBox 3 bN bS) (by simp)).2.2.1
        have R2 := R2'.alloc (vBox 2 aN aS) rfl
        clear R2' HP2
        obtain ⟨own2, hv2, hn2⟩ := R2.vm
        have HA := HTA.out _ own2 hv2
        clear hv2 HTA
        go_wp2_with fail
        refine HA.mono ?_; rintro e w3 ⟨rfl, hN3⟩
        have R3 := hn2 _ _ (hN3 i)
        obtain ⟨own3, hv3, hn3⟩ := R3.vm
        have HB := HTB.out _ own3 hv3
        obtain ⟨y0, y1, y2, _⟩ := R3.val (b := w1.heap.size) (T := 3) (N := bN) (S := bS) (by simp)
        clear hv3 HTB hN3 hn2 R2 HA
        go_wp2_with fail
        refine HB.mono ?_; rintro e w4 ⟨rfl, hN4⟩
        have R4 := hn3 _ _ (hN4 i)
        clear hN4 hn3 R3 HB y0 y1 y2
        go_wp2_with fail
        refine (HRA _).mono ?_; rintro e w5 ht
        obtain ⟨bb, rfl, ht2, ht3, ht4⟩ := ht
        have HE : Hid (OuEf own W m a nb tp i (thr (dropP (dropP M i) i) () (str [108, 111, 110, 103])) (fun _ => .tuple #[]) (thrE bb) w5) := R4.thrown ⟨bb, rfl, ht2, ht3, ht4⟩
        clear ht2 ht3 ht4 R4 HRA
        go_wp2_with fail
        simp [bodyPost]
        rw [HO2.out]
        exact HE.out
      · have HO2 : Hid (operP M i 17 x = ok (pushP (dropP (dropP M i) i) i [⟨3, 0, la ++ lb⟩]) ()) := by rw [HO.out]; exact if_neg hlong
        have dl : decide (40 < la.length + lb.length) = false := decide_eq_false hlong
        have dl2 : decide ((40 : Int) < (la.length : Int) + (lb.length : Int)) = false := decide_eq_false (by omega)
        clear HO HRA
        go_enter Tryz.func110, Tryz.ntmps110
        go_wp2_with fail
        refine HP.mono ?_; rintro e w1 ⟨rfl, R0⟩
        have R1 := (R0.alloc (vBox 3 bN bS) rfl).alloc (vBox 0 0 []) (n := w1.heap.size + 1) (by simp)
        obtain ⟨qa0, qa1, qam⟩ := R0.rn.cellM
        clear R0 HP
        have HP2 := R1.pop hi1 (by omega) (by omega)
        rw [HTOP.out, valV_mk] at HP2
        clear R1
        go_wp2_with fail
        refine HP2.mono ?_; rintro e w2 ⟨rfl, R2'⟩
        obtain ⟨x0, x1, x2, _⟩ := R2'.val (b := w1.heap.size) (T := 3) (N := bN) (S := bS) (by simp)
        have xl := (R2'.rn.box (b := w1.heap.size) (o := vBox 3 bN bS) (by simp)).2.2.1
        have R2 := R2'.alloc (vBox 2 aN aS) rfl
        clear R2' HP2
        obtain ⟨own2, hv2, hn2⟩ := R2.vm
        have HA := HTA.out _ own2 hv2
        clear hv2 HTA
        go_wp2_with fail
        refine HA.mono ?_; rintro e w3 ⟨rfl, hN3⟩
        have R3 := hn2 _ _ (hN3 i)
        obtain ⟨own3, hv3, hn3⟩ := R3.vm
        have HB := HTB.out _ own3 hv3
        obtain ⟨y0, y1, y2, _⟩ := R3.val (b := w1.heap.size) (T := 3) (N := bN) (S := bS) (by simp)
        clear hv3 HTB hN3 hn2 R2 HA
        go_wp2_with fail
        refine HB.mono ?_; rintro e w4 ⟨rfl, hN4⟩
        have R4 := hn3 _ _ (hN4 i)
        clear hN4 hn3 R3 HB y0 y1 y2
        obtain ⟨z0, z1, z2, zz⟩ := R4.val (b := w1.heap.size + 1) (T := 0) (N := 0) (S := []) (by simp)
        have HPU := R4.push3 hi2 (by omega) (b := w1.heap.size + 1) (by simp) 3 0 (la ++ lb)
        clear R4
        go_wp2_with fail
        refine HPU.mono ?_; rintro e w9 ⟨rfl, hN⟩
        have HN : Hid (Nf own W m a nb tp i (pushP (dropP (dropP M i) i) i [⟨3, 0, (la ++ lb)⟩]) w9) := hN
        clear hN HPU
        go_wp2_with fail
        go_end0
        rw [HO2.out]
        exact .inl ⟨rfl, rfl, HN.out⟩
    · by_cases hlong : 40 < la.length + lb.length
      · have HO2 : Hid (operP M i 17 x = thr (dropP (dropP M i) i) () (str [108, 111, 110, 103])) := by rw [HO.out]; exact if_pos hlong
        have dl : decide (40 < la.length + lb.length) = true := decide_eq_true hlong
        have dl2 : decide ((40 : Int) < (la.length : Int) + (lb.length : Int)) = true := decide_eq_true (by omega)
        clear HO
        go_enter Tryz.func110, Tryz.ntmps110
        go_wp2_with fail
        refine HP.mono ?_; rintro e w1 ⟨rfl, R0⟩
        have R1 := (R0.alloc (vBox 2 bN bS) rfl).alloc (vBox 0 0 []) (n := w1.heap.size + 1) (by simp)
        obtain ⟨qa0, qa1, qam⟩ := R0.rn.cellM
        clear R0 HP
        have HP2 := R1.pop hi1 (by omega) (by omega)
        rw [HTOP.out, valV_mk] at HP2
        clear R1
        go_wp2_with fail
        refine HP2.mono ?_; rintro e w2 ⟨rfl, R2'⟩
        obtain ⟨x0, x1, x2, _⟩ := R2'.val (b := w1.heap.size) (T := 2) (N := bN) (S := bS) (by simp)
        have xl := (R2'.rn.box (b := w1.heap.size) (o := vBox 2 bN bS) (by simp)).2.2.1
        have R2 := R2'.alloc (vBox 2 aN aS) rfl
        clear R2' HP2
        obtain ⟨own2, hv2, hn2⟩ := R2.vm
        have HA := HTA.out _ own2 hv2
        clear hv2 HTA
        go_wp2_with fail
        refine HA.mono ?_; rintro e w3 ⟨rfl, hN3⟩
        have R3 := hn2 _ _ (hN3 i)
        obtain ⟨own3, hv3, hn3⟩ := R3.vm
        have HB := HTB.out _ own3 hv3
        obtain ⟨y0, y1, y2, _⟩ := R3.val (b := w1.heap.size) (T := 2) (N := bN) (S := bS) (by simp)
        clear hv3 HTB hN3 hn2 R2 HA
        go_wp2_with fail
        refine HB.mono ?_; rintro e w4 ⟨rfl, hN4⟩
        have R4 := hn3 _ _ (hN4 i)
        clear hN4 hn3 R3 HB y0 y1 y2
        go_wp2_with fail
        refine (HRA _).mono ?_; rintro e w5 ht
        obtain ⟨bb, rfl, ht2, ht3, ht4⟩ := ht
        have HE : Hid (OuEf own W m a nb tp i (thr (dropP (dropP M i) i) () (str [108, 111, 110, 103])) (fun _ => .tuple #[]) (thrE bb) w5) := R4.thrown ⟨bb, rfl, ht2, ht3, ht4⟩
        clear ht2 ht3 ht4 R4 HRA
        go_wp2_with fail
        simp [bodyPost]
        rw [HO2.out]
        exact HE.out
      · have HO2 : Hid (operP M i 17 x = ok (pushP (dropP (dropP M i) i) i [⟨3, 0, la ++ lb⟩]) ()) := by rw [HO.out]; exact if_neg hlong
        have dl : decide (40 < la.length + lb.length) = false := decide_eq_false hlong
        have dl2 : decide ((40 : Int) < (la.length : Int) + (lb.length : Int)) = false := decide_eq_false (by omega)
        clear HO HRA
        go_enter Tryz.func110, Tryz.ntmps110
        go_wp2_with fail
        refine HP.mono ?_; rintro e w1 ⟨rfl, R0⟩
        have R1 := (R0.alloc (vBox 2 bN bS) rfl).alloc (vBox 0 0 []) (n := w1.heap.size + 1) (by simp)
        obtain ⟨qa0, qa1, qam⟩ := R0.rn.cellM
        clear R0 HP
        have HP2 := R1.pop hi1 (by omega) (by omega)
        rw [HTOP.out, valV_mk] at HP2
        clear R1
        go_wp2_with fail
        refine HP2.mono ?_; rintro e w2 ⟨rfl, R2'⟩
        obtain ⟨x0, x1, x2, _⟩ := R2'.val (b := w1.heap.size) (T := 2) (N := bN) (S := bS) (by simp)
        have xl := (R2'.rn.box (b := w1.heap.size) (o := vBox 2 bN bS) (by simp)).2.2.1
        have R2 := R2'.alloc (vBox 2 aN aS) rfl
        clear R2' HP2
        obtain ⟨own2, hv2, hn2⟩ := R2.vm
        have HA := HTA.out _ own2 hv2
        clear hv2 HTA
        go_wp2_with fail
        refine HA.mono ?_; rintro e w3 ⟨rfl, hN3⟩
        have R3 := hn2 _ _ (hN3 i)
        obtain ⟨own3, hv3, hn3⟩ := R3.vm
        have HB := HTB.out _ own3 hv3
        obtain ⟨y0, y1, y2, _⟩ := R3.val (b := w1.heap.size) (T := 2) (N := bN) (S := bS) (by simp)
        clear hv3 HTB hN3 hn2 R2 HA
        go_wp2_with fail
        refine HB.mono ?_; rintro e w4 ⟨rfl, hN4⟩
        have R4 := hn3 _ _ (hN4 i)
        clear hN4 hn3 R3 HB y0 y1 y2
        obtain ⟨z0, z1, z2, zz⟩ := R4.val (b := w1.heap.size + 1) (T := 0) (N := 0) (S := []) (by simp)
        have HPU := R4.push3 hi2 (by omega) (b := w1.heap.size + 1) (by simp) 3 0 (la ++ lb)
        clear R4
        go_wp2_with fail
        refine HPU.mono ?_; rintro e w9 ⟨rfl, hN⟩
        have HN : Hid (Nf own W m a nb tp i (pushP (dropP (dropP M i) i) i [⟨3, 0, (la ++ lb)⟩]) w9) := hN
        clear hN HPU
        go_wp2_with fail
        go_end0
        rw [HO2.out]
        exact .inl ⟨rfl, rfl, HN.out⟩
end Go.Proofs.Qxb6500293aGreatRR
