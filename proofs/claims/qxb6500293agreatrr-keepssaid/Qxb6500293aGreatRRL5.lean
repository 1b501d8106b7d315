/-
  decode walked.
-/
import Derived.Test.Qxb6500293aGreatRRL4fin
import Derived.Test.Qxb6500293aGreatRRZ7
import Derived.Laws.IdiomStrings
import Derived.BigQuiet
namespace Go.Proofs.Qxb6500293aGreatRR
open Go.RowKit
open Ieee (double)
set_option linter.unusedVariables false
set_option linter.unusedSimpArgs false

theorem Rp.nx {own : Nat → Nat} {W w1 w : World} {m a nb tp rb bb cap : Nat} {B : List (Nat × Obj)} {M : Mc} {r : Rd} (hb : Below W.heap.size W w1) (h : Rp own w1 m a nb tp rb bb cap B M r w) (hrb : W.heap.size ≤ rb) : Nx own W m a nb tp M w := by
  obtain ⟨⟨own1, h1, h2, h3, _⟩, _⟩ := h
  have hs := hb.size
  exact ⟨own1, fun k hk => h1 k (by omega), h2, ⟨h3.os.trans hb.os, h3.tape.trans hb.tape, h3.output.trans hb.output, Nat.le_trans hs h3.size, fun j hj e => (h3.block j (by omega) e (by omega)).trans (hb.block j hj)⟩⟩
/-- The bytes of a string, laid in a block of their own. -/
theorem bytes_of (W : World) (bs : List UInt8) : ∃ cap o1, (convert 9 59 (.string ⟨bs.toArray⟩)).run Tryz.prog W = .ok (.slice (some ⟨W.heap.size, 0, none⟩) bs.length cap) (W.drew.alloc o1) ∧ bs.length ≤ cap ∧ ByAt (W.drew.alloc o1) W.heap.size bs := by
  refine ⟨_, _, run_bytes_of_string (P := Tryz.prog) W 9 59 5 ⟨bs.toArray⟩ Tryz.underlying9 Tryz.underlying59 Tryz.underlying5, grownCap_ge W bs.length 0 5, ?_, ?_⟩
  · show W.heap.size < (W.heap.push _).size
    simp
  · intro j hj
    have h1 : (W.drew.alloc (.cells (bytesRow ⟨bs.toArray⟩ (grownCap W bs.length 0 5)) 5 ((bytesRow ⟨bs.toArray⟩ (grownCap W bs.length 0 5)).size, (bytesRow ⟨bs.toArray⟩ (grownCap W bs.length 0 5)).size + 1))).heap[W.heap.size]? = some (.cells (bytesRow ⟨bs.toArray⟩ (grownCap W bs.length 0 5)) 5 ((bytesRow ⟨bs.toArray⟩ (grownCap W bs.length 0 5)).size, (bytesRow ⟨bs.toArray⟩ (grownCap W bs.length 0 5)).size + 1)) := by
      show (W.heap.push _)[W.heap.size]? = _
      simp
    have h2 : (bytesRow ⟨bs.toArray⟩ (grownCap W bs.length 0 5))[j]? = some (.int .u8 (byte bs j : Int)) := by
      unfold bytesRow byte
      rw [Array.getElem?_append_left (by simpa using hj)]
      simp [List.getElem?_eq_getElem hj]
    show World.cell? _ ⟨W.heap.size, j, none⟩ = _
    unfold World.cell?
    rw [show (⟨W.heap.size, j, none⟩ : Addr).block = W.heap.size from rfl]
    simp only [ByteArray.size, List.size_toArray] at h1 ⊢
    simp only [h1]
    exact h2
set_option maxRecDepth 8000 in
set_option maxHeartbeats 3200000 in
theorem decode_any {own : Nat → Nat} {W : World} {m a nb tp : Nat} {M : Mc} (HV : Vm own W m a nb tp M) (hds : M.ds = []) (hks : M.ks = []) (hco : M.co = []) (hpr : M.pr = []) (bs : List UInt8) (hn : bs.length ≤ 32768) :
    Calls Tryz.prog 53 #[.pointer (some ⟨m, 0, none⟩), .string ⟨bs.toArray⟩] W fun e w' => e = .returned (.bool (decodeP M bs).2) ∧ Nx own W m a nb tp (decodeP M bs).1 w' := by
  obtain ⟨cap, o1, hcv, hcap, hby⟩ := bytes_of W bs
  have hbl : Below W.heap.size W ((W.drew.alloc o1).alloc (rdO W.heap.size cap (rd0 bs))) := below_two (below_two (below_drewN (Below.refl _ _) 1) (below_one _ _)) (below_one _ _)
  have hr1 : RdAt ((W.drew.alloc o1).alloc (rdO W.heap.size cap (rd0 bs))) (W.heap.size + 1) W.heap.size cap (rd0 bs) := by
    refine ⟨?_, hby.kept (below_one _ _).size ((below_one _ _).block _ hby.1), by omega, hcap, Nat.zero_le _, hn⟩
    have := World.alloc_heap_new (W.drew.alloc o1) (rdO W.heap.size cap (rd0 bs))
    rw [World.size_alloc] at this
    exact this
  have HV1 := HV.below hbl
  have z0 : own (W.heap.size + 1) = 0 := HV.far (by omega)
  have z1 : own W.heap.size = 0 := HV.far (by omega)
  have HB : Hid (Below W.heap.size W ((W.drew.alloc o1).alloc (rdO W.heap.size cap (rd0 bs)))) := hbl
  have HR0 : Hid (Rp own ((W.drew.alloc o1).alloc (rdO W.heap.size cap (rd0 bs))) m a nb tp (W.heap.size + 1) W.heap.size cap [] M (rd0 bs) ((W.drew.alloc o1).alloc (rdO W.heap.size cap (rd0 bs)))) := Rp.start HV1 z0 z1 hr1
  have HU := u8_any hr1
  have hu0 := u8_S (r := rd0 bs) (Nat.zero_le _)
  have hnp : (u8P (rd0 bs)).2 < 256 := by
    unfold u8P
    show (if _ then 0 else _) < _
    split
    · exact Nat.zero_lt_succ _
    · exact byte_lt _ _
  have HD : Hid (decodeP M bs = if (u8P (rd0 bs)).2 < 1 ∨ 13 < (u8P (rd0 bs)).2 then (M, false)
    else if (protosF (u8P (rd0 bs)).2 (u8P (rd0 bs)).1 M).1.bad = true ∨ (protosF (u8P (rd0 bs)).2 (u8P (rd0 bs)).1 M).1.i ≠ bs.length then ((protosF (u8P (rd0 bs)).2 (u8P (rd0 bs)).1 M).2, false)
    else ((protosF (u8P (rd0 bs)).2 (u8P (rd0 bs)).1 M).2, decide (((protosF (u8P (rd0 bs)).2 (u8P (rd0 bs)).1 M).2.pr[0]?.getD dP).np = 0) && decide (((protosF (u8P (rd0 bs)).2 (u8P (rd0 bs)).1 M).2.pr[0]?.getD dP).nup = 0))) := rfl
  have hi0 : (u8P (rd0 bs)).1.i ≤ (u8P (rd0 bs)).1.bs.length := hu0.next
  have hbs0 : (u8P (rd0 bs)).1.bs = bs := hu0.bs
  generalize (u8P (rd0 bs)).2 = np at *
  generalize (u8P (rd0 bs)).1 = r1 at *
  have hrd : rdO W.heap.size cap (rd0 bs) = .cells #[.slice (some ⟨W.heap.size, 0, none⟩) bs.length cap, .int .i64 0, .bool false] 146 := rfl
  rw [hrd] at HU HB HR0
  clear hrd hr1 hbl HV1 hu0 hby HV
  go_enter Tryz.func53, Tryz.ntmps53
  go_wp2_with fail
  refine HU.mono ?_; rintro e w1 ⟨rfl, hrd1, hst1⟩
  have R1 := HR0.out.turn hst1 hrd1
  clear HU hrd1 hst1
  by_cases c1 : np < 1
  · have d1 : decide ((np : Int) < 1) = true := decide_eq_true (by omega)
    have HE : Hid (Nx own W m a nb tp M w1) := R1.nx HB.out (Nat.le_add_right _ _)
    have HDe : decodeP M bs = (M, false) := by rw [HD.out, if_pos (.inl c1)]
    clear R1 HR0 HB HD
    go_wp2_with fail
    go_ret
    rw [HDe]
    exact ⟨rfl, HE.out⟩
  by_cases c2 : 13 < np
  · have d1 : decide ((np : Int) < 1) = false := decide_eq_false (by omega)
    have d2 : decide ((13 : Int) < (np : Int)) = true := decide_eq_true (by omega)
    have HE : Hid (Nx own W m a nb tp M w1) := R1.nx HB.out (Nat.le_add_right _ _)
    have HDe : decodeP M bs = (M, false) := by rw [HD.out, if_pos (.inr c2)]
    clear R1 HR0 HB HD
    go_wp2_with fail
    go_ret
    rw [HDe]
    exact ⟨rfl, HE.out⟩
  have d1 : decide ((np : Int) < 1) = false := decide_eq_false (by omega)
  have d2 : decide ((13 : Int) < (np : Int)) = false := decide_eq_false (by omega)
  have HD2 : Hid (decodeP M bs = if (protosF np r1 M).1.bad = true ∨ (protosF np r1 M).1.i ≠ bs.length then ((protosF np r1 M).2, false)
    else ((protosF np r1 M).2, decide (((protosF np r1 M).2.pr[0]?.getD dP).np = 0) && decide (((protosF np r1 M).2.pr[0]?.getD dP).nup = 0))) := HD.out.trans (if_neg (by omega))
  have HBB : Hid (∀ M' r' w', Rp own ((W.drew.alloc o1).alloc (.cells #[.slice (some ⟨W.heap.size, 0, none⟩) bs.length cap, .int .i64 0, .bool false] 146)) m a nb tp (W.heap.size + 1) W.heap.size cap [] M' r' w' → Nx own W m a nb tp M' w') := fun M' r' w' h => h.nx HB.out (Nat.le_add_right _ _)
  have hS := protos_S np (r := r1) M hi0
  have HLE : Hid ((protosF np r1 M).1.bad = false → 1 ≤ (protosF np r1 M).2.pr.length) := by
    intro hb
    have := (hS.2.2 ⟨by rw [hds, hks, hco, hpr]; exact ⟨rfl, rfl, rfl⟩, by rw [hpr]; simp, by rw [hpr]; simp, by rw [hds]; simp, by rw [hco]; simp, by rw [hks]; simp⟩ hb).2
    rw [this, hpr]
    simp
    omega
  have HBS : Hid ((protosF np r1 M).1.bs = bs) := hS.1.rd.bs.trans hbs0
  have HR1 : Hid (∃ Mk rk, protosF np rk Mk = protosF np r1 M ∧ Mk.ds.length ≤ rk.i ∧ Mk.ks.length ≤ rk.i ∧ Mk.co.length ≤ rk.i ∧ Mk.pr.length + np ≤ np ∧ Rp own ((W.drew.alloc o1).alloc (.cells #[.slice (some ⟨W.heap.size, 0, none⟩) bs.length cap, .int .i64 0, .bool false] 146)) m a nb tp (W.heap.size + 1) W.heap.size cap [] Mk rk w1) := ⟨M, r1, rfl, by rw [hds]; exact Nat.zero_le _, by rw [hks]; exact Nat.zero_le _, by rw [hco]; exact Nat.zero_le _, by rw [hpr]; exact Nat.le_of_eq (Nat.zero_add _), R1⟩
  clear R1 HR0 HB HD hS hds hks hco hpr hbs0 hi0 hcv
  generalize (W.drew.alloc o1).alloc (.cells #[.slice (some ⟨W.heap.size, 0, none⟩) bs.length cap, .int .i64 0, .bool false] 146) = W1 at *
  generalize W.heap.size + 1 = rb at *
  generalize W.heap.size = bb at *
  generalize protosF np r1 M = PF at *
  have hwn : IntKind.i64.wrap (np : Int) = (np : Int) := IntWalk.i64_in _ ⟨by omega, by omega⟩
  go_wp2_with fail
  go_loopg [7] np (fun g jv wr => ∃ j : Nat, jv = .int .i64 (j : Int) ∧ j + g = np ∧ Hid (∃ Mk rk, protosF g rk Mk = PF ∧ Mk.ds.length ≤ rk.i ∧ Mk.ks.length ≤ rk.i ∧ Mk.co.length ≤ rk.i ∧ Mk.pr.length + g ≤ np ∧ Rp own W1 m a nb tp rb bb cap [] Mk rk wr))
  case atStart => exact ⟨0, rfl, by omega, HR1.out⟩
  case round =>
    obtain ⟨j, rfl, hjg, HI⟩ := hrel
    obtain ⟨Mk, rk, q1, q2, q3, q4, q5, RK⟩ := HI.out
    obtain ⟨rc0, rc1, rc2, rcz⟩ := RK.rd.c
    have rlt := RK.rd.lt
    have dj : decide ((j : Int) < (np : Int)) = decide (j < np) := by simp
    cases hb : rk.bad with
    | true =>
      have e0 : PF = (rk, Mk) := by
        rw [← q1]
        cases gk with
        | zero => rfl
        | succ g => unfold protosF; rw [if_pos hb]
      have HDe : decodeP M bs = (Mk, false) := by rw [HD2.out, e0, if_pos (.inl hb)]
      have HE : Hid (Nx own W m a nb tp Mk wr) := HBB.out _ _ _ RK
      rw [hb] at rc2
      clear RK HI q1 e0 HD2 HLE HBS
      by_cases hj : j < np
      · have dj2 : decide ((j : Int) < (np : Int)) = true := decide_eq_true (by omega)
        go_wp2_with fail
        go_quiet (fail)
        go_wp2_with fail
        go_ret
        rw [HDe]
        exact ⟨rfl, (HE.out).below (below_drewN (Below.refl _ _) _)⟩
      · have dj2 : decide ((j : Int) < (np : Int)) = false := decide_eq_false (by omega)
        go_wp2_with fail
        go_quiet (fail)
        go_wp2_with fail
        go_ret
        rw [HDe]
        exact ⟨rfl, (HE.out).below (below_drewN (Below.refl _ _) _)⟩
    | false =>
      rw [hb] at rc2
      by_cases hj : j < np
      · obtain ⟨g', rfl⟩ : ∃ g', gk = g' + 1 := ⟨gk - 1, by omega⟩
        have dj2 : decide ((j : Int) < (np : Int)) = true := decide_eq_true (by omega)
        obtain ⟨own1, hv1, z1', z2', hN1, hP1⟩ := RK.vm
        have HPR := proto_any hv1 z1' z2' RK.rd q2 q3 q4 (by omega)
        have hS := (proto_S (r := rk) Mk RK.rd.i).1
        have e1 : protosF g' (protoP rk Mk).1 (protoP rk Mk).2 = PF := by
          rw [← q1]
          conv => rhs; unfold protosF
          rw [if_neg (by rw [hb]; decide)]
        have HN : Hid (∀ w2, Rp own1 wr m a nb tp rb bb cap [] (protoP rk Mk).2 (protoP rk Mk).1 w2 → ∃ Mk rk, protosF g' rk Mk = PF ∧ Mk.ds.length ≤ rk.i ∧ Mk.ks.length ≤ rk.i ∧ Mk.co.length ≤ rk.i ∧ Mk.pr.length + g' ≤ np ∧ Rp own W1 m a nb tp rb bb cap [] Mk rk w2) := fun w2 h => ⟨_, _, e1, by have := hS.lds; omega, by have := hS.lks; omega, by have := hS.lco; omega, by have := hS.lpr; omega, hP1 _ _ _ h⟩
        have hwj : IntKind.i64.wrap ((j : Int) + 1) = (j : Int) + 1 := IntWalk.i64_in _ ⟨by omega, by omega⟩
        clear RK HI q1 q2 q3 q4 q5 hv1 hN1 hP1 hS e1 HD2 HLE HBS
        generalize (protoP rk Mk).1 = rk2 at *
        generalize (protoP rk Mk).2 = Mk2 at *
        go_wp2_with fail
        refine HPR.mono ?_; rintro e w2 ⟨rfl, hp2⟩
        have HI2 : Hid _ := HN.out _ hp2
        clear HPR HN hp2
        go_wp2_with fail
        go_roundg g'
        case measure => omega
        case rel => exact ⟨j + 1, by go_num, by omega, HI2.out⟩
      · have dj2 : decide ((j : Int) < (np : Int)) = false := decide_eq_false (by omega)
        obtain rfl : gk = 0 := by omega
        have e0 : PF = (rk, Mk) := q1.symm
        have HDe : decodeP M bs = if rk.i ≠ bs.length then (Mk, false) else (Mk, decide ((Mk.pr[0]?.getD dP).np = 0) && decide ((Mk.pr[0]?.getD dP).nup = 0)) := by
          rw [HD2.out, e0]
          simp only [hb, Bool.false_eq_true, false_or]
        have HE : Hid (Nx own W m a nb tp Mk wr) := HBB.out _ _ _ RK
        have hb2 : rk.bs = bs := by have := HBS.out; rw [e0] at this; exact this
        rw [hb2] at rc0
        have hl1 : 1 ≤ Mk.pr.length := by have := HLE.out; rw [e0] at this; exact this hb
        obtain ⟨own1, hv1, _⟩ := RK.vm
        obtain ⟨pb, pcp, p1, p2, p3, _, p4⟩ := hv1.prE (k := 0) (by omega)
        have hml := hv1.tabR.2.2.2.2
        have g0 := p4 0 _ rfl
        have g3 := p4 3 _ rfl
        simp only [Nat.zero_mul, Nat.zero_add] at g0 g3
        clear RK HI q1 e0 HD2 HLE HBS p4 hv1
        by_cases hi : rk.i = bs.length
        · have di : ((rk.i : Int) != (bs.length : Int)) = false := by rw [hi]; simp
          rw [if_neg (by omega)] at HDe
          generalize (Mk.pr[0]?.getD dP).np = n0 at *
          generalize (Mk.pr[0]?.getD dP).nup = n3 at *
          rw [hi] at rc1
          clear hi
          by_cases z0 : n0 = 0
          · subst z0
            by_cases z3 : n3 = 0
            · subst z3
              go_wp2_with fail
              go_quiet (fail)
              go_wp2_with fail
              go_ret
              rw [HDe]
              exact ⟨rfl, (HE.out).below (below_drewN (Below.refl _ _) _)⟩
            · have k3 : ((n3 : Int) == 0) = false := by rw [beq_eq_false_iff_ne]; omega
              have k3' : decide (n3 = 0) = false := decide_eq_false z3
              go_wp2_with fail
              go_quiet (fail)
              go_wp2_with fail
              go_ret
              rw [HDe]
              exact ⟨by simp [k3'], (HE.out).below (below_drewN (Below.refl _ _) _)⟩
          · have k0 : ((n0 : Int) == 0) = false := by rw [beq_eq_false_iff_ne]; omega
            have k0' : decide (n0 = 0) = false := decide_eq_false z0
            go_wp2_with fail
            go_quiet (fail)
            go_wp2_with fail
            go_ret
            rw [HDe]
            exact ⟨by simp [k0'], (HE.out).below (below_drewN (Below.refl _ _) _)⟩
        · have di : ((rk.i : Int) != (bs.length : Int)) = true := by rw [bne_iff_ne]; omega
          have di2 : (rk.i != bs.length) = true := by simpa using hi
          rw [if_pos hi] at HDe
          clear g0 g3 p1 hi
          go_wp2_with fail
          go_quiet (fail)
          go_wp2_with fail
          go_ret
          rw [HDe]
          exact ⟨rfl, (HE.out).below (below_drewN (Below.refl _ _) _)⟩
end Go.Proofs.Qxb6500293aGreatRR
