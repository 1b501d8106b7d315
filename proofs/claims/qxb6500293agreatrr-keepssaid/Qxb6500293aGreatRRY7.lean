/-
  join walked.
-/
import Derived.Test.Qxb6500293aGreatRRY5
import Derived.OwnWalk
namespace Go.Proofs.Qxb6500293aGreatRR
open Go.RowKit
open Ieee (double)
set_option linter.unusedVariables false
set_option linter.unusedSimpArgs false

theorem info5 : (Tryz.prog.info? 5).map (fun i => (i.zero, i.size, i.bytes)) = some (some (.int .u8 0), 1, 1) := by kernel_rfl
theorem strCells_by (s : List UInt8) : Go.Lib.strCells ⟨s.toArray⟩ = s.flatMap byC := by
  rw [flat_by]
  rfl
theorem wpList_append_eq2 {P : Program} {w : World} {ops : Array Oper} {rest : List Oper} {o : Oper} {a : Act} {Q : Exit → Act → World → Prop} (hgd : o.guard = none) (s x : Operand) (t t' : TypeId)
    (ho : o.op = .call { callee := .builtin .append, args := #[s, x], argTypes := #[t, t'] }) (v u v' : Value) (w' : World) (hs : a.eval s = v) (hx : a.eval x = u)
    (hr : (Builtin.append_ #[t, t'] o.type #[v, u]).run P w = .ok v' w') (h : wpList P ops Q rest (a.put o.dst v') w') : wpList P ops Q (o :: rest) a w := by
  refine wpList_plain hgd fun K hK => ?_
  unfold Oper.wp execOp
  simp only [ho, resolve, invoke, builtin, Sem.run_bind, Sem.run_pure, Result.andThen_ok, List.map_toArray, List.map_cons, List.map_nil, hs, hx, hr]
  exact hK _ _ h
theorem below_grown {n : Nat} {W w w' : World} {e : TypeId} {sz m : Nat} {v : Value} {xs : List Value} (hb : Below n W w) (ho : w.ownsRow n e sz v m xs) (hg : w.grownBy w' v.ownBlock) (hn : n ≤ W.heap.size) : Below n W w' := by
  refine ⟨hg.os.trans hb.os, hg.tape.trans hb.tape, hg.output.trans hb.output, Nat.le_trans hb.size hg.size, fun k hk => (hg.block k ?_ ?_).trans (hb.block k hk)⟩
  · have := hb.size
    omega
  · intro h
    rcases ho.2 with ⟨h1, h0⟩ | ⟨g, cap, cur, h1, hbg, _⟩
    · rw [h1] at h
      cases h
    · rw [h1] at h
      have : k = g := by cases h; rfl
      omega
/-- Strings laid in a row. -/
def PA (W : World) (b k : Nat) (ps : List (List UInt8)) : Prop := b < W.heap.size ∧ ∀ j s, ps[j]? = some s → W.cell? ⟨b, k + j, none⟩ = some (.string ⟨s.toArray⟩)
theorem PA.below {W W' : World} {b k : Nat} {ps : List (List UInt8)} (h : PA W b k ps) {n : Nat} (hn : b < n) (hb : Below n W W') : PA W' b k ps :=
  ⟨Nat.lt_of_lt_of_le h.1 hb.size, fun j s hj => (hb.cell (p := ⟨b, k + j, none⟩) hn).trans (h.2 j s hj)⟩
theorem flat_take_len (ps : List (List UInt8)) (k : Nat) : (ps.take k).flatten.length ≤ ps.flatten.length := by
  induction ps generalizing k with
  | nil => simp
  | cons p ps ih =>
    cases k with
    | zero => simp
    | succ k =>
      have := ih k
      simp only [List.take_succ_cons, List.flatten_cons, List.length_append]
      omega
theorem flat_take_succ {ps : List (List UInt8)} {k : Nat} {s : List UInt8} (h : ps[k]? = some s) : (ps.take (k + 1)).flatten = (ps.take k).flatten ++ s := by
  rw [List.take_add_one, h]
  simp
set_option maxRecDepth 8000 in
set_option maxHeartbeats 1600000 in
theorem join_any (W : World) (b k cap : Nat) (ps : List (List UInt8)) (hP : PA W b k ps) (hl : ps.length ≤ 100) (hf : ps.flatten.length ≤ 1000000000) :
    Calls Tryz.prog 14 #[.slice (some ⟨b, k, none⟩) ps.length cap] W fun e W' => e = .returned (.string ⟨ps.flatten.toArray⟩) ∧ Below W.heap.size W W' := by
  obtain ⟨i0, hi, hz0, hz1, hz2⟩ := info_parts info5
  have HP : Hid (PA W b k ps) := hP
  have HF : Hid (ps.flatten.length ≤ 1000000000) := hf
  clear hP hf
  go_enter Tryz.func14, Tryz.ntmps14
  go_wp2_with fail
  go_loop [3, 11] (fun n i => ∃ j s : Nat, i = .int .i64 (j : Int) ∧ n = .int .i64 (s : Int) ∧ j ≤ ps.length ∧ s ≤ 9223372036854775807 ∧ Hid (s = (ps.take j).flatten.length)) (fun _ i => ps.length - (intOf i).toNat)
  case atStart => exact ⟨0, 0, rfl, rfl, by omega, by omega, rfl⟩
  case round =>
    obtain ⟨j, s, rfl, rfl, hj, hs, HS⟩ := hrel
    by_cases hjl : j < ps.length
    · obtain ⟨p, hp⟩ : ∃ p, ps[j]? = some p := ⟨_, List.getElem?_eq_getElem hjl⟩
      have hc := HP.out.2 j p hp
      have hb := HP.out.1
      have HN : Hid (s + p.length = (ps.take (j + 1)).flatten.length) := by
        show _ = _
        rw [flat_take_succ hp, List.length_append, HS.out]
      have hle : s + p.length ≤ 9223372036854775807 := by
        have h1 := HN.out
        have h2 := flat_take_len ps (j + 1)
        have h3 := HF.out
        omega
      have dl : decide ((j : Int) < (ps.length : Int)) = true := decide_eq_true (by omega)
      clear hp HS
      generalize ps.length = pl at *
      go_wp2_with fail
      go_round
      case rel => exact ⟨j + 1, s + p.length, by go_num, by go_num, by omega, by omega, HN⟩
      case measure => simp [intOf]; omega
    · have hje : j = ps.length := by omega
      have HS2 : Hid (s = ps.flatten.length) := by
        have := HS.out
        rw [hje, List.take_length] at this
        exact this
      have dl : decide ((j : Int) < (ps.length : Int)) = false := decide_eq_false (by omega)
      have HM : Hid (1 * s ≤ 281474976710656 ∧ s ≤ maxLen) := by
        have h1 := HS2.out
        have h2 := HF.out
        unfold maxLen
        constructor <;> omega
      clear HS
      go_wp2_with (at_make; refine wpList_make_own _ rfl _ _ 59 rfl W.heap.size 5 i0 _ 1 Tryz.underlying59 hi hz0 hz1 .i64 .i64 _ s rfl rfl rfl (by rw [hz2]; exact HM.out.1) HM.out.2 (Nat.le_refl _) ?_; intro w0 hown0 hg0)
      have HO0 : Hid (w0.ownsRow W.heap.size 5 1 (.slice (some ⟨W.heap.size, 0, none⟩) 0 s) 0 [] ∧ W.grownBy w0 none) := ⟨hown0, hg0⟩
      clear hown0 hg0
      go_loopw [6, 24] (fun bv i wr => ∃ (j : Nat) (ad : Option Addr) (n cp : Nat), i = .int .i64 (j : Int) ∧ j ≤ ps.length ∧ bv = .slice ad n cp ∧ Hid (n = (ps.take j).flatten.length ∧ wr.ownsRow W.heap.size 5 1 bv n ((ps.take j).flatten.flatMap byC) ∧ Below W.heap.size W wr)) (fun _ i _ => ps.length - (intOf i).toNat)
      case atStart => exact ⟨0, _, _, _, rfl, by omega, rfl, rfl, by simpa using HO0.out.1, ⟨HO0.out.2.os, HO0.out.2.tape, HO0.out.2.output, HO0.out.2.size, fun k hk => HO0.out.2.block k hk (by simp)⟩⟩
      case round =>
        obtain ⟨j, ad, n, cp, rfl, hj2, rfl, HR⟩ := hrel
        by_cases hjl2 : j < ps.length
        · obtain ⟨p, hp⟩ : ∃ p, ps[j]? = some p := ⟨_, List.getElem?_eq_getElem hjl2⟩
          obtain ⟨hn, hown, hbel⟩ := HR.out
          have hc := (HP.out.below HP.out.1 hbel).2 j p hp
          have hle : n + (⟨p.toArray⟩ : ByteArray).size ≤ 1000000000 := by
            have h2 := flat_take_len ps (j + 1)
            have h3 := HF.out
            rw [flat_take_succ hp, List.length_append] at h2
            show n + p.toArray.size ≤ _
            rw [List.size_toArray]
            omega
          obtain ⟨v', w', hrun, h2, h3, h4⟩ := Go.Lib.run_append_own_string (P := Tryz.prog) wr W.heap.size 59 9 59 5 i0 Tryz.underlying59 Tryz.underlying9 hi hz0 hz1 hz2 _ _ _ hown ⟨p.toArray⟩ (by unfold maxLen; omega) (by omega) hbel.size
          obtain ⟨ad', cp', rfl⟩ := row_slice (owns_base h2 (Nat.zero_le _))
          have HN : Hid (n + p.length = (ps.take (j + 1)).flatten.length ∧ w'.ownsRow W.heap.size 5 1 (.slice ad' (n + p.length) cp') (n + p.length) ((ps.take (j + 1)).flatten.flatMap byC) ∧ Below W.heap.size W w') := by
            rw [flat_take_succ hp, List.length_append, List.flatMap_append, hn]
            rw [strCells_by, hn] at h2
            exact ⟨rfl, h2, below_grown hbel hown h3 (Nat.le_refl _)⟩
          have dl : decide ((j : Int) < (ps.length : Int)) = true := decide_eq_true (by omega)
          clear hp HR hn hown hbel h2 h3 h4 hle HO0 HF HM HS2
          go_wp2_with (at_builtin; refine wpList_append_eq2 rfl _ _ 59 9 rfl _ _ _ _ rfl rfl hrun ?_)
          go_roundw
          case rel => exact ⟨j + 1, _, _, _, by go_num, by omega, rfl, HN⟩
          case measure => simp [intOf]; omega
        · have hje2 : j = ps.length := by omega
          have dl2 : decide ((j : Int) < (ps.length : Int)) = false := decide_eq_false (by omega)
          obtain ⟨hn, hown, hbel⟩ := HR.out
          rw [hje2, List.take_length] at hn hown
          rw [hn] at hown
          have hconv := row_str (owns_base hown (Nat.zero_le _))
          rw [← hn] at hconv
          have HB : Hid (Below W.heap.size W wr) := hbel
          clear HR hn hown hbel HO0 HF HM HS2 HP hje hje2
          generalize ps.length = pl at *
          go_wp2_with fail
          go_ret
          exact ⟨rfl, HB.out⟩
end Go.Proofs.Qxb6500293aGreatRR
