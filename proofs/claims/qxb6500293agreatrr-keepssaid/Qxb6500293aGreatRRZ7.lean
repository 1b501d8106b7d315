/-
  THE LOADER, PLAIN: what Load leaves is a machine that can run, or the empty one.
-/
import Derived.Test.Qxb6500293aGreatRRZ9
import Derived.Test.Qxb6500293aGreatRRX11
import Derived.Test.Qxb6500293aGreatRRX17
namespace Go.Proofs.Qxb6500293aGreatRR
open Ieee (double)
set_option linter.unusedVariables false
set_option linter.unusedSimpArgs false

theorem tileP_app {ds ks co : Nat} (p : Pr) (h1 : p.up = ds) (h2 : p.k = ks) (h3 : p.co = co) : ∀ (l : List Pr) (u k c : Nat), tileP ds ks co l u k c → tileP (ds + p.nup) (ks + p.nk) (co + p.nc) (l ++ [p]) u k c
  | [], u, k, c, ⟨a, b, d⟩ => ⟨by omega, by omega, by omega, by show _ + _ = _ + _; omega, by show _ + _ = _ + _; omega, by show _ + _ = _ + _; omega⟩
  | q :: r, u, k, c, ⟨a, b, d, e⟩ => ⟨a, b, d, tileP_app p h1 h2 h3 r _ _ _ e⟩
/-- The text read so far. -/
structure PreOk (M : Mc) : Prop where
  tile : tileP M.ds.length M.ks.length M.co.length M.pr 0 0 0
  each : ∀ p ∈ M.pr, p.np ≤ 3 ∧ p.np ≤ p.ns ∧ p.ns ≤ 12 ∧ p.nup ≤ 255 ∧ p.nc ≤ 65535
  win : ∀ p ∈ M.pr, p.up + p.nup ≤ M.ds.length ∧ p.k + p.nk ≤ M.ks.length ∧ p.co + p.nc ≤ M.co.length
  ds : ∀ d ∈ M.ds, d.1 ≤ 1 ∧ d.2 < 256
  co : ∀ d ∈ M.co, d.1 < 256 ∧ d.2 < 65536
  ks : ∀ v ∈ M.ks, (v.T = 2 ∨ v.T = 3) ∧ ∀ N, okV N v
theorem PreOk.next {M M' : Mc} {p : Pr} (h : PreOk M) (g : PrG M M' p) : PreOk M' := by
  obtain ⟨l1, d1, d2, d3⟩ := g.ds
  obtain ⟨l2, k1, k2, k3⟩ := g.ks
  obtain ⟨l3, c1, c2, c3⟩ := g.co
  obtain ⟨a1, a2, a3⟩ := g.at'
  have e1 : M'.ds.length = M.ds.length + p.nup := by rw [d1, List.length_append, d2]
  have e2 : M'.ks.length = M.ks.length + p.nk := by rw [k1, List.length_append, k2]
  have e3 : M'.co.length = M.co.length + p.nc := by rw [c1, List.length_append, c2]
  refine ⟨?_, ?_, ?_, ?_, ?_, ?_⟩
  · rw [e1, e2, e3, g.pr]
    exact tileP_app p a1 a2 a3 _ _ _ _ h.tile
  · intro q hq
    rw [g.pr] at hq
    rcases List.mem_append.1 hq with hq | hq
    · exact h.each q hq
    · rw [List.mem_singleton] at hq; rw [hq]; exact g.np
  · intro q hq
    rw [g.pr] at hq
    rw [e1, e2, e3]
    rcases List.mem_append.1 hq with hq | hq
    · have := h.win q hq; omega
    · rw [List.mem_singleton] at hq; rw [hq]; omega
  · intro d hd
    rw [d1] at hd
    rcases List.mem_append.1 hd with hd | hd
    · exact h.ds d hd
    · exact d3 d hd
  · intro d hd
    rw [c1] at hd
    rcases List.mem_append.1 hd with hd | hd
    · exact h.co d hd
    · exact c3 d hd
  · intro d hd
    rw [k1] at hd
    rcases List.mem_append.1 hd with hd | hd
    · exact h.ks d hd
    · exact k3 d hd
/-- The empty machine: nothing is loaded. -/
def mt : Mc := ⟨[], [], [], [], [], [], [], [], 0, [], 21, []⟩
/-- What the reading of protos keeps. -/
structure PsS (r : Rd) (M : Mc) (r' : Rd) (M' : Mc) : Prop where
  rd : RdS r r'
  cs : M'.cs = M.cs
  ux : M'.ux = M.ux
  ce : M'.ce = M.ce
  th : M'.th = M.th
  fuel : M'.fuel = M.fuel
  out : M'.out = M.out
  en : M'.en = M.en
  tb : M'.tb = M.tb
  lds : M'.ds.length + r.i ≤ M.ds.length + r'.i
  lks : M'.ks.length + r.i ≤ M.ks.length + r'.i
  lco : M'.co.length + r.i ≤ M.co.length + r'.i
theorem LdS.ps {r r' : Rd} {M M' : Mc} (h : LdS r M r' M') : PsS r M r' M' := ⟨h.rd, h.cs, h.ux, h.ce, h.th, h.fuel, h.out, h.en, h.tb, h.lds, h.lks, h.lco⟩
theorem PsS.refl {r : Rd} {M : Mc} (h : r.i ≤ r.bs.length) : PsS r M r M := ⟨RdS.refl h, rfl, rfl, rfl, rfl, rfl, rfl, rfl, rfl, Nat.le_refl _, Nat.le_refl _, Nat.le_refl _⟩
theorem PsS.trans {r r' r'' : Rd} {M M' M'' : Mc} (h : PsS r M r' M') (g : PsS r' M' r'' M'') : PsS r M r'' M'' :=
  ⟨h.rd.trans g.rd, g.cs.trans h.cs, g.ux.trans h.ux, g.ce.trans h.ce, g.th.trans h.th, g.fuel.trans h.fuel, g.out.trans h.out, g.en.trans h.en, g.tb.trans h.tb, by have := h.lds; have := g.lds; omega, by have := h.lks; have := g.lks; omega, by have := h.lco; have := g.lco; omega⟩
theorem protos_S : ∀ (n : Nat) {r : Rd} (M : Mc), r.i ≤ r.bs.length → PsS r M (protosF n r M).1 (protosF n r M).2 ∧ (protosF n r M).2.pr.length ≤ M.pr.length + n ∧ (PreOk M → (protosF n r M).1.bad = false → PreOk (protosF n r M).2 ∧ (protosF n r M).2.pr.length = M.pr.length + n)
  | 0, r, M, h => ⟨PsS.refl h, Nat.le_refl _, fun a _ => ⟨a, rfl⟩⟩
  | n + 1, r, M, h => by
    unfold protosF
    split
    · rename_i c
      refine ⟨PsS.refl h, Nat.le_add_right _ _, fun a e => ?_⟩
      have e : r.bad = false := e
      rw [c] at e; cases e
    · obtain ⟨s, g⟩ := proto_S (r := r) M h
      obtain ⟨a, b, d⟩ := protos_S n (r := (protoP r M).1) (protoP r M).2 s.rd.next
      have := s.lpr
      refine ⟨s.ps.trans a, by omega, fun p e => ?_⟩
      obtain ⟨q, hq⟩ := g (a.rd.ok e)
      obtain ⟨x1, x2⟩ := d (p.next hq) e
      refine ⟨x1, ?_⟩
      rw [x2, hq.pr, List.length_append]
      show _ + 1 + n = _
      omega
def globT : List Tbl := (List.range 11).foldl (fun st b => (setP st 0 (str (buName (b + 1))) ⟨6, b + 1, []⟩).1) (makeP []).2.2
/-- Load. -/
def loadP (bs : List UInt8) (fuel : Int) : Mc × Int :=
  if 32768 < bs.length then (mt, 1)
  else if (decodeP mt bs).2 = false then (mt, 11)
  else ({ (decodeP mt bs).1 with tb := globT, cs := [⟨0, 0, 0⟩], th := [⟨1, 0, [], [], []⟩], fuel := fuel.toNat, en := 0 }, 0)
theorem decode_wipe (bs : List UInt8) : wipeP (decodeP mt bs).1 21 = mt ∧ (decodeP mt bs).1.cs = [] ∧ (decodeP mt bs).1.ux = [] ∧ (decodeP mt bs).1.ce = [] ∧ (decodeP mt bs).1.th = [] ∧ (decodeP mt bs).1.tb = [] ∧ (decodeP mt bs).1.out = [] ∧ (decodeP mt bs).1.fuel = 0 ∧ (decodeP mt bs).1.en = 21 := by
  have key : (decodeP mt bs).1 = mt ∨ (decodeP mt bs).1 = (protosF (u8P (rd0 bs)).2 (u8P (rd0 bs)).1 mt).2 := by
    unfold decodeP
    split
    · exact .inl rfl
    · split <;> exact .inr rfl
  rcases key with e | e
  · rw [e]; exact ⟨rfl, rfl, rfl, rfl, rfl, rfl, rfl, rfl, rfl⟩
  · rw [e]
    obtain ⟨s, _⟩ := protos_S (u8P (rd0 bs)).2 (r := (u8P (rd0 bs)).1) mt (u8_S (Nat.zero_le _)).next
    refine ⟨?_, s.cs, s.ux, s.ce, s.th, s.tb, s.out, s.fuel, s.en⟩
    unfold wipeP
    rw [s.fuel, s.out, s.tb]
    rfl
theorem mt_ended : Ended mt := ⟨by decide, by decide, by decide, ⟨rfl, rfl, rfl, rfl, rfl, rfl, rfl, rfl⟩, ⟨by decide, by decide, .inl rfl⟩⟩
theorem globT_eq : globT = [(List.range 11).map fun b => (str (buName (b + 1)), ⟨6, b + 1, []⟩)] := by kernel_rfl
theorem globT_ok (M : Mc) : ∀ t ∈ globT, ∀ e ∈ t, okV M e.1 ∧ okV M e.2 := by
  rw [globT_eq]
  intro t ht e he
  rw [List.mem_singleton] at ht
  rw [ht, List.mem_map] at he
  obtain ⟨b, hb, rfl⟩ := he
  have hb := List.mem_range.1 hb
  refine ⟨str_okV M ?_, ?_, ?_⟩
  · rcases (by omega : b = 0 ∨ b = 1 ∨ b = 2 ∨ b = 3 ∨ b = 4 ∨ b = 5 ∨ b = 6 ∨ b = 7 ∨ b = 8 ∨ b = 9 ∨ b = 10) with rfl | rfl | rfl | rfl | rfl | rfl | rfl | rfl | rfl | rfl | rfl <;> decide
  · have h2 : b + 1 ≤ 11 := by omega
    simp [validP, wfB, h2]
  · show b + 1 < _
    omega
theorem load_keeps (bs : List UInt8) (fuel : Int) (hf : fuel ≤ 9223372036854775807) : Rest (loadP bs fuel).1 := by
  unfold loadP
  split
  · exact .inr mt_ended
  split
  · exact .inr mt_ended
  rename_i h1 h2
  obtain ⟨w0, w1, w2, w3, w4, w5, w6, w7, w8⟩ := decode_wipe bs
  have h2 : (decodeP mt bs).2 = true := by simpa using h2
  left
  -- what decode found
  have key : (decodeP mt bs).1.pr.length = (u8P (rd0 bs)).2 ∧ 1 ≤ (u8P (rd0 bs)).2 ∧ (u8P (rd0 bs)).2 ≤ 13 ∧ PreOk (decodeP mt bs).1 ∧ (decodeP mt bs).1.ds.length ≤ 32768 ∧ (decodeP mt bs).1.ks.length ≤ 32768 ∧ (decodeP mt bs).1.co.length ≤ 32768 ∧ ((decodeP mt bs).1.pr[0]?.getD dP).nup = 0 := by
    have s0 := u8_S (r := rd0 bs) (Nat.zero_le _)
    obtain ⟨s, _, g⟩ := protos_S (u8P (rd0 bs)).2 (r := (u8P (rd0 bs)).1) mt s0.next
    unfold decodeP at h2 ⊢
    split at h2
    · cases h2
    rename_i c1
    rw [if_neg c1]
    split at h2
    · cases h2
    rename_i c2
    rw [if_neg c2]
    have hb : (protosF (u8P (rd0 bs)).2 (u8P (rd0 bs)).1 mt).1.bad = false := by
      cases hb : (protosF (u8P (rd0 bs)).2 (u8P (rd0 bs)).1 mt).1.bad
      · rfl
      · exact absurd (.inl hb) c2
    obtain ⟨p1, p2⟩ := g ⟨⟨rfl, rfl, rfl⟩, by simp [mt], by simp [mt], by simp [mt], by simp [mt], by simp [mt]⟩ hb
    have hi := (s0.trans s.rd).hi
    have hi : _ ≤ bs.length := hi
    have l1 := s.lds
    have l2 := s.lks
    have l3 := s.lco
    have z1 : mt.ds.length = 0 := rfl
    have z2 : mt.ks.length = 0 := rfl
    have z3 : mt.co.length = 0 := rfl
    have z4 : mt.pr.length = 0 := rfl
    have h2 := (Bool.and_eq_true_iff.1 h2).2
    exact ⟨by dsimp only; omega, by omega, by omega, p1, by dsimp only; omega, by dsimp only; omega, by dsimp only; omega, of_decide_eq_true h2⟩
  obtain ⟨k1, k2, k3, k4, k5, k6, k7, k8⟩ := key
  generalize (decodeP mt bs).1 = D at *
  have hV : ∀ v ∈ D.ks, okV { D with tb := globT, cs := [⟨0, 0, 0⟩], th := [⟨1, 0, [], [], []⟩], fuel := fuel.toNat, en := 0 } v := fun v hv => (k4.ks v hv).2 _
  refine ⟨rfl, ⟨by show 1 ≤ D.pr.length; omega, by show D.pr.length ≤ 13; omega, k4.tile, k4.each, k4.win, by show D.ds.length ≤ _; omega, by show D.ks.length ≤ _; omega, by show D.co.length ≤ _; omega, k4.ds, k4.co, fun v hv => (k4.ks v hv).1⟩, ?_, by show 1 ≤ 1; decide, by show 1 ≤ 5; decide, ?_, ⟨hV, ?_, ?_, globT_ok _⟩, ⟨?_, ?_, ?_⟩, ?_, ?_⟩
  · refine ⟨by show 1 ≤ 1; decide, by show 1 ≤ 24; decide, ?_, ?_, ?_, ?_, ?_, ?_, ?_, ?_⟩
    · show tileC D.ux.length [⟨0, 0, 0⟩] 0
      rw [w2]
      exact ⟨rfl, rfl⟩
    · intro c hc
      have hc : c ∈ [(⟨0, 0, 0⟩ : Cs)] := hc
      rw [List.mem_singleton] at hc
      rw [hc]
      refine ⟨by show 0 < D.pr.length; omega, ?_, Nat.zero_le _⟩
      show 0 = (D.pr[0]?.getD dP).nup
      rw [k8]
    · intro u hu
      have hu : u ∈ D.ux := hu
      rw [w2] at hu; cases hu
    · show D.ux.length ≤ _
      rw [w2]; exact Nat.zero_le _
    · show D.ce.length ≤ _
      rw [w3]; exact Nat.zero_le _
    · intro x hx
      have hx : x < D.ce.length := hx
      rw [w3] at hx; exact absurd hx (Nat.not_lt_zero _)
    · intro x hx
      have hx : x < D.ce.length := hx
      rw [w3] at hx; exact absurd hx (Nat.not_lt_zero _)
    · show _ = D.ce.countP _
      rw [w3]; rfl
  · intro i hi
    have hi : i < 1 := hi
    obtain rfl : i = 0 := by omega
    refine ⟨by show 0 < 1; decide, ?_, ⟨by show 1 ≤ 1; decide, by show 1 ≤ 5; decide⟩, fun _ _ => rfl, fun _ h => ?_, fun _ => ⟨rfl, rfl, rfl⟩, fun h => absurd rfl h, Nat.zero_le _, ?_, ?_, ?_⟩
    · constructor
      · intro h; exact absurd (show (1 : Nat) = 4 from h) (by decide)
      · intro h; cases h
    · exact absurd (show (1 : Nat) = 2 from h) (by decide)
    · intro j f hj
      have hj : ([] : List Fr)[j]? = some f := hj
      simp at hj
    · intro c hc
      have hc : c ∈ ([] : List Nat) := hc
      cases hc
    · exact List.Pairwise.nil
  · intro c hc
    have hc : c ∈ D.ce := hc
    rw [w3] at hc; cases hc
  · intro t ht v hv
    have ht : t ∈ [(⟨1, 0, [], [], []⟩ : Th)] := ht
    rw [List.mem_singleton] at ht
    rw [ht] at hv
    cases hv
  · show fuel.toNat ≤ 9223372036854775807
    omega
  · show D.out.length ≤ 200
    rw [w6]; exact Nat.zero_le _
  · left; exact w6
  · show 1 ≤ globT.length
    decide
  · show globT.length ≤ 12
    decide
end Go.Proofs.Qxb6500293aGreatRR
