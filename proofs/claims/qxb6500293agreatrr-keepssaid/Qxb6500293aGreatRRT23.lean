import Derived.Test.Qxb6500293aGreatRRT22
namespace Go.Proofs.Qxb6500293aGreatRR
open Go.RowKit Go.Shelf
set_option linter.unusedVariables false
set_option linter.unusedSimpArgs false
attribute [local go_sem] Oper.semAt_some

/-- An entry as Show shows it; a table; all tables. -/
def entL (e : V × V) : List UInt8 := showV e.1 ++ [61] ++ showV e.2 ++ [59]
def tabL (t : Tbl) : List UInt8 := [91] ++ t.flatMap entL ++ [93]
def showT (st : List Tbl) : List UInt8 := st.flatMap tabL
def preL (t : Tbl) (pre : List Nat) : List UInt8 := pre.flatMap fun p => entL (t[p]?.getD dE)
theorem good_getD {t : Tbl} {a : List Nat} (h : Inv t a) (p : Nat) : ValOk (t[p]?.getD dE).1 ∧ ValOk (t[p]?.getD dE).2 := by
  by_cases c : p < t.length
  · rw [List.getElem?_eq_getElem c]
    have hm : t[p] ∈ t := List.getElem_mem c
    exact ⟨⟨(h.keys _ hm).wf, (h.keys _ hm).N⟩, h.vals _ hm⟩
  · rw [List.getElem?_eq_none (by omega)]
    exact ⟨⟨by decide, by decide⟩, ⟨by decide, by decide⟩⟩
theorem entL_len {e : V × V} (h1 : ValOk e.1) (h2 : ValOk e.2) : (entL e).length ≤ 128 := by
  have a := showV_len h1.wf h1.N
  have b := showV_len h2.wf h2.N
  unfold entL
  simp only [List.length_append, List.length_cons, List.length_nil]
  omega
theorem preL_len {t : Tbl} {a : List Nat} (h : Inv t a) (pre : List Nat) : (preL t pre).length ≤ 128 * pre.length := by
  unfold preL
  induction pre with
  | nil => simp
  | cons p ps ih =>
    rw [List.flatMap_cons, List.length_append, List.length_cons]
    have := entL_len (good_getD h p).1 (good_getD h p).2
    omega
theorem preL_all (t : Tbl) : preL t (items t 0 true t.length) = t.flatMap entL := by
  have e : items t 0 true t.length = List.range t.length := by
    unfold items
    rw [List.filter_eq_self]
    intro p _
    unfold metB
    simp
  rw [e]
  unfold preL
  have key : ∀ (k : Nat), k ≤ t.length → (List.range k).flatMap (fun p => entL (t[p]?.getD dE)) = (t.take k).flatMap entL := by
    intro k hk
    induction k with
    | zero => simp
    | succ k ih =>
      rw [List.range_succ, List.flatMap_append, ih (by omega), List.take_add_one, List.flatMap_append, List.getElem?_eq_getElem (by omega : k < t.length)]
      simp [List.getElem?_eq_getElem (show k < t.length by omega)]
  rw [key _ (Nat.le_refl _), List.take_length]
theorem tabL_len {t : Tbl} {a : List Nat} (h : Inv t a) : (tabL t).length ≤ 4098 := by
  unfold tabL
  rw [← preL_all]
  have := preL_len h (items t 0 true t.length)
  have h2 := items_len t 0 true t.length
  have := h.len
  simp only [List.length_append, List.length_cons, List.length_nil]
  omega

theorem showT_len {own : Nat → Nat} {w : World} {x : Nat} {reps : List TabR} {count : Nat} (H : RealAt own w x reps count) (k : Nat) (hk : k ≤ count) : (showT ((stOf reps count).take k)).length ≤ 4098 * k := by
  induction k with
  | zero => simp [showT]
  | succ k ih =>
    have h1 := ih (by omega)
    obtain ⟨r, hr2, hst⟩ := stOf_at H.cnt (show k < count by omega)
    obtain ⟨hrep, _⟩ := H.rep k r hr2
    have h2 := tabL_len hrep.inv
    unfold showT at h1 ⊢
    rw [List.take_add_one, hst, List.flatMap_append, List.length_append]
    simp only [Option.toList_some, List.flatMap_cons, List.flatMap_nil, List.append_nil]
    omega

/-- The three boxes of the iterator. -/
structure Bxs (W : World) (B A i fr : Nat) (all : Bool) : Prop where
  e0 : W.heap[B]? = some (.cells #[.pointer (some ⟨A, i * 6, none⟩)] 119)
  e1 : W.heap[B + 1]? = some (.cells #[.int .i64 (fr : Int)] 3)
  e2 : W.heap[B + 1 + 1]? = some (.cells #[.bool all] 4)
theorem Bxs.bts {W W' : World} {B A i fr n : Nat} {all : Bool} (h : Bxs W B A i fr all) (k : Bts n W W') (hn : n < B) : Bxs W' B A i fr all :=
  ⟨k.same _ _ h.e0 (by intro cs f e; cases e) (by omega), k.same _ _ h.e1 (by intro cs f e; cases e) (by omega), k.same _ _ h.e2 (by intro cs f e; cases e) (by omega)⟩
theorem Bxs.kp {W W' : World} {B A i fr n : Nat} {all : Bool} (h : Bxs W B A i fr all) (k : Bts n W W') (hn : n < B) : KpI n B W W' := by
  refine ⟨k.below, fun j h1 h2 => ?_⟩
  have h' := h.bts k hn
  rcases (show j = B ∨ j = B + 1 ∨ j = B + 1 + 1 by omega) with rfl | rfl | rfl
  · rw [h'.e0, h.e0]
  · rw [h'.e1, h.e1]
  · rw [h'.e2, h.e2]
theorem Bxs.own {B A i fr m : Nat} {all : Bool} : OwnFrom m (fun (_ : List Nat) W => Bxs W B A i fr all) := fun s X Y row hs hg hr =>
  ⟨cells_kept hs.e0 hg (fun r e => (hr r e).2), cells_kept hs.e1 hg (fun r e => (hr r e).2), cells_kept hs.e2 hg (fun r e => (hr r e).2)⟩
/-- The world at the loop's start. -/
theorem loopAt2 {own : Nat → Nat} {w w1 W0 : World} {A i : Nat} {r : TabR} (hA : TabAt own w A i r) (hB : Below w.heap.size w w1) (lA : A < w.heap.size) (fr : Nat) (all : Bool)
    (hW : ((w1.alloc (.cells #[.pointer (some ⟨A, i * 6, none⟩)] 119)).alloc (.cells #[.int .i64 (fr : Int)] 3)).alloc (.cells #[.bool all] 4) = W0) :
    W0.heap.size = w1.heap.size + 3 ∧ Below w1.heap.size w1 W0 ∧ Bxs W0 w1.heap.size A i fr all ∧ ItAt own W0 w.heap.size w1.heap.size A i r all ∧ W0.cell? ⟨w1.heap.size + 1, 0, none⟩ = some (.int .i64 (fr : Int)) := by
  have hb3 : Below w1.heap.size w1 W0 := by
    rw [← hW]; exact below_two (below_two (below_one _ _) (below_one _ _)) (below_one _ _)
  obtain ⟨h1, h2, h3, h4, h5⟩ := loopAt (P := fun W => True) hA hB lA (fun _ => trivial) fr all hW
  refine ⟨h1, hb3, ⟨?_, ?_, ?_⟩, h4, h5⟩
  · have c0 := World.alloc_heap_new w1 (.cells #[.pointer (some ⟨A, i * 6, none⟩)] 119)
    rw [← hW]; exact ((Below.heap_alloc _ _ _ (by simp; omega)).trans (Below.heap_alloc _ _ _ (by simp))).trans c0
  · have c0 := World.alloc_heap_new (w1.alloc (.cells #[.pointer (some ⟨A, i * 6, none⟩)] 119)) (.cells #[.int .i64 (fr : Int)] 3)
    rw [World.size_alloc] at c0
    rw [← hW]; exact (Below.heap_alloc _ _ _ (by simp)).trans c0
  · have c0 := World.alloc_heap_new ((w1.alloc (.cells #[.pointer (some ⟨A, i * 6, none⟩)] 119)).alloc (.cells #[.int .i64 (fr : Int)] 3)) (.cells #[.bool all] 4)
    rw [World.size_alloc, World.size_alloc] at c0
    rw [← hW]; exact c0
theorem KeepsOthers.of_below {W W' : World} (h : Below W.heap.size W W') : KeepsOthers W W' := ⟨h.size, fun k o hk _ => (h.block k (Array.getElem?_eq_some_iff.1 hk).1).trans hk⟩
/-- What holds between two rounds of Show's inner loop. -/
def sI (w W0 : World) (B A i : Nat) (bs : List UInt8) (t : Tbl) (pre : List Nat) (W : World) : Prop := (Buf w.heap.size W (bs ++ preL t pre) ∧ Bxs W B A i 0 true) ∧ (KeepsFrom 0 W0 W ∧ Below w.heap.size w W)
theorem sI_own {w W0 : World} {B A i : Nat} {bs : List UInt8} {t : Tbl} (hB : w.heap.size ≤ W0.heap.size) : OwnFrom W0.heap.size (sI w W0 B A i bs t) :=
  OwnFrom.and (OwnFrom.and (fun s X Y row hs hg hr => Buf.own w.heap.size (bs ++ preL t s) X Y row hs hg (fun r e => (hr r e).2)) Bxs.own) (OwnFrom.and (ownFrom_keepsFrom (Nat.le_refl _)) (ownFrom_below (Nat.le_refl _) hB))
theorem sI_round {w W0 W W' : World} {B A i : Nat} {bs : List UInt8} {t : Tbl} {pre : List Nat} {p : Nat} {v : Value} (hb : Boxed W w.heap.size 59 v) (hx : Bxs W B A i 0 true) (hn : w.heap.size < B) (hkf : KeepsFrom 0 W0 W) (hbw : Below w.heap.size w W) (hbt : Bts w.heap.size W W') (hbuf : Buf w.heap.size W' (bs ++ preL t pre ++ entL (t[p]?.getD dE))) :
    KeepsFrom W0.heap.size W W' ∧ KpI w.heap.size B W W' ∧ sI w W0 B A i bs t (pre ++ [p]) W' := by
  refine ⟨(hbt.keeps hb).from _, hx.kp hbt hn, ⟨?_, hx.bts hbt hn⟩, hkf.trans ((hbt.keeps hb).from _), hbw.trans hbt.below⟩
  have e : bs ++ preL t (pre ++ [p]) = bs ++ preL t pre ++ entL (t[p]?.getD dE) := by
    unfold preL
    rw [List.flatMap_append, List.append_assoc]
    simp
  rw [e]; exact hbuf

set_option maxRecDepth 100000 in
set_option maxHeartbeats 4000000 in
theorem show_in (own : Nat → Nat) (x : Nat) (reps : List TabR) (count : Nat) (w : World) (H : RealAt own w x reps count) :
    CallsIn Fence.wide 4 Tryz.prog 18 #[.pointer (some ⟨x, 0, none⟩)] w fun e w' => e = .returned (.string ⟨(showT (stOf reps count)).toArray⟩) ∧ Below w.heap.size w w' := by
  obtain ⟨nb, vt, ht, hrow, hvc⟩ := H.tabs
  obtain ⟨c0, c1, c2, fz, lt⟩ := id ht
  have hcl : count ≤ 12 := by have := H.cnt; have := H.max; omega
  refine callsIn_of_wp_marks Tryz.func18 rfl trivial ?_ rfl
  simp only [Tryz.ntmps18, List.size_toArray, List.length_cons, List.length_nil, Nat.reduceAdd, Nat.reduceSub, Array.replicate_succ, Array.replicate_zero, List.push_toArray, List.append_toArray, List.nil_append, List.cons_append]
  gi_wp2
  have HX : Hid (TabsAt w x (.pointer (some ⟨nb, 0, none⟩)) vt count) := ht
  have hB0 : Buf w.heap.size (w.alloc (.cells #[.slice none 0 0] 59)) [] := ⟨0, none, 0, Boxed.new w 59 _, World.ownsRow_nil _ _ _ _⟩
  refine wpIn_loop (fun a' W' => ∃ (k : Nat) (ds : List Deferred) (u4 u5 u6 u7 u8 u14 u15 u16 u17 u18 u19 u20 u21 u22 u23 u24 u25 u26 u27 u28 u29 u30 u31 u32 u33 u34 u35 u36 u37 u38 u39 u40 u41 u42 u43 u44 u45 u46 u47 u48 u49 : Value), (k ≤ count ∧ Buf w.heap.size W' (showT ((stOf reps count).take k)) ∧ Below w.heap.size w W' ∧ Marks w.heap.size W' ds) ∧ a' = { tmps := #[.pointer (some ⟨x, 0, none⟩), undef, .string ⟨#[]⟩, .pointer (some ⟨w.heap.size, 0, none⟩), u4, u5, u6, u7, u8, .pointer (some ⟨x, 0, none⟩), .pointer (some ⟨x, 0, none⟩), .pointer (some ⟨x, 2, none⟩), .int .i64 (count : Int), .int .i64 (k : Int), u14, u15, u16, u17, u18, u19, u20, u21, u22, u23, u24, u25, u26, u27, u28, u29, u30, u31, u32, u33, u34, u35, u36, u37, u38, u39, u40, u41, u42, u43, u44, u45, u46, u47, u48, u49, undef, undef], defers := ds })
    (fun a' _ => count - (intOf (a'.tmps.getD 13 undef)).toNat) ?atStart ?round
  case atStart => exact ⟨0, [], undef, undef, undef, undef, undef, undef, undef, undef, undef, undef, undef, undef, undef, undef, undef, undef, undef, undef, undef, undef, undef, undef, undef, undef, undef, undef, undef, undef, undef, undef, undef, undef, undef, undef, undef, undef, undef, undef, undef, undef, undef, ⟨Nat.zero_le _, hB0, below_one _ _, Marks.nil _ _⟩, rfl⟩
  case round =>
    rintro a' wr ⟨k, ds, u4, u5, u6, u7, u8, u14, u15, u16, u17, u18, u19, u20, u21, u22, u23, u24, u25, u26, u27, u28, u29, u30, u31, u32, u33, u34, u35, u36, u37, u38, u39, u40, u41, u42, u43, u44, u45, u46, u47, u48, u49, ⟨hk, hbuf, hbw, hmk⟩, rfl⟩
    clear hB0
    by_cases hlt : k < count
    · obtain ⟨r, hr2, hst⟩ := stOf_at H.cnt hlt
      obtain ⟨hrep, hcls⟩ := H.rep k r hr2
      obtain ⟨A, cap, rfl, hta⟩ := tabAt_of hrow hr2 hrep
      have hrl : count ≤ reps.length := H.cnt
      have lA := hta.lt
      have hinv := hrep.inv
      have HS : Hid (showT ((stOf reps count).take (k + 1)) = showT ((stOf reps count).take k) ++ tabL r.t) := by
        show _ = _
        unfold showT
        rw [List.take_add_one, hst, List.flatMap_append]
        simp
      have hlen : (showT ((stOf reps count).take k)).length ≤ 4098 * k := showT_len H k (by omega)
      obtain ⟨bs, hbs⟩ : ∃ bs, bs = showT ((stOf reps count).take k) := ⟨_, rfl⟩
      rw [← hbs] at hbuf HS hlen
      clear hbs
      obtain ⟨m, ao, cp, hbv⟩ := hbuf
      obtain rfl := hbv.len
      obtain ⟨ao', cp', w1, happ, e1, e2, e3, hbv2, hbt⟩ := hbv.byte (by omega) 91 91 rfl 59
      obtain ⟨y0, y1, y2, _, _⟩ := HX.out.below hbw
      obtain ⟨x0, x1, x2, _, _⟩ := HX.out.below (hbw.trans e3)
      have cb := hbv.box.cell
      have nx : ¬ x = w.heap.size := by omega
      have nx2 : ¬ w.heap.size = x := by omega
      have dk : decide ((k : Int) < (count : Int)) = true := decide_eq_true (by omega)
      have HM : Hid (Marks w.heap.size wr ds ∧ Below w.heap.size w wr) := ⟨hmk, hbw⟩
      have HB2 : Hid (BufV w.heap.size _ _ _ _ _ ∧ Bts w.heap.size _ _) := ⟨hbv2, hbt⟩
      have HA : Hid (TabAt own w A k r) := hta
      have HBX : Hid (Boxed wr w.heap.size 59 _) := hbv.box
      clear hmk hbw hbv2 hbt hta hrep hbv c0 c1 c2 fz lt ht
      generalize reps.length = rl at *
      gi_wp2_with (gi_at_builtin; refine wpListIn_append_eq rfl _ _ 59 59 rfl _ _ _ _ rfl rfl happ ?_)
      refine ⟨trivial, ?_⟩
      obtain ⟨W1, hW1⟩ : ∃ W1, w1.setCell ⟨w.heap.size, 0, none⟩ (.slice ao' (bs.length + 1) cp') = W1 := ⟨_, rfl⟩
      rw [hW1] at HB2 ⊢
      have hbw1 : Below w.heap.size w W1 := HM.out.2.trans HB2.out.2.below
      have hmk1 : Marks w.heap.size W1 ds := HM.out.1.keeps (HB2.out.2.keeps HBX.out)
      refine (callsIn_wide.2 (places_any A k 0 true _)).mono ?_
      rintro e w2 ⟨rfl, rfl⟩
      gi_wp2
      obtain ⟨W0, hW0⟩ : ∃ W0, ((W1.alloc (.cells #[.pointer (some ⟨A, k * 6, none⟩)] 119)).alloc (.cells #[.int .i64 0] 3)).alloc (.cells #[.bool true] 4) = W0 := ⟨_, rfl⟩
      obtain ⟨hsz, hb0, hbx0, hit, hbf⟩ := loopAt2 HA.out hbw1 lA 0 true hW0
      rw [hW0]
      clear hW0
      have hs1 : w.heap.size < W1.heap.size := HB2.out.1.box.lt
      have hs2 : w.heap.size < W0.heap.size := by omega
      have hbuf0 : Buf w.heap.size W0 (bs ++ [91]) := ⟨_, _, _, HB2.out.1.below hb0⟩
      have hmk0 : Marks w.heap.size W0 ds := hmk1.keeps (KeepsOthers.of_below hb0)
      have HI0 : Hid (Marks w.heap.size W0 ds) := hmk0
      have hlen1 : (bs ++ [91]).length ≤ 50000 := by rw [List.length_append]; simp only [List.length_cons, List.length_nil]; omega
      have HSN : Hid (showT (List.take (k + 1) (stOf reps count)) = (bs ++ [91]) ++ preL r.t (items r.t 0 true r.t.length) ++ [93]) := by
        show _ = _
        rw [HS.out, preL_all]; unfold tabL; simp
      generalize hbs1 : bs ++ [91] = bs1 at *
      refine wpIn_places 4 (by omega) own w.heap.size W1.heap.size A k r 0 true 6 rfl hit hbf (by omega) (by omega) rfl (sI w W0 W1.heap.size A k bs1 r.t) (fun _ _ _ => False) (sI_own (by omega)) (fun _ _ _ _ _ h _ _ => h)
        ⟨⟨by simpa [preL] using hbuf0, hbx0⟩, KeepsFrom.refl _ _, hbw1.trans (hb0.mono (by omega))⟩ ?assign ?body ?done ?stop
      case assign =>
        intro l p W K hK
        obtain ⟨ev, hev⟩ : ∃ ev, ev = r.t[p]?.getD dE := ⟨_, rfl⟩
        rw [← hev] at hK ⊢
        obtain ⟨⟨kT, kN, kS⟩, ⟨vT, vN, vS⟩⟩ := ev
        simp only [entV] at hK ⊢
        have HK : Hid (∀ a', _ → K a' _) := hK
        clear hK
        gi_wp2
        exact HK.out _ (by simp [boxedA])
      case body =>
        rintro l pre p Bx W a' ha hBx hbx hW ⟨⟨⟨m, ao, cp, hbv⟩, hbxs⟩, hkf, hbw⟩ hpl
        have hgood := good_getD hinv p
        have hpre := preL_len hinv pre
        have HR := fun W' => @sI_round w W0 W W' W1.heap.size A k bs1 r.t pre p _ hbv.box hbxs hs1 hkf hbw
        obtain ⟨ev, hev⟩ : ∃ ev, ev = r.t[p]?.getD dE := ⟨_, rfl⟩
        rw [← hev] at ha hbx hgood HR
        clear hev
        obtain ⟨ek, ev⟩ := ev
        have HSk := fun w => showVal_any ek w hgood.1.wf hgood.1.N
        have HSv := fun w => showVal_any ev w hgood.2.wf hgood.2.N
        have lk := showV_len hgood.1.wf hgood.1.N
        have lv := showV_len hgood.2.wf hgood.2.N
        have hm := hbv.len
        rw [List.length_append] at hm
        simp only [entL] at HR
        obtain ⟨kT, kN, kS⟩ := ek
        obtain ⟨vT, vN, vS⟩ := ev
        simp only [valV_mk] at HSk HSv
        generalize showV ⟨kT, kN, kS⟩ = sk at *
        generalize showV ⟨vT, vN, vS⟩ = sv at *
        generalize hbs2 : bs1 ++ preL r.t pre = bs2 at *
        simp [boxedA, entV] at ha
        subst ha
        obtain ⟨b0, b1, b2⟩ : W.cell? ⟨Bx, 0, none⟩ = some (.int .i64 kT) ∧ W.cell? ⟨Bx, 1, none⟩ = some (.int .u64 kN) ∧ W.cell? ⟨Bx, 2, none⟩ = some (.string ⟨kS.toArray⟩) := by
          simp [World.cell?, hbx]
        have HBV : Hid (BufV w.heap.size W m bs2 ao cp) := hbv
        have HBXo : Hid (W.heap[Bx]? = some (entO (⟨kT, kN, kS⟩, ⟨vT, vN, vS⟩))) := hbx
        have hwW : w.heap.size ≤ W.heap.size := by omega
        clear hbv hbx hbxs hkf hbw hbuf0 hmk0 hbx0 hit hbf
        gi_wp2
        refine ⟨trivial, ?_⟩
        refine (CallsIn.inRound l (callsIn_wide.2 (HSk _))).mono ?_
        rintro e W2 ⟨rfl, hb2⟩
        have HBV2 : Hid (BufV w.heap.size W2 m bs2 ao cp) := HBV.out.below hb2
        have hbx2 := (hb2.block Bx (Array.getElem?_eq_some_iff.1 HBXo.out).1).trans HBXo.out
        obtain ⟨b3, b4, b5⟩ : W2.cell? ⟨Bx, 3, none⟩ = some (.int .i64 vT) ∧ W2.cell? ⟨Bx, 4, none⟩ = some (.int .u64 vN) ∧ W2.cell? ⟨Bx, 5, none⟩ = some (.string ⟨vS.toArray⟩) := by
          simp [World.cell?, hbx2]
        have HB2' : Hid (Below W.heap.size W W2) := hb2
        clear hb2 hbx2
        gi_wp2
        refine ⟨trivial, ?_⟩
        refine (CallsIn.inRound l (callsIn_wide.2 (HSv _))).mono ?_
        rintro e W3 ⟨rfl, hb3⟩
        have hBT3 : Bts w.heap.size W W3 := Bts.of_below (HB2'.out.trans (hb3.mono HB2'.out.size)) hwW
        have hv3 := HBV2.out.below hb3
        clear hb3
        obtain ⟨ao4, cp4, w4, happ4, p4, q4, _, hv4, hbt4⟩ := hv3.str (by omega) sk (by omega) 59
        obtain ⟨ao5, cp5, w5, happ5, p5, q5, _, hv5, hbt5⟩ := hv4.byte (by omega) 61 61 rfl 59
        obtain ⟨ao6, cp6, w6, happ6, p6, q6, _, hv6, hbt6⟩ := hv5.str (by omega) sv (by omega) 85
        obtain ⟨ao7, cp7, w7, happ7, p7, q7, _, hv7, hbt7⟩ := hv6.byte (by omega) 59 59 rfl 59
        have cb3 := hv3.box.cell
        simp at happ5 happ7
        have HEND : Hid (BufV w.heap.size _ _ _ _ _ ∧ Bts w.heap.size W _) := ⟨hv7, (((hBT3.trans hbt4).trans hbt5).trans hbt6).trans hbt7⟩
        clear hv3 hv4 hv5 hv6 hv7 hbt4 hbt5 hbt6 hbt7 hBT3 HSk HSv
        clear hm hpre lk lv hgood hlen hlen1 hbs2
        have HR' : Hid (∀ W', Bts w.heap.size W W' → Buf w.heap.size W' _ → _) := HR
        clear HR
        gi_wp2_with (gi_at_builtin; first | refine wpListIn_append_eq rfl (.tmp 34) (.tmp 35) 59 9 rfl _ _ _ _ rfl rfl happ4 ?_ | refine wpListIn_append_eq rfl (.tmp 37) (.tmp 38) 59 59 rfl _ _ _ _ rfl rfl happ5 ?_ | refine wpListIn_append_eq rfl (.tmp 40) (.tmp 41) 59 9 rfl _ _ _ _ rfl rfl happ6 ?_ | refine wpListIn_append_eq rfl (.tmp 43) (.tmp 44) 59 59 rfl _ _ _ _ rfl rfl happ7 ?_)
        refine HR'.out _ HEND.out.2 ?_
        rw [show bs2 ++ (sk ++ [61] ++ sv ++ [59]) = bs2 ++ sk ++ [61] ++ sv ++ [59] by simp]
        exact ⟨_, _, _, HEND.out.1⟩
      case done =>
        rintro D W hD ⟨⟨⟨m, ao, cp, hbv⟩, hbxs⟩, hkf, hbw⟩ hK
        have hm := hbv.len
        rw [List.length_append] at hm
        have hpre := preL_len hinv (items r.t 0 true r.t.length)
        have hil := items_len r.t 0 true r.t.length
        have hl32 := hinv.len
        obtain ⟨ao', cp', w1, happ, e1, e2, e3, hbv2, hbt⟩ := hbv.byte (by omega) 93 93 rfl 59
        have cb := hbv.box.cell
        have HM2 : Hid (Marks w.heap.size _ _ ∧ Below w.heap.size w _ ∧ Buf w.heap.size _ _) := ⟨(HI0.out.cons hkf (by omega) hK hD).keeps (hbt.keeps hbv.box), hbw.trans hbt.below, ⟨_, _, _, hbv2⟩⟩
        clear hbt hbv2 hbv hkf hbw hbxs hK HI0 hbuf0 hbx0 hit hbf hmk0
        gi_wp2_with (gi_at_builtin; refine wpListIn_append_eq rfl _ _ 59 59 rfl _ _ _ _ rfl rfl happ ?_)
        refine ⟨⟨k + 1, _, _, _, _, _, _, _, _, _, _, _, _, _, _, _, _, _, _, _, _, _, _, _, _, _, _, _, _, _, _, _, _, _, _, _, _, _, _, _, _, _, _, ⟨by omega, ?_, HM2.out.2.1, HM2.out.1⟩, rfl⟩, ?_⟩
        · rw [HSN.out]; exact HM2.out.2.2
        · simp [intOf]; omega
      case stop =>
        rintro D c pre W _ _ h _
        exact h.elim
    · obtain rfl : k = count := by omega
      obtain ⟨ao, cp, cc, hcv⟩ := hbuf.conv
      have hsl := stOf_len H.cnt
      rw [List.take_of_length_le (by omega)] at cc hcv
      have HM : Hid (Marks w.heap.size wr ds ∧ Below w.heap.size w wr) := ⟨hmk, hbw⟩
      clear hmk hbw hbuf
      gi_wp2
      obtain ⟨⟨Ds, rfl, hnd, hD⟩, hbw⟩ := HM.out
      refine leaves_marks Ds _ hnd hD hbw.size ?_
      intro W' hb'
      exact ⟨_, results_tmp rfl _ _ _, rfl, hbw.trans hb'⟩
/-- **Show.** -/
theorem show_any (own : Nat → Nat) (x : Nat) (reps : List TabR) (count : Nat) (w : World) (H : RealAt own w x reps count) :
    Calls Tryz.prog 18 #[.pointer (some ⟨x, 0, none⟩)] w fun e w' => e = .returned (.string ⟨(showT (stOf reps count)).toArray⟩) ∧ Below w.heap.size w w' := callsIn_wide.1 (show_in own x reps count w H)
end Go.Proofs.Qxb6500293aGreatRR
