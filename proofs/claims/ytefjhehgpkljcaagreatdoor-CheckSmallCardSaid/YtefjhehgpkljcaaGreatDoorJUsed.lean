/- The program's package query, walked: walker.slots, Vars. The program's package query, walked: Used. -/
import Derived.Test.YtefjhehgpkljcaaGreatDoorJMet
import Derived.Test.YtefjhehgpkljcaaGreatDoorJQRules
import Derived.Test.YtefjhehgpkljcaaGreatDoorJQEvery
import Derived.BigRegion
namespace Go.Proofs.YtefjhehgpkljcaaGreatDoor
open Go Go.RowKit Um Fm Mt

abbrev RdSl (w : World) (A : Option Addr) (l : List Sl) : Prop := RdL 5 (fun cs s => cs = slC s) w A l
theorem RdL.keeps {α : Type} {sz : Nat} {R : List Value → α → Prop} {base b : Nat} {w w' : World} {v v' : Value} (h : MetKeeps base b w v w' v') {A : Option Addr} {l : List α} (hr : RdL sz R w A l) (hA : ∀ a, A = some a → a.block ≠ b ∧ some a.block ≠ v.ownBlock) : RdL sz R w' A l := by
  obtain ⟨xs, h1, h2⟩ := hr
  exact ⟨xs, h.rd h1 hA, h2⟩
theorem occS_snoc {ss : List Sl} {k : Nat} {x : Sl} (h : ss[k]? = some x) : occS (ss.take (k + 1)) = occS (ss.take k) ++ occS [x] := by
  rw [take_snoc_of h]; unfold occS; rw [List.map_append, List.filter_append]
theorem occS_one_no {x : Sl} (h : x.v.toList.isEmpty = true) : occS [x] = [] := occ_empty [] h
theorem occS_one {x : Sl} (h : x.v.toList.isEmpty = false) : occS [x] = [x.v] := occ_named [] h
def SlotsL (base b : Nat) (v : Value) (l : List ByteArray) (ss : List Sl) (w : World) (i : Value) (wr : World) : Prop := ∃ (k : Nat) (v' : Value), k ≤ ss.length ∧ i = .int .i64 k ∧ MetAt base b wr v' (metsN l (occS (ss.take k))) ∧ MetKeeps base b w v wr v'
set_option maxRecDepth 10000 in
set_option maxHeartbeats 1000000 in
theorem qSlots (base b : Nat) (v : Value) (l : List ByteArray) (ss : List Sl) (A : Option Addr) (c : Nat) (w : World) (hm : MetAt base b w v l) (hr : RdSl w A ss) (hA : ∀ a, A = some a → a.block ≠ b ∧ some a.block ≠ v.ownBlock)
    (hbase : base ≤ w.heap.size) (hl : l.length + ss.length ≤ 1000000) :
    Calls Tryz.prog 111 #[.pointer (some ⟨b, 0, none⟩), .slice A ss.length c] w (MeetR base b v (metsN l (occS ss)) w) := by
  have hnl : (ss.length : Int) ≤ 1000000 := by omega
  go_enter Tryz.func111, Tryz.ntmps111
  go_wp2
  go_loopw [8] (SlotsL base b v l ss w) (fun i _ => ss.length - (intOf i).toNat)
  case atStart => exact ⟨0, v, by omega, rfl, hm, MetKeeps.refl _ _ _ _⟩
  case round =>
    obtain ⟨k, v', hk, rfl, hM, hK⟩ := hrel
    by_cases hlt : k < ss.length
    · obtain ⟨x, hs⟩ : ∃ x, ss[k]? = some x := ⟨_, List.getElem?_eq_getElem hlt⟩
      obtain ⟨g, o, cs, rfl, -, rfl, hx⟩ := (RdL.keeps hK hr hA).at_ (by omega) hs
      have c0 : wr.cell? ⟨g, o + k * 5, none⟩ = some (.string x.v) := hx 0 _ rfl
      have c1 : wr.cell? ⟨g, o + k * 5 + 1, none⟩ = some (.int .i64 x.t.k) := hx 1 _ rfl
      have c2 : wr.cell? ⟨g, o + k * 5 + 2, none⟩ = some (.string x.t.x) := hx 2 _ rfl
      have c3 : wr.cell? ⟨g, o + k * 5 + 3, none⟩ = some (.string x.t.l) := hx 3 _ rfl
      have c4 : wr.cell? ⟨g, o + k * 5 + 4, none⟩ = some (.string x.t.y) := hx 4 _ rfl
      have hbs : base ≤ wr.heap.size := Nat.le_trans hbase hK.size
      have hB1 : Below wr.heap.size wr (wr.alloc (.cells #[.string x.v, .int .i64 x.t.k, .string x.t.x, .string x.t.l, .string x.t.y] 55)) := (by repeat (first | exact Below.refl _ _ | assumption | exact (Below.refl _ _).alloc (Nat.le_refl _) _ | refine below_tr ?_ (by assumption) | refine below_alloc ?_ | refine below_tr ?_ (below_regrown _ _ _)))
      have hM1 := hM.later hB1
      have hK1 := hK.trans (MetKeeps.of_below v' hB1 hbs)
      have hsn := occS_snoc hs
      cases he : x.v.toList.isEmpty
      · have hB2 : Below wr.heap.size wr ((wr.alloc (.cells #[.string x.v, .int .i64 x.t.k, .string x.t.x, .string x.t.l, .string x.t.y] 55)).alloc (.cells #[.string x.v] 9)).drew := Below.drew (by repeat (first | exact Below.refl _ _ | assumption | exact (Below.refl _ _).alloc (Nat.le_refl _) _ | refine below_tr ?_ (by assumption) | refine below_alloc ?_ | refine below_tr ?_ (below_regrown _ _ _)))
        have hM2 := hM.later hB2
        have hK2 := hK.trans (MetKeeps.of_below v' hB2 hbs)
        have hml : (metsN l (occS (ss.take k))).length ≤ l.length + ss.length := by
          have h1 := metsN_len (occS (ss.take k)) l
          have h2 := occS_len (ss.take k)
          rw [List.length_take] at h2; omega
        have hq := qMeet base b v' (metsN l (occS (ss.take k))) [x.v] (some ⟨wr.heap.size + 1, 0, none⟩) 1 _ hM2 (Rd.of_block (heap_two_2 wr _ _) rfl) (fun a ha => by
          injection ha with ha; subst ha
          refine ⟨?_, fun e => ?_⟩
          · have := cell_lt hM.cell; simp at this ⊢; omega
          · have := (hM.own.lt _ e.symm).2; simp only at this; omega) (by simp; omega) (by simp; have := metsN_len (occS (ss.take k)) l; have h2 := occS_len (ss.take k); rw [List.length_take] at h2; omega)
        have Hn : Hid (metsN l (occS (ss.take (k + 1))) = metsN (metsN l (occS (ss.take k))) [x.v]) := by
          show _ = _
          rw [hsn, occS_one he, metsN_app]
        have HK := Lib.hid hK2
        clear hs hr hA hM hK hM1 hK1 hM2 hK2 hsn hx hm hml hB1 hB2
        go_wp2_with fail
        go_region_with (go_at_call 157; refine hq.mono ?_; rintro e w2 ⟨⟨u, rfl⟩, v2, hM2, hK2⟩)
        go_wp2
        go_roundw
        case rel => exact ⟨k + 1, v2, by omega, by go_num, by rw [Hn.out]; exact hM2, HK.out.trans hK2⟩
        case measure => simp [intOf]; omega
      · have Hn : Hid (metsN l (occS (ss.take (k + 1))) = metsN l (occS (ss.take k))) := by
          show _ = _
          rw [hsn, occS_one_no he, List.append_nil]
        have HK := Lib.hid hK1
        have HM := Lib.hid hM1
        clear hs hr hA hM hK hM1 hK1 hsn hx hm hB1
        go_wp2
        go_roundw
        case rel => exact ⟨k + 1, v', by omega, by go_num, by rw [Hn.out]; exact HM.out, HK.out⟩
        case measure => simp [intOf]; omega
    · have hk2 : ss.take k = ss := List.take_of_length_le (by omega)
      rw [hk2] at hM
      go_wp2
      go_end0
      exact ⟨⟨_, rfl⟩, v', hM, hK⟩
/-- A row of names of the call's own comes back. -/
def NamesR (names : List ByteArray) (w : World) (e : Ending) (w' : World) : Prop := ∃ v, e = .returned v ∧ w'.ownsRow w.heap.size 9 1 v names.length (names.map Value.string) ∧ Below w.heap.size w w'
def VarsL (l : List Pat) (w : World) (i : Value) (wr : World) : Prop := ∃ (k : Nat) (v' : Value), k ≤ l.length ∧ i = .int .i64 k ∧ MetAt w.heap.size w.heap.size wr v' (metsN [] ((l.take k).flatMap occP)) ∧ Below w.heap.size w wr ∧ w.heap.size < wr.heap.size
set_option maxRecDepth 10000 in
set_option maxHeartbeats 2000000 in
theorem qVars (l : List Pat) (A : Option Addr) (c : Nat) (w : World) (hr : RdPat w A l) (hl : l.length ≤ 300000) :
    Calls Tryz.prog 64 #[.slice A l.length c] w (NamesR (varsN l) w) := by
  have hnl : (l.length : Int) ≤ 300000 := by omega
  have hB0 : Below w.heap.size w (w.alloc (.cells #[.slice none 0 0] 140)) := (by repeat (first | exact Below.refl _ _ | assumption | exact (Below.refl _ _).alloc (Nat.le_refl _) _ | refine below_tr ?_ (by assumption) | refine below_alloc ?_ | refine below_tr ?_ (below_regrown _ _ _)))
  have hM0 : MetAt w.heap.size w.heap.size (w.alloc (.cells #[.slice none 0 0] 140)) (.slice none 0 0) [] :=
    ⟨by rw [World.cell?, heap_alloc_new]; rfl, by unfold World.frozen?; rw [heap_alloc_new]; rfl, World.ownsRow_nil _ _ _ _, Nat.le_refl _, by simp [Value.ownBlock]⟩
  have hz0 : w.heap.size < (w.alloc (.cells #[.slice none 0 0] 140)).heap.size := by simp
  go_enter Tryz.func64, Tryz.ntmps64
  go_wp2
  go_loopw [8] (VarsL l w) (fun i _ => l.length - (intOf i).toNat)
  case atStart => exact ⟨0, _, by omega, rfl, hM0, hB0, hz0⟩
  case round =>
    clear hM0 hB0 hz0
    obtain ⟨k, v', hk, rfl, hM, hB, hz⟩ := hrel
    by_cases hlt : k < l.length
    · obtain ⟨x, hs⟩ : ∃ x, l[k]? = some x := ⟨_, List.getElem?_eq_getElem hlt⟩
      obtain ⟨g, o, cs, rfl, -, rfl, hx⟩ := (RdL.mono hr hB (fun _ _ _ h => h)).at_ (by omega) hs
      have c0 : wr.cell? ⟨g, o + k * 15, none⟩ = some (.string x.s.v) := hx 0 _ rfl
      have c1 : wr.cell? ⟨g, o + k * 15 + 1, none⟩ = some (.int .i64 x.s.t.k) := hx 1 _ rfl
      have c2 : wr.cell? ⟨g, o + k * 15 + 2, none⟩ = some (.string x.s.t.x) := hx 2 _ rfl
      have c3 : wr.cell? ⟨g, o + k * 15 + 3, none⟩ = some (.string x.s.t.l) := hx 3 _ rfl
      have c4 : wr.cell? ⟨g, o + k * 15 + 4, none⟩ = some (.string x.s.t.y) := hx 4 _ rfl
      have c5 : wr.cell? ⟨g, o + k * 15 + 5, none⟩ = some (.string x.p.v) := hx 5 _ rfl
      have c6 : wr.cell? ⟨g, o + k * 15 + 6, none⟩ = some (.int .i64 x.p.t.k) := hx 6 _ rfl
      have c7 : wr.cell? ⟨g, o + k * 15 + 7, none⟩ = some (.string x.p.t.x) := hx 7 _ rfl
      have c8 : wr.cell? ⟨g, o + k * 15 + 8, none⟩ = some (.string x.p.t.l) := hx 8 _ rfl
      have c9 : wr.cell? ⟨g, o + k * 15 + 9, none⟩ = some (.string x.p.t.y) := hx 9 _ rfl
      have c10 : wr.cell? ⟨g, o + k * 15 + 10, none⟩ = some (.string x.o.v) := hx 10 _ rfl
      have c11 : wr.cell? ⟨g, o + k * 15 + 11, none⟩ = some (.int .i64 x.o.t.k) := hx 11 _ rfl
      have c12 : wr.cell? ⟨g, o + k * 15 + 12, none⟩ = some (.string x.o.t.x) := hx 12 _ rfl
      have c13 : wr.cell? ⟨g, o + k * 15 + 13, none⟩ = some (.string x.o.t.l) := hx 13 _ rfl
      have c14 : wr.cell? ⟨g, o + k * 15 + 14, none⟩ = some (.string x.o.t.y) := hx 14 _ rfl
      have hB2 : Below wr.heap.size wr ((wr.alloc (.cells (cPat x).toArray 58)).alloc (.cells (cPat x).toArray 55)) := (by repeat (first | exact Below.refl _ _ | assumption | exact (Below.refl _ _).alloc (Nat.le_refl _) _ | refine below_tr ?_ (by assumption) | refine below_alloc ?_ | refine below_tr ?_ (below_regrown _ _ _)))
      have hM2 := hM.later hB2
      have hml : (metsN [] ((l.take k).flatMap occP)).length ≤ 900000 := by
        have h1 := metsN_len ((l.take k).flatMap occP) []
        have h2 := occ_len (l.take k)
        rw [List.length_take] at h2
        rw [List.length_nil] at h1; omega
      have hrs : RdSl ((wr.alloc (.cells (cPat x).toArray 58)).alloc (.cells (cPat x).toArray 55)) (some ⟨wr.heap.size + 1, 0, none⟩) [x.s, x.p, x.o] :=
        ⟨[x.s, x.p, x.o].flatMap slC, Rd.of_block (heap_two_2 wr _ _) rfl, All.of_flat _ fun _ _ => rfl⟩
      have hq := qSlots w.heap.size w.heap.size v' (metsN [] ((l.take k).flatMap occP)) [x.s, x.p, x.o] (some ⟨wr.heap.size + 1, 0, none⟩) 3 _ hM2 hrs (fun a ha => by
          injection ha with ha; subst ha
          refine ⟨?_, fun e => ?_⟩
          · simp; omega
          · have := (hM.own.lt _ e.symm).2; simp only at this; omega) (by simp; omega) (by simp; omega)
      have Hn : Hid (metsN [] ((l.take (k + 1)).flatMap occP) = metsN (metsN [] ((l.take k).flatMap occP)) (occS [x.s, x.p, x.o])) := by
        show _ = _
        rw [flat_take hs, metsN_app]; rfl
      have HB := Lib.hid (below_tr hB hB2)
      simp only [cPat] at hq HB
      clear hs hr hM hM2 hx hml hB2 hrs hB
      go_wp2_with (go_at_call 111; refine hq.mono ?_; rintro e w2 ⟨⟨u, rfl⟩, v2, hM2, hK2⟩)
      go_roundw
      case rel => exact ⟨k + 1, v2, by omega, by go_num, by rw [Hn.out]; exact hM2, HB.out.trans hK2.below, by have := hK2.size; simp at this; omega⟩
      case measure => simp [intOf]; omega
    · have hk2 : l.take k = l := List.take_of_length_le (by omega)
      rw [hk2] at hM
      obtain ⟨A1, c1, rfl, hc1, hr1, hv1⟩ := hM.open_
      have hown := hM.own
      go_wp2
      go_ret
      exact ⟨_, rfl, hown, hB⟩
end Go.Proofs.YtefjhehgpkljcaaGreatDoor
namespace Go.Proofs.YtefjhehgpkljcaaGreatDoor
open Go Go.RowKit Go.Maps Go.ChangeMaps Go.Shelf Um Fm Mt
attribute [local go_sem] Oper.semAt_some

def isStr : Obj → Bool
  | .cells _ t _ => t == 9
  | _ => false
/-- The walker's own blocks: b, and rows of names that lie behind it. -/
abbrev hidU (b : Nat) : Nat → Obj → Bool := fun k o => k == b || (decide (b ≤ k) && isStr o)
theorem Kb.of_met {b S : Nat} {w w' : World} {v v' : Value} {l : List ByteArray} (hM : MetAt b b w v l) (hK : MetKeeps b b w v w' v') : Kb (hidU b) S w w' := by
  refine .of_blocks (fun k o ho hn _ => ?_) hK.size
  rw [Bool.or_eq_false_iff] at hn
  rw [hK.keep k (Array.getElem?_eq_some_iff.1 ho).1 (by simpa using hn.1) ?_]; exact ho
  intro e
  rcases hM.own.2 with ⟨hv, _⟩ | ⟨g, cap, cur, hv, hg, hh, _⟩
  · rw [hv] at e; simp [Value.ownBlock] at e
  · rw [hv] at e
    simp only [Value.ownBlock, Option.some.injEq] at e
    subst e
    rw [hh] at ho
    injection ho with ho
    subst ho
    have := hn.2
    simp [isStr] at this
    omega
theorem MetKeeps.from {base b : Nat} {w w' : World} {v v' : Value} {l : List ByteArray} (hM : MetAt base b w v l) (h : MetKeeps base b w v w' v') (B : Nat) : KeepsFrom B w w' := by
  refine ⟨h.size, fun k o _ hk hc => ?_⟩
  rw [h.keep k (Array.getElem?_eq_some_iff.1 hk).1 ?_ ?_]; exact hk
  · rintro rfl
    have := hM.cell
    rw [World.cell?, hk] at this
    cases o <;> simp [Obj.isCells] at hc this
  · intro e
    rcases hM.own.2 with ⟨hv, _⟩ | ⟨g, cap, cur, hv, hg, hh, _⟩
    · rw [hv] at e; simp [Value.ownBlock] at e
    · rw [hv] at e
      simp only [Value.ownBlock, Option.some.injEq] at e
      subst e
      rw [hh] at hk
      injection hk with hk
      subst hk
      simp [Obj.isCells] at hc
/-- Names met so far, and what lies else. -/
def UsedI (w : World) (b : Nat) (l : List ByteArray) (W : World) : Prop := ∃ v, MetAt w.heap.size b W v l ∧ Below w.heap.size w W ∧ b < W.heap.size
theorem UsedI.later {w : World} {b : Nat} {l : List ByteArray} {W W' : World} (h : UsedI w b l W) (hb : Below W.heap.size W W') : UsedI w b l W' := by
  obtain ⟨v, h1, h2, h3⟩ := h
  exact ⟨v, h1.later hb, below_tr h2 hb, Nat.lt_of_lt_of_le h3 hb.size⟩
theorem UsedI.grown {w : World} {b : Nat} {l : List ByteArray} {A B : World} {row : Option Nat} {S : Nat} (hS : w.heap.size ≤ S) (h : UsedI w b l A) (hg : A.grownBy B row) (hr : ∀ q, row = some q → S ≤ q ∧ ∃ o : Obj, A.heap[q]? = some o ∧ o.isCells = false) : UsedI w b l B := by
  obtain ⟨v, h1, h2, h3⟩ := h
  have hr2 : ∀ q, row = some q → ∃ o : Obj, A.heap[q]? = some o ∧ o.isCells = false := fun q e => (hr q e).2
  refine ⟨v, ⟨cell_kept h1.cell hg hr2, (frozen_kept h1.cell hg hr2).trans h1.fr, h1.own.kept hg ?_, h1.lo, h1.ne⟩, h2.grown hg h2.size fun q e => by have := (hr q e).1; omega, Nat.lt_of_lt_of_le h3 hg.size⟩
  rcases Option.eq_none_or_eq_some v.ownBlock with e | ⟨g, e⟩
  · exact .inl e
  · right
    intro e2
    obtain ⟨o, ho, hc⟩ := hr2 g (e2.symm.trans e)
    rcases h1.own.2 with ⟨hv, _⟩ | ⟨g', cap, cur, hv, _, hh, _⟩
    · rw [hv] at e; simp [Value.ownBlock] at e
    · rw [hv] at e
      simp only [Value.ownBlock, Option.some.injEq] at e
      subst e
      rw [hh] at ho
      injection ho with ho
      subst ho
      simp [Obj.isCells] at hc
set_option maxRecDepth 100000 in
set_option maxHeartbeats 4000000 in
theorem qUsed (n : Nat) (es : List (ExT n)) (A : Option Addr) (c : Nat) (w : World) (hr : RdEs n w A es) (hl : es.length ≤ 1353245080300) (hz : ∀ x ∈ es, szE n x) (hN : (es.flatMap (preE n)).length ≤ 500000) :
    Calls Tryz.prog 110 #[.slice A es.length c] w (NamesR (usedN n es) w) := by
  refine (callsIn_wide (n := 6)).1 ?_
  generalize hF : Fence.wide = F
  have hd : F.depth = none := by rw [← hF]; rfl
  have hfn : ∀ k, F.fn k := by rw [← hF]; exact fun _ => trivial
  have hro : F.round = none := by rw [← hF]; rfl
  have hpl : ∀ {m : Nat} {f : FuncId} {args : Array Value} {W : World} {R : Ending → World → Prop}, Calls Tryz.prog f args W R → CallsIn F m Tryz.prog f args W R := by rw [← hF]; exact fun h => callsIn_wide.2 h
  have hdd : ∀ k : Nat, (F.depth.isSome = true → 1 ≤ k) := fun k h => by rw [hd] at h; cases h
  have h4 := hfn 156
  have h0 := hfn 110
  have h5 := hfn 184
  have h6 := hfn 185
  have h7 := hfn 157
  clear hF hfn
  refine callsIn_of_wp_marks Tryz.func110 rfl h0 ?_ hro
  simp only [Tryz.ntmps110, List.size_toArray, List.length_cons, List.length_nil, Nat.reduceAdd, Nat.reduceSub, Array.replicate_succ, Array.replicate_zero, List.push_toArray, List.append_toArray, List.nil_append, List.cons_append]
  gi_wp2_with ((try refine ⟨hdd _, ?_⟩); gi_at_call 156; refine (qParts_in F _ h4 hro _ _ _ _).mono ?_; rintro e w' ⟨rfl, rfl⟩)
  obtain ⟨W1, hW1⟩ : ∃ W : World, (w.alloc (.cells #[.slice none 0 0] 140)).alloc (.cells #[.slice A es.length c] 29) = W := ⟨_, rfl⟩
  have hsz : W1.heap.size = w.heap.size + 1 + 1 := by rw [← hW1]; simp
  have hB1 : Below w.heap.size w W1 := by rw [← hW1]; exact (by repeat (first | exact Below.refl _ _ | assumption | exact (Below.refl _ _).alloc (Nat.le_refl _) _ | refine below_tr ?_ (by assumption) | refine below_alloc ?_ | refine below_tr ?_ (below_regrown _ _ _)))
  have g0 : W1.heap[w.heap.size]? = some (.cells #[.slice none 0 0] 140 (0, 0)) := by rw [← hW1]; exact heap_two_1 w _ _
  have g1 : W1.heap[w.heap.size + 1]? = some (.cells #[.slice A es.length c] 29 (0, 0)) := by rw [← hW1]; exact heap_two_2 w _ _
  have hI0 : UsedI w w.heap.size [] W1 := ⟨.slice none 0 0, ⟨by rw [World.cell?, g0]; rfl, by simp [World.frozen?, g0], World.ownsRow_nil _ _ _ _, Nat.le_refl _, by simp [Value.ownBlock]⟩, hB1, by omega⟩
  have hcm : CM w (wo (hidU w.heap.size) W1) := fun p u hp => wo_cell.2 ⟨cell_on hp hB1, _, by
    rw [hB1.block _ (cell_lt hp)]; exact Array.getElem?_eq_getElem (cell_lt hp), by have := cell_lt hp; simp; omega⟩
  have hrs : RdEs n (wo (hidU w.heap.size) W1) A es := hr.cm hcm
  have hbx : (wo (hidU w.heap.size) W1).cell? ⟨w.heap.size + 1, 0, none⟩ = some (.slice A es.length c) := wo_cell.2 ⟨by rw [World.cell?, g1]; rfl, _, g1, by simp [isStr]⟩
  have hs := qParts_stops F hd h5 h6 hro (hidU w.heap.size) (6 - 1) n W1 (fun k _ _ hk => by simp [isStr]; omega) szE (fun n k s t kids h => ⟨h.2.2.1, h.2.2.2⟩) es A c (w.heap.size + 1) hrs hl hz hbx
  simp only [hW1]
  have HW := Lib.hid hW1
  have Hsz := Lib.hid hsz
  clear hW1 hrs hbx hcm g0 g1 hsz hr hz
  refine wpIn_rangeFunc_ownH hro (by omega) (gf := 184) (lb := #[.pointer (some ⟨w.heap.size + 1, 0, none⟩)]) rfl h5 (enters_of Tryz.func184 (by kernel_rfl) rfl)
    hs (fun h k => h.trans k) (fun W l o o' hl ho hc _ => Kb.put hl ho hc) (Below.refl _ _) (fun _ => rfl)
    (fun pre W => UsedI w w.heap.size (metsN [] ((pts pre).flatMap ptV)) W ∧ Kb (hidU w.heap.size) W1.heap.size W1 W)
    (fun _ _ _ => False)
    (fun s A B row hs hg hr => ⟨hs.1.grown hB1.size hg hr, hs.2.grown hg hr⟩)
    (fun c s A B row hs hg hr => hs.elim)
    ⟨hI0, Kb.refl _ _ _⟩
    (fun a a' W => ∃ (Bx : Nat) (k' : Int) (s' : ByteArray) (t' : Tm) (A' : Option Addr) (m' c' : Nat), a.cs = [.int .i64 k', .string s', .int .i64 t'.k, .string t'.x, .string t'.l, .string t'.y, .slice A' m' c'] ∧ W.heap[Bx]? = some (.cells #[.int .i64 k', .string s', .int .i64 t'.k, .string t'.x, .string t'.l, .string t'.y, .slice A' m' c'] 31 (0, 0)) ∧ W1.heap.size ≤ Bx ∧
      a' = { tmps := #[.slice A es.length c, undef, .slice none 0 0, .pointer (some ⟨w.heap.size, 0, none⟩), .pointer (some ⟨Bx, 0, none⟩), .slice A es.length c, .func (.func 184) #[] #[.pointer (some ⟨w.heap.size + 1, 0, none⟩)], .agg #[.int .i64 k', .string s', .int .i64 t'.k, .string t'.x, .string t'.l, .string t'.y, .slice A' m' c'], undef, undef, undef, undef, undef, undef, undef, undef, undef, undef, undef], defers := [] })
    ?hAx ?assign ?body ?done ?stop
  case hAx =>
    rintro a a' _ A B row ⟨Bx, k', s', t', A', m', c', h1, h2, h3, h4⟩ hg hr
    refine ⟨Bx, k', s', t', A', m', c', h1, ?_, h3, h4⟩
    rw [hg.block Bx (Array.getElem?_eq_some_iff.1 h2).1 (fun e => by obtain ⟨_, o, ho, hoc⟩ := hr Bx e.symm; rw [h2] at ho; cases ho; cases hoc)]; exact h2
  case assign =>
    rintro l pre a W K ⟨hi, hk⟩ hK
    have e : ∀ (b : Array Value) (v : Value), (#[7].zip #[v]).foldl (fun t (p, v) => t.setIfInBounds p v) b = b.setIfInBounds 7 v := fun b v => by simp
    rw [e]
    obtain ⟨k', s', t', A', m', c', hcs, _⟩ := rd_spell a.rd
    have hB2 : Below W.heap.size W (W.alloc (.cells #[.int .i64 k', .string s', .int .i64 t'.k, .string t'.x, .string t'.l, .string t'.y, .slice A' m' c'] 31)) := (by repeat (first | exact Below.refl _ _ | assumption | exact (Below.refl _ _).alloc (Nat.le_refl _) _ | refine below_tr ?_ (by assumption) | refine below_alloc ?_ | refine below_tr ?_ (below_regrown _ _ _)))
    have hfin := fun a' h => hK a' (W.alloc (.cells #[.int .i64 k', .string s', .int .i64 t'.k, .string t'.x, .string t'.l, .string t'.y, .slice A' m' c'] 31)) (keeps_of_below hB2) (Kb.of_below hB2 hk.size) ⟨hi.later hB2, hk.trans (Kb.of_below hB2 hk.size)⟩ ⟨W.heap.size, k', s', t', A', m', c', hcs, heap_alloc_new _ _, hk.size, h⟩
    have Hfin := Lib.hid hfin
    rw [hcs]
    clear hK hi hfin hk hB2
    gi_wp2
    exact Hfin.out _ rfl
  case body =>
    rintro l pre a a' W hl' ⟨rr, hrr⟩ ⟨hi, hk⟩ ⟨Bx, k', s', t', A', m', c', hcs, hbx, hBx, rfl⟩ hlN
    have b0 : W.cell? ⟨Bx, 0, none⟩ = some (.int .i64 k') := by rw [World.cell?, hbx]; rfl
    have b1 : W.cell? ⟨Bx, 1, none⟩ = some (.string s') := by rw [World.cell?, hbx]; rfl
    have hptv : ptV ⟨a.n, a.x⟩ = if k' == 1 then [s'] else [] := by
      match a, hcs with
      | ⟨m + 1, (k, s, t, kids), cs, ⟨A2, c2, hv, _⟩, z⟩, hcs =>
        simp only at hcs hv ⊢
        rw [hv] at hcs
        simp at hcs
        obtain ⟨rfl, rfl, _⟩ := hcs
        rfl
    have hnx : (pts (pre ++ [a])).flatMap ptV = (pts pre).flatMap ptV ++ ptV ⟨a.n, a.x⟩ := by rw [pts_append, List.flatMap_append]; simp [pts]
    obtain ⟨v, hM, hBw, hbW⟩ := hi
    by_cases h1 : k' = 1
    · have hB2 : Below W.heap.size W (W.alloc (.cells #[.string s'] 9)) := (by repeat (first | exact Below.refl _ _ | assumption | exact (Below.refl _ _).alloc (Nat.le_refl _) _ | refine below_tr ?_ (by assumption) | refine below_alloc ?_ | refine below_tr ?_ (below_regrown _ _ _)))
      have hM2 := hM.later hB2
      have hml : (metsN [] ((pts pre).flatMap ptV)).length + 1 ≤ 1000000 := by
        have h2 := metsN_len ((pts pre).flatMap ptV) []
        have h3 : ((pts pre).flatMap ptV).length ≤ (pts pre).length := by
          generalize pts pre = l
          induction l with
          | nil => simp
          | cons p l ih => have := ptV_len p; rw [List.flatMap_cons, List.length_append, List.length_cons]; omega
        rw [pts_length] at h3
        rw [List.length_nil] at h2
        omega
      have hq := qMeet w.heap.size w.heap.size v _ [s'] (some ⟨W.heap.size, 0, none⟩) 1 _ hM2 (Rd.of_block (heap_alloc_new W _) rfl) (fun a ha => by
        injection ha with ha; subst ha
        refine ⟨by simp; omega, fun e => ?_⟩
        have := (hM.own.lt _ e.symm).2
        simp only at this; omega) (by simp; omega) (by simpa using hml)
      rw [hptv, h1] at hnx
      simp only [beq_self_eq_true, if_true] at hnx
      have HB2 := Lib.hid hB2
      have HBw := Lib.hid hBw
      have Hk := Lib.hid hk
      have HM2 := Lib.hid hM2
      have Hnx := Lib.hid hnx
      subst h1
      clear hM hM2 hBw hk hnx hptv hB2 hcs hml
      gi_wp2_with ((try refine ⟨hdd _, ?_⟩); gi_at_call 157; refine (CallsIn.inRound l (hpl hq)).mono ?_; rintro e w2 ⟨⟨u, rfl⟩, v2, hM3, hK3⟩)
      have hkb : Kb (hidU w.heap.size) W1.heap.size W w2 := (Kb.of_below HB2.out (by have := Hk.out.size; omega)).trans (Kb.of_met HM2.out hK3)
      refine ⟨(keeps_of_below HB2.out).trans (hK3.from HM2.out _), hkb, ⟨v2, ?_, ?_, ?_⟩, Hk.out.trans hkb⟩
      · rw [Hnx.out, metsN_app]; exact hM3
      · exact (below_tr HBw.out HB2.out).trans hK3.below
      · have := hK3.size; simp at this; omega
    · have h1b : (k' == 1) = false := by simpa using h1
      rw [hptv, h1b] at hnx
      simp only [Bool.false_eq_true, if_false, List.append_nil] at hnx
      have Hk := Lib.hid hk
      have HM := Lib.hid hM
      have HBw := Lib.hid hBw
      have Hnx := Lib.hid hnx
      clear hM hBw hk hnx hptv hcs
      gi_wp2
      exact ⟨KeepsFrom.refl _ _, Kb.refl _ _ _, ⟨v, by rw [Hnx.out]; exact HM.out, HBw.out, hbW⟩, Hk.out⟩
  case done =>
    rintro D ys W hD hS ⟨⟨v, hM, hBw, hbW⟩, hk⟩ hK
    have hv : metsN [] ((pts ys).flatMap ptV) = usedN n es := by rw [hS]; rfl
    rw [hv] at hM
    obtain ⟨A1, c1, rfl, hc1, hr1, hv1⟩ := hM.open_
    have hown := hM.own
    have hfr := hM.fr
    clear hM hv hk hc1 hr1
    gi_wp2
    refine ⟨by simp, .inl ⟨_, _, rfl, run_takeDeferred hK, ?_⟩⟩
    have hgr := grownBy_putObj' W D (.deferred none)
    have hne : (Value.slice A1 (usedN n es).length c1).ownBlock = none ∨ (Value.slice A1 (usedN n es).length c1).ownBlock ≠ some D := by
      right
      intro e
      rcases hown.2 with ⟨hv, _⟩ | ⟨g', cap, cur, hv, _, hh, _⟩
      · rw [hv] at e; simp [Value.ownBlock] at e
      · rw [hv] at e
        simp only [Value.ownBlock, Option.some.injEq] at e
        subst e
        rw [hh] at hK
        cases hK
    refine ⟨.slice A1 (usedN n es).length c1, ?_, _, rfl, hown.kept hgr hne, hBw.trans (belowK_b (w := w) (Nat.le_refl _) _ D _ _ (by have := Hsz.out; omega) hK rfl rfl)⟩
    simp [results, Tryz.results110, go_sem]
  case stop =>
    rintro D cc pre W hD hS h hK
    exact h.elim
end Go.Proofs.YtefjhehgpkljcaaGreatDoor
