/- The program's package query, walked: Used. -/
import Derived.Test.YtafaanegkoolgaaGreatDoorJVars
namespace Go.Proofs.YtafaanegkoolgaaGreatDoor
open Go Go.RowKit Go.Maps Go.ChangeMaps Go.Shelf Um Fm Mt
attribute [local go_sem] Oper.semAt_some

def isStr : Obj → Bool
  | .cells _ t _ => t == 9
  | _ => false
/-- The walker's own blocks: b, and rows of names that lie behind it. -/
abbrev hidU (b : Nat) : Nat → Obj → Bool := fun k o => k == b || (decide (b ≤ k) && isStr o)
theorem Kb.of_met {b S : Nat} {w w' : World} {v v' : Value} {l : List ByteArray} (hM : MetAt b b w v l) (hK : MetKeeps b b w v w' v') : Kb (hidU b) S w w' := by
  refine .of_blocks (fun k o ho hn _ => ?_) hK.size
  rw [Bool.or_eq_false_iff] at hn
  rw [hK.keep k (Array.getElem?_eq_some_iff.1 ho).1 (by simpa using hn.1) ?_]; exact ho
  intro e
  rcases hM.own.2 with ⟨hv, _⟩ | ⟨g, cap, cur, hv, hg, hh, _⟩
  · rw [hv] at e; simp [Value.ownBlock] at e
  · rw [hv] at e
    simp only [Value.ownBlock, Option.some.injEq] at e
    subst e
    rw [hh] at ho
    injection ho with ho
    subst ho
    have := hn.2
    simp [isStr] at this
    omega
theorem MetKeeps.from {base b : Nat} {w w' : World} {v v' : Value} {l : List ByteArray} (hM : MetAt base b w v l) (h : MetKeeps base b w v w' v') (B : Nat) : KeepsFrom B w w' := by
  refine ⟨h.size, fun k o _ hk hc => ?_⟩
  rw [h.keep k (Array.getElem?_eq_some_iff.1 hk).1 ?_ ?_]; exact hk
  · rintro rfl
    have := hM.cell
    rw [World.cell?, hk] at this
    cases o <;> simp [Obj.isCells] at hc this
  · intro e
    rcases hM.own.2 with ⟨hv, _⟩ | ⟨g, cap, cur, hv, hg, hh, _⟩
    · rw [hv] at e; simp [Value.ownBlock] at e
    · rw [hv] at e
      simp only [Value.ownBlock, Option.some.injEq] at e
      subst e
      rw [hh] at hk
      injection hk with hk
      subst hk
      simp [Obj.isCells] at hc
/-- Names met so far, and what lies else. -/
def UsedI (w : World) (b : Nat) (l : List ByteArray) (W : World) : Prop := ∃ v, MetAt w.heap.size b W v l ∧ Below w.heap.size w W ∧ b < W.heap.size
theorem UsedI.later {w : World} {b : Nat} {l : List ByteArray} {W W' : World} (h : UsedI w b l W) (hb : Below W.heap.size W W') : UsedI w b l W' := by
  obtain ⟨v, h1, h2, h3⟩ := h
  exact ⟨v, h1.later hb, below_tr h2 hb, Nat.lt_of_lt_of_le h3 hb.size⟩
theorem UsedI.grown {w : World} {b : Nat} {l : List ByteArray} {A B : World} {row : Option Nat} {S : Nat} (hS : w.heap.size ≤ S) (h : UsedI w b l A) (hg : A.grownBy B row) (hr : ∀ q, row = some q → S ≤ q ∧ ∃ o : Obj, A.heap[q]? = some o ∧ o.isCells = false) : UsedI w b l B := by
  obtain ⟨v, h1, h2, h3⟩ := h
  have hr2 : ∀ q, row = some q → ∃ o : Obj, A.heap[q]? = some o ∧ o.isCells = false := fun q e => (hr q e).2
  refine ⟨v, ⟨cell_kept h1.cell hg hr2, (frozen_kept h1.cell hg hr2).trans h1.fr, h1.own.kept hg ?_, h1.lo, h1.ne⟩, h2.grown hg h2.size fun q e => by have := (hr q e).1; omega, Nat.lt_of_lt_of_le h3 hg.size⟩
  rcases Option.eq_none_or_eq_some v.ownBlock with e | ⟨g, e⟩
  · exact .inl e
  · right
    intro e2
    obtain ⟨o, ho, hc⟩ := hr2 g (e2.symm.trans e)
    rcases h1.own.2 with ⟨hv, _⟩ | ⟨g', cap, cur, hv, _, hh, _⟩
    · rw [hv] at e; simp [Value.ownBlock] at e
    · rw [hv] at e
      simp only [Value.ownBlock, Option.some.injEq] at e
      subst e
      rw [hh] at ho
      injection ho with ho
      subst ho
      simp [Obj.isCells] at hc
set_option maxRecDepth 100000 in
set_option maxHeartbeats 4000000 in
theorem qUsed (n : Nat) (es : List (ExT n)) (A : Option Addr) (c : Nat) (w : World) (hr : RdEs n w A es) (hl : es.length ≤ 1353245080300) (hz : ∀ x ∈ es, szE n x) (hN : (es.flatMap (preE n)).length ≤ 500000) :
    Calls Tryz.prog 41 #[.slice A es.length c] w (NamesR (usedN n es) w) := by
  refine (callsIn_wide (n := 6)).1 ?_
  generalize hF : Fence.wide = F
  have hd : F.depth = none := by rw [← hF]; rfl
  have hfn : ∀ k, F.fn k := by rw [← hF]; exact fun _ => trivial
  have hro : F.round = none := by rw [← hF]; rfl
  have hpl : ∀ {m : Nat} {f : FuncId} {args : Array Value} {W : World} {R : Ending → World → Prop}, Calls Tryz.prog f args W R → CallsIn F m Tryz.prog f args W R := by rw [← hF]; exact fun h => callsIn_wide.2 h
  have hdd : ∀ k : Nat, (F.depth.isSome = true → 1 ≤ k) := fun k h => by rw [hd] at h; cases h
  have h4 := hfn 66
  have h0 := hfn 41
  have h5 := hfn 134
  have h6 := hfn 135
  have h7 := hfn 116
  clear hF hfn
  refine callsIn_of_wp_marks Tryz.func41 rfl h0 ?_ hro
  simp only [Tryz.ntmps41, List.size_toArray, List.length_cons, List.length_nil, Nat.reduceAdd, Nat.reduceSub, Array.replicate_succ, Array.replicate_zero, List.push_toArray, List.append_toArray, List.nil_append, List.cons_append]
  gi_wp2_with ((try refine ⟨hdd _, ?_⟩); gi_at_call 66; refine (qParts_in F _ h4 hro _ _ _ _).mono ?_; rintro e w' ⟨rfl, rfl⟩)
  obtain ⟨W1, hW1⟩ : ∃ W : World, (w.alloc (.cells #[.slice none 0 0] 134)).alloc (.cells #[.slice A es.length c] 24) = W := ⟨_, rfl⟩
  have hsz : W1.heap.size = w.heap.size + 1 + 1 := by rw [← hW1]; simp
  have hB1 : Below w.heap.size w W1 := by rw [← hW1]; exact (by repeat (first | exact Below.refl _ _ | assumption | exact (Below.refl _ _).alloc (Nat.le_refl _) _ | refine below_tr ?_ (by assumption) | refine below_alloc ?_ | refine below_tr ?_ (below_regrown _ _ _)))
  have g0 : W1.heap[w.heap.size]? = some (.cells #[.slice none 0 0] 134 (0, 0)) := by rw [← hW1]; exact heap_two_1 w _ _
  have g1 : W1.heap[w.heap.size + 1]? = some (.cells #[.slice A es.length c] 24 (0, 0)) := by rw [← hW1]; exact heap_two_2 w _ _
  have hI0 : UsedI w w.heap.size [] W1 := ⟨.slice none 0 0, ⟨by rw [World.cell?, g0]; rfl, by simp [World.frozen?, g0], World.ownsRow_nil _ _ _ _, Nat.le_refl _, by simp [Value.ownBlock]⟩, hB1, by omega⟩
  have hcm : CM w (wo (hidU w.heap.size) W1) := fun p u hp => wo_cell.2 ⟨cell_on hp hB1, _, by
    rw [hB1.block _ (cell_lt hp)]; exact Array.getElem?_eq_getElem (cell_lt hp), by have := cell_lt hp; simp; omega⟩
  have hrs : RdEs n (wo (hidU w.heap.size) W1) A es := hr.cm hcm
  have hbx : (wo (hidU w.heap.size) W1).cell? ⟨w.heap.size + 1, 0, none⟩ = some (.slice A es.length c) := wo_cell.2 ⟨by rw [World.cell?, g1]; rfl, _, g1, by simp [isStr]⟩
  have hs := qParts_stops F hd h5 h6 hro (hidU w.heap.size) (6 - 1) n W1 (fun k _ _ hk => by simp [isStr]; omega) szE (fun n k s t kids h => ⟨h.2.2.1, h.2.2.2⟩) es A c (w.heap.size + 1) hrs hl hz hbx
  simp only [hW1]
  have HW := Lib.hid hW1
  have Hsz := Lib.hid hsz
  clear hW1 hrs hbx hcm g0 g1 hsz hr hz
  refine wpIn_rangeFunc_ownH hro (by omega) (gf := 134) (lb := #[.pointer (some ⟨w.heap.size + 1, 0, none⟩)]) rfl h5 (enters_of Tryz.func134 (by kernel_rfl) rfl)
    hs (fun h k => h.trans k) (fun W l o o' hl ho hc _ => Kb.put hl ho hc) (Below.refl _ _) (fun _ => rfl)
    (fun pre W => UsedI w w.heap.size (metsN [] ((pts pre).flatMap ptV)) W ∧ Kb (hidU w.heap.size) W1.heap.size W1 W)
    (fun _ _ _ => False)
    (fun s A B row hs hg hr => ⟨hs.1.grown hB1.size hg hr, hs.2.grown hg hr⟩)
    (fun c s A B row hs hg hr => hs.elim)
    ⟨hI0, Kb.refl _ _ _⟩
    (fun a a' W => ∃ (Bx : Nat) (k' : Int) (s' : ByteArray) (t' : Tm) (A' : Option Addr) (m' c' : Nat), a.cs = [.int .i64 k', .string s', .int .i64 t'.k, .string t'.x, .string t'.l, .string t'.y, .slice A' m' c'] ∧ W.heap[Bx]? = some (.cells #[.int .i64 k', .string s', .int .i64 t'.k, .string t'.x, .string t'.l, .string t'.y, .slice A' m' c'] 38 (0, 0)) ∧ W1.heap.size ≤ Bx ∧
      a' = { tmps := #[.slice A es.length c, undef, .slice none 0 0, .pointer (some ⟨w.heap.size, 0, none⟩), .pointer (some ⟨Bx, 0, none⟩), .slice A es.length c, .func (.func 134) #[] #[.pointer (some ⟨w.heap.size + 1, 0, none⟩)], .agg #[.int .i64 k', .string s', .int .i64 t'.k, .string t'.x, .string t'.l, .string t'.y, .slice A' m' c'], undef, undef, undef, undef, undef, undef, undef, undef, undef, undef, undef], defers := [] })
    ?hAx ?assign ?body ?done ?stop
  case hAx =>
    rintro a a' _ A B row ⟨Bx, k', s', t', A', m', c', h1, h2, h3, h4⟩ hg hr
    refine ⟨Bx, k', s', t', A', m', c', h1, ?_, h3, h4⟩
    rw [hg.block Bx (Array.getElem?_eq_some_iff.1 h2).1 (fun e => by obtain ⟨_, o, ho, hoc⟩ := hr Bx e.symm; rw [h2] at ho; cases ho; cases hoc)]; exact h2
  case assign =>
    rintro l pre a W K ⟨hi, hk⟩ hK
    have e : ∀ (b : Array Value) (v : Value), (#[7].zip #[v]).foldl (fun t (p, v) => t.setIfInBounds p v) b = b.setIfInBounds 7 v := fun b v => by simp
    rw [e]
    obtain ⟨k', s', t', A', m', c', hcs, _⟩ := rd_spell a.rd
    have hB2 : Below W.heap.size W (W.alloc (.cells #[.int .i64 k', .string s', .int .i64 t'.k, .string t'.x, .string t'.l, .string t'.y, .slice A' m' c'] 38)) := (by repeat (first | exact Below.refl _ _ | assumption | exact (Below.refl _ _).alloc (Nat.le_refl _) _ | refine below_tr ?_ (by assumption) | refine below_alloc ?_ | refine below_tr ?_ (below_regrown _ _ _)))
    have hfin := fun a' h => hK a' (W.alloc (.cells #[.int .i64 k', .string s', .int .i64 t'.k, .string t'.x, .string t'.l, .string t'.y, .slice A' m' c'] 38)) (keeps_of_below hB2) (Kb.of_below hB2 hk.size) ⟨hi.later hB2, hk.trans (Kb.of_below hB2 hk.size)⟩ ⟨W.heap.size, k', s', t', A', m', c', hcs, heap_alloc_new _ _, hk.size, h⟩
    have Hfin := Lib.hid hfin
    rw [hcs]
    clear hK hi hfin hk hB2
    gi_wp2
    exact Hfin.out _ rfl
  case body =>
    rintro l pre a a' W hl' ⟨rr, hrr⟩ ⟨hi, hk⟩ ⟨Bx, k', s', t', A', m', c', hcs, hbx, hBx, rfl⟩ hlN
    have b0 : W.cell? ⟨Bx, 0, none⟩ = some (.int .i64 k') := by rw [World.cell?, hbx]; rfl
    have b1 : W.cell? ⟨Bx, 1, none⟩ = some (.string s') := by rw [World.cell?, hbx]; rfl
    have hptv : ptV ⟨a.n, a.x⟩ = if k' == 1 then [s'] else [] := by
      match a, hcs with
      | ⟨m + 1, (k, s, t, kids), cs, ⟨A2, c2, hv, _⟩, z⟩, hcs =>
        simp only at hcs hv ⊢
        rw [hv] at hcs
        simp at hcs
        obtain ⟨rfl, rfl, _⟩ := hcs
        rfl
    have hnx : (pts (pre ++ [a])).flatMap ptV = (pts pre).flatMap ptV ++ ptV ⟨a.n, a.x⟩ := by rw [pts_append, List.flatMap_append]; simp [pts]
    obtain ⟨v, hM, hBw, hbW⟩ := hi
    by_cases h1 : k' = 1
    · have hB2 : Below W.heap.size W (W.alloc (.cells #[.string s'] 9)) := (by repeat (first | exact Below.refl _ _ | assumption | exact (Below.refl _ _).alloc (Nat.le_refl _) _ | refine below_tr ?_ (by assumption) | refine below_alloc ?_ | refine below_tr ?_ (below_regrown _ _ _)))
      have hM2 := hM.later hB2
      have hml : (metsN [] ((pts pre).flatMap ptV)).length + 1 ≤ 1000000 := by
        have h2 := metsN_len ((pts pre).flatMap ptV) []
        have h3 : ((pts pre).flatMap ptV).length ≤ (pts pre).length := by
          generalize pts pre = l
          induction l with
          | nil => simp
          | cons p l ih => have := ptV_len p; rw [List.flatMap_cons, List.length_append, List.length_cons]; omega
        rw [pts_length] at h3
        rw [List.length_nil] at h2
        omega
      have hq := qMeet w.heap.size w.heap.size v _ [s'] (some ⟨W.heap.size, 0, none⟩) 1 _ hM2 (Rd.of_block (heap_alloc_new W _) rfl) (fun a ha => by
        injection ha with ha; subst ha
        refine ⟨by simp; omega, fun e => ?_⟩
        have := (hM.own.lt _ e.symm).2
        simp only at this; omega) (by simp; omega) (by simpa using hml)
      rw [hptv, h1] at hnx
      simp only [beq_self_eq_true, if_true] at hnx
      have HB2 := Lib.hid hB2
      have HBw := Lib.hid hBw
      have Hk := Lib.hid hk
      have HM2 := Lib.hid hM2
      have Hnx := Lib.hid hnx
      subst h1
      clear hM hM2 hBw hk hnx hptv hB2 hcs hml
      gi_wp2_with ((try refine ⟨hdd _, ?_⟩); gi_at_call 116; refine (CallsIn.inRound l (hpl hq)).mono ?_; rintro e w2 ⟨⟨u, rfl⟩, v2, hM3, hK3⟩)
      have hkb : Kb (hidU w.heap.size) W1.heap.size W w2 := (Kb.of_below HB2.out (by have := Hk.out.size; omega)).trans (Kb.of_met HM2.out hK3)
      refine ⟨(keeps_of_below HB2.out).trans (hK3.from HM2.out _), hkb, ⟨v2, ?_, ?_, ?_⟩, Hk.out.trans hkb⟩
      · rw [Hnx.out, metsN_app]; exact hM3
      · exact (below_tr HBw.out HB2.out).trans hK3.below
      · have := hK3.size; simp at this; omega
    · have h1b : (k' == 1) = false := by simpa using h1
      rw [hptv, h1b] at hnx
      simp only [Bool.false_eq_true, if_false, List.append_nil] at hnx
      have Hk := Lib.hid hk
      have HM := Lib.hid hM
      have HBw := Lib.hid hBw
      have Hnx := Lib.hid hnx
      clear hM hBw hk hnx hptv hcs
      gi_wp2
      exact ⟨KeepsFrom.refl _ _, Kb.refl _ _ _, ⟨v, by rw [Hnx.out]; exact HM.out, HBw.out, hbW⟩, Hk.out⟩
  case done =>
    rintro D ys W hD hS ⟨⟨v, hM, hBw, hbW⟩, hk⟩ hK
    have hv : metsN [] ((pts ys).flatMap ptV) = usedN n es := by rw [hS]; rfl
    rw [hv] at hM
    obtain ⟨A1, c1, rfl, hc1, hr1, hv1⟩ := hM.open_
    have hown := hM.own
    have hfr := hM.fr
    clear hM hv hk hc1 hr1
    gi_wp2
    refine ⟨by simp, .inl ⟨_, _, rfl, run_takeDeferred hK, ?_⟩⟩
    have hgr := grownBy_putObj' W D (.deferred none)
    have hne : (Value.slice A1 (usedN n es).length c1).ownBlock = none ∨ (Value.slice A1 (usedN n es).length c1).ownBlock ≠ some D := by
      right
      intro e
      rcases hown.2 with ⟨hv, _⟩ | ⟨g', cap, cur, hv, _, hh, _⟩
      · rw [hv] at e; simp [Value.ownBlock] at e
      · rw [hv] at e
        simp only [Value.ownBlock, Option.some.injEq] at e
        subst e
        rw [hh] at hK
        cases hK
    refine ⟨.slice A1 (usedN n es).length c1, ?_, _, rfl, hown.kept hgr hne, hBw.trans (belowK_b (w := w) (Nat.le_refl _) _ D _ _ (by have := Hsz.out; omega) hK rfl rfl)⟩
    simp [results, Tryz.results41, go_sem]
  case stop =>
    rintro D cc pre W hD hS h hK
    exact h.elim
end Go.Proofs.YtafaanegkoolgaaGreatDoor
