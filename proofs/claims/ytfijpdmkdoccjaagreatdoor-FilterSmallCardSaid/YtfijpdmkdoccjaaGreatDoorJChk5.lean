/- The program's package query, walked: met.meet: names, each once, behind a pointer. Patterns' variables, conditions' variables, in plain words. The program's package query, walked: walker.slots, Vars. The program's package query, walked: Used. The library's slices.Values over texts: the iterator. The library's slices.Grow, slices.Concat over texts. The library's slices.AppendSeq, slices.Collect over texts that slices.Values goes through. -/
import Derived.Test.YtfijpdmkdoccjaaGreatDoorJSameInts
import Derived.Test.YtfijpdmkdoccjaaGreatDoorJMetMath
import Derived.Test.YtfijpdmkdoccjaaGreatDoorJTms
import Derived.Maps.AppendAt
import Derived.RangeFuncBox
import Derived.Test.YtfijpdmkdoccjaaGreatDoorJQSize0
import Derived.Test.YtfijpdmkdoccjaaGreatDoorJQRight4
import Derived.BigRegion
import Derived.Test.YtfijpdmkdoccjaaGreatDoorJAppG
import Derived.Lib.AppendZerosOnto
import Derived.Lib.Strings
import Derived.Maps.OwnIn
namespace Go.Proofs.YtfijpdmkdoccjaaGreatDoor
open Go Go.RowKit Mt

theorem stringInfo' : (Tryz.prog.info? 9).map (fun i => (i.zero, i.size, i.bytes)) = some (some (.string ⟨#[]⟩), 1, 16) := by kernel_rfl
/-- Names met, behind a pointer to block b: v, of the call's own. -/
structure MetAt (base b : Nat) (w : World) (v : Value) (l : List ByteArray) : Prop where
  cell : w.cell? ⟨b, 0, none⟩ = some v
  fr : w.frozen? ⟨b, 0, none⟩ = false
  own : w.ownsRow base 9 1 v l.length (l.map Value.string)
  lo : base ≤ b
  ne : v.ownBlock ≠ some b
/-- What meeting keeps. -/
structure MetKeeps (base b : Nat) (w : World) (v : Value) (w' : World) (v' : Value) : Prop where
  below : Below base w w'
  keep : ∀ k, k < w.heap.size → k ≠ b → some k ≠ v.ownBlock → w'.heap[k]? = w.heap[k]?
  size : w.heap.size ≤ w'.heap.size
  blk : v'.ownBlock = v.ownBlock ∨ ∀ k, v'.ownBlock = some k → w.heap.size ≤ k
theorem MetKeeps.refl (base b : Nat) (w : World) (v : Value) : MetKeeps base b w v w v := ⟨Below.refl _ _, fun _ _ _ _ => rfl, Nat.le_refl _, .inl rfl⟩
theorem MetKeeps.trans {base b : Nat} {w w1 w2 : World} {v v1 v2 : Value} (h : MetKeeps base b w v w1 v1) (k : MetKeeps base b w1 v1 w2 v2) : MetKeeps base b w v w2 v2 := by
  refine ⟨h.below.trans k.below, fun j hj hjb hjv => ?_, Nat.le_trans h.size k.size, ?_⟩
  · rw [k.keep j (Nat.lt_of_lt_of_le hj h.size) hjb ?_, h.keep j hj hjb hjv]
    rcases h.blk with e | e
    · rw [e]; exact hjv
    · intro e2
      have := e j e2.symm
      omega
  · rcases k.blk with e | e
    · rw [e]; exact h.blk
    · exact .inr fun j hj => Nat.le_trans h.size (e j hj)
theorem MetKeeps.of_below {base b : Nat} {w w' : World} (v : Value) (h : Below w.heap.size w w') (hb : base ≤ w.heap.size) : MetKeeps base b w v w' v :=
  ⟨h.mono hb, fun k hk _ _ => h.block k hk, h.size, .inl rfl⟩
theorem MetKeeps.cell {base b : Nat} {w w' : World} {v v' : Value} (h : MetKeeps base b w v w' v') {p : Addr} {u : Value} (hc : w.cell? p = some u) (h1 : p.block ≠ b) (h2 : some p.block ≠ v.ownBlock) : w'.cell? p = some u := by
  rw [World.cell?, h.keep _ (cell_lt hc) h1 h2]; exact hc
theorem MetKeeps.rd {base b : Nat} {w w' : World} {v v' : Value} (h : MetKeeps base b w v w' v') {A : Option Addr} {xs : List Value} (hr : Rd w A xs) (hA : ∀ a, A = some a → a.block ≠ b ∧ some a.block ≠ v.ownBlock) : Rd w' A xs := by
  rcases hr with h0 | ⟨g, o, rfl, hx⟩
  · exact .inl h0
  · obtain ⟨h1, h2⟩ := hA _ rfl
    exact .inr ⟨g, o, rfl, fun j u hu => h.cell (hx j u hu) h1 h2⟩
theorem MetAt.later {base b : Nat} {w w' : World} {v : Value} {l : List ByteArray} (h : MetAt base b w v l) (hb : Below w.heap.size w w') : MetAt base b w' v l :=
  ⟨cell_on h.cell hb, by rw [hb.frozen (cell_lt h.cell)]; exact h.fr, own_below h.own hb (Nat.le_refl _), h.lo, h.ne⟩
theorem MetAt.open_ {base b : Nat} {w : World} {v : Value} {l : List ByteArray} (h : MetAt base b w v l) : ∃ A c, v = .slice A l.length c ∧ l.length ≤ c ∧ Rd w A (l.map Value.string) ∧ w.cell? ⟨b, 0, none⟩ = some (.slice A l.length c) := by
  obtain ⟨A, c, rfl, hc, hr⟩ := own_slice h.own
  exact ⟨A, c, rfl, hc, hr, h.cell⟩
/-- What comes of meeting names. -/
def MeetR (base b : Nat) (v : Value) (l : List ByteArray) (w : World) (e : Ending) (w' : World) : Prop := (∃ u, e = .returned u) ∧ ∃ v', MetAt base b w' v' l ∧ MetKeeps base b w v w' v'
def MeetL (base b : Nat) (v : Value) (l names : List ByteArray) (w : World) (i : Value) (wr : World) : Prop := ∃ (k : Nat) (v' : Value), k ≤ names.length ∧ i = .int .i64 k ∧ MetAt base b wr v' (metsN l (names.take k)) ∧ MetKeeps base b w v wr v'
end Go.Proofs.YtfijpdmkdoccjaaGreatDoor
namespace Go.Proofs.YtfijpdmkdoccjaaGreatDoor
open Go Go.RowKit Um Fm Mt

/-- The names of places that have one. -/
def occS (l : List Sl) : List ByteArray := (l.map (·.v)).filter fun v => !v.toList.isEmpty
def occP (p : Pat) : List ByteArray := occS [p.s, p.p, p.o]
def varsN (l : List Pat) : List ByteArray := metsN [] (l.flatMap occP)
theorem occS_cons (x : Sl) (l : List Sl) : occS (x :: l) = (if x.v.toList.isEmpty then [] else [x.v]) ++ occS l := by
  unfold occS
  rw [List.map_cons, List.filter_cons]
  cases x.v.toList.isEmpty <;> simp
theorem occS_len (l : List Sl) : (occS l).length ≤ l.length := by
  unfold occS
  exact Nat.le_trans (List.length_filter_le _ _) (by simp)
theorem occP_len (p : Pat) : (occP p).length ≤ 3 := occS_len _
theorem occ_len : ∀ l : List Pat, (l.flatMap occP).length ≤ 3 * l.length
  | [] => by simp
  | p :: l => by
    have h1 := occ_len l
    have h2 := occP_len p
    rw [List.flatMap_cons, List.length_append, List.length_cons]; omega
theorem varsN_len (l : List Pat) : (varsN l).length ≤ 3 * l.length := by
  have h1 := metsN_len (l.flatMap occP) []
  have h2 := occ_len l
  unfold varsN
  rw [List.length_nil] at h1; omega
theorem varsN_more (l : List Pat) (p : Pat) : ∃ r, varsN (l ++ [p]) = varsN l ++ r ∧ r.length ≤ 3 := by
  unfold varsN
  rw [List.flatMap_append, metsN_app]
  obtain ⟨r, h, k⟩ := metsN_ext ([p].flatMap occP) (metsN [] (l.flatMap occP))
  have := occP_len p
  exact ⟨r, h, by rw [List.flatMap_cons, List.flatMap_nil, List.append_nil] at k; omega⟩
theorem varsN_turn (l : List Pat) : (varsN l.reverse).length = (varsN l).length := mets_same fun x => by simp
theorem varsN_mem {l : List Pat} {x : ByteArray} : x ∈ varsN l ↔ ∃ p ∈ l, x ∈ occP p := by
  unfold varsN; rw [metsN_mem]; simp
theorem varsN_turn_mem {l : List Pat} {x : ByteArray} : x ∈ varsN l.reverse ↔ x ∈ varsN l := by rw [varsN_mem, varsN_mem]; simp
theorem occS_ne {l : List Sl} {x : ByteArray} (h : x ∈ occS l) : x.toList.isEmpty = false := by
  unfold occS at h
  simpa using (List.mem_filter.1 h).2
theorem varsN_ne {l : List Pat} {x : ByteArray} (h : x ∈ varsN l) : x.toList.isEmpty = false := by
  obtain ⟨p, _, hp⟩ := varsN_mem.1 h
  exact occS_ne hp
theorem varsN_nodup (l : List Pat) : (varsN l).Nodup := metsN_nodup _ List.nodup_nil
/-- The names of parts that are variables. -/
def ptV : Pt → List ByteArray
  | ⟨0, _⟩ => []
  | ⟨_ + 1, (k, s, _, _)⟩ => if k == 1 then [s] else []
def usedN (n : Nat) (l : List (ExT n)) : List ByteArray := metsN [] ((l.flatMap (preE n)).flatMap ptV)
theorem usedN_nodup (n : Nat) (l : List (ExT n)) : (usedN n l).Nodup := metsN_nodup _ List.nodup_nil
theorem ptV_len (p : Pt) : (ptV p).length ≤ 1 := by
  obtain ⟨n, x⟩ := p
  cases n with
  | zero => simp [ptV]
  | succ n => obtain ⟨k, s, t, kids⟩ := x; simp only [ptV]; split <;> simp
/-- How many there are so far. -/
def nAt (pre : List ByteArray) : Nat := (metsN [] pre).length
theorem occ_empty {x : Sl} (r : List Sl) (h : x.v.toList.isEmpty = true) : occS (x :: r) = occS r := by rw [occS_cons, h]; rfl
theorem occ_named {x : Sl} (r : List Sl) (h : x.v.toList.isEmpty = false) : occS (x :: r) = x.v :: occS r := by rw [occS_cons, h]; rfl
theorem nAt_take {all pre post : List ByteArray} (h : all = pre ++ post) : (metsN [] all).take (nAt pre) = metsN [] pre ∧ nAt pre ≤ (metsN [] all).length := by
  subst h
  refine ⟨mets_take _ _, ?_⟩
  obtain ⟨r, hr, _⟩ := metsN_ext post (metsN [] pre)
  unfold nAt
  rw [metsN_app, hr, List.length_append]; omega
theorem nAt_has {pre : List ByteArray} {s : ByteArray} (h : hasS (metsN [] pre) s = true) : nAt (pre ++ [s]) = nAt pre := by
  unfold nAt; rw [metsN_app, metsN_one, metN_has h]
theorem nAt_new {all pre post : List ByteArray} {s : ByteArray} (h : all = pre ++ s :: post) (hs : hasS (metsN [] pre) s = false) : (metsN [] all)[nAt pre]? = some s ∧ nAt pre < (metsN [] all).length ∧ nAt (pre ++ [s]) = nAt pre + 1 := by
  have e : all = pre ++ [s] ++ post := by rw [h]; simp
  subst e
  refine ⟨(mets_next hs).1, (mets_next hs).2, ?_⟩
  unfold nAt; rw [metsN_app, metsN_one, metN_new hs]; simp
theorem ptV_flat : ∀ l : List Pt, (l.flatMap ptV).length ≤ l.length
  | [] => by simp
  | p :: l => by have h1 := ptV_flat l; have h2 := ptV_len p; rw [List.flatMap_cons, List.length_append, List.length_cons]; omega
theorem usedN_len (n : Nat) (l : List (ExT n)) : (usedN n l).length ≤ (l.flatMap (preE n)).length := by
  have h1 := metsN_len ((l.flatMap (preE n)).flatMap ptV) []
  have h2 := ptV_flat (l.flatMap (preE n))
  rw [List.length_nil] at h1
  unfold usedN; omega
end Go.Proofs.YtfijpdmkdoccjaaGreatDoor
namespace Go.Proofs.YtfijpdmkdoccjaaGreatDoor
open Go Go.RowKit Um Fm Mt

abbrev RdSl (w : World) (A : Option Addr) (l : List Sl) : Prop := RdL 5 (fun cs s => cs = slC s) w A l
theorem RdL.keeps {α : Type} {sz : Nat} {R : List Value → α → Prop} {base b : Nat} {w w' : World} {v v' : Value} (h : MetKeeps base b w v w' v') {A : Option Addr} {l : List α} (hr : RdL sz R w A l) (hA : ∀ a, A = some a → a.block ≠ b ∧ some a.block ≠ v.ownBlock) : RdL sz R w' A l := by
  obtain ⟨xs, h1, h2⟩ := hr
  exact ⟨xs, h.rd h1 hA, h2⟩
theorem occS_snoc {ss : List Sl} {k : Nat} {x : Sl} (h : ss[k]? = some x) : occS (ss.take (k + 1)) = occS (ss.take k) ++ occS [x] := by
  rw [take_snoc_of h]; unfold occS; rw [List.map_append, List.filter_append]
theorem occS_one_no {x : Sl} (h : x.v.toList.isEmpty = true) : occS [x] = [] := occ_empty [] h
theorem occS_one {x : Sl} (h : x.v.toList.isEmpty = false) : occS [x] = [x.v] := occ_named [] h
def SlotsL (base b : Nat) (v : Value) (l : List ByteArray) (ss : List Sl) (w : World) (i : Value) (wr : World) : Prop := ∃ (k : Nat) (v' : Value), k ≤ ss.length ∧ i = .int .i64 k ∧ MetAt base b wr v' (metsN l (occS (ss.take k))) ∧ MetKeeps base b w v wr v'
/-- A row of names of the call's own comes back. -/
def NamesR (names : List ByteArray) (w : World) (e : Ending) (w' : World) : Prop := ∃ v, e = .returned v ∧ w'.ownsRow w.heap.size 9 1 v names.length (names.map Value.string) ∧ Below w.heap.size w w'
def VarsL (l : List Pat) (w : World) (i : Value) (wr : World) : Prop := ∃ (k : Nat) (v' : Value), k ≤ l.length ∧ i = .int .i64 k ∧ MetAt w.heap.size w.heap.size wr v' (metsN [] ((l.take k).flatMap occP)) ∧ Below w.heap.size w wr ∧ w.heap.size < wr.heap.size
end Go.Proofs.YtfijpdmkdoccjaaGreatDoor
namespace Go.Proofs.YtfijpdmkdoccjaaGreatDoor
open Go Go.RowKit Go.Maps Go.ChangeMaps Go.Shelf Um Fm Mt
attribute [local go_sem] Oper.semAt_some

def isStr : Obj → Bool
  | .cells _ t _ => t == 9
  | _ => false
/-- The walker's own blocks: b, and rows of names that lie behind it. -/
abbrev hidU (b : Nat) : Nat → Obj → Bool := fun k o => k == b || (decide (b ≤ k) && isStr o)
theorem Kb.of_met {b S : Nat} {w w' : World} {v v' : Value} {l : List ByteArray} (hM : MetAt b b w v l) (hK : MetKeeps b b w v w' v') : Kb (hidU b) S w w' := by
  refine .of_blocks (fun k o ho hn _ => ?_) hK.size
  rw [Bool.or_eq_false_iff] at hn
  rw [hK.keep k (Array.getElem?_eq_some_iff.1 ho).1 (by simpa using hn.1) ?_]; exact ho
  intro e
  rcases hM.own.2 with ⟨hv, _⟩ | ⟨g, cap, cur, hv, hg, hh, _⟩
  · rw [hv] at e; simp [Value.ownBlock] at e
  · rw [hv] at e
    simp only [Value.ownBlock, Option.some.injEq] at e
    subst e
    rw [hh] at ho
    injection ho with ho
    subst ho
    have := hn.2
    simp [isStr] at this
    omega
theorem MetKeeps.from {base b : Nat} {w w' : World} {v v' : Value} {l : List ByteArray} (hM : MetAt base b w v l) (h : MetKeeps base b w v w' v') (B : Nat) : KeepsFrom B w w' := by
  refine ⟨h.size, fun k o _ hk hc => ?_⟩
  rw [h.keep k (Array.getElem?_eq_some_iff.1 hk).1 ?_ ?_]; exact hk
  · rintro rfl
    have := hM.cell
    rw [World.cell?, hk] at this
    cases o <;> simp [Obj.isCells] at hc this
  · intro e
    rcases hM.own.2 with ⟨hv, _⟩ | ⟨g, cap, cur, hv, hg, hh, _⟩
    · rw [hv] at e; simp [Value.ownBlock] at e
    · rw [hv] at e
      simp only [Value.ownBlock, Option.some.injEq] at e
      subst e
      rw [hh] at hk
      injection hk with hk
      subst hk
      simp [Obj.isCells] at hc
/-- Names met so far, and what lies else. -/
def UsedI (w : World) (b : Nat) (l : List ByteArray) (W : World) : Prop := ∃ v, MetAt w.heap.size b W v l ∧ Below w.heap.size w W ∧ b < W.heap.size
theorem UsedI.later {w : World} {b : Nat} {l : List ByteArray} {W W' : World} (h : UsedI w b l W) (hb : Below W.heap.size W W') : UsedI w b l W' := by
  obtain ⟨v, h1, h2, h3⟩ := h
  exact ⟨v, h1.later hb, below_tr h2 hb, Nat.lt_of_lt_of_le h3 hb.size⟩
theorem UsedI.grown {w : World} {b : Nat} {l : List ByteArray} {A B : World} {row : Option Nat} {S : Nat} (hS : w.heap.size ≤ S) (h : UsedI w b l A) (hg : A.grownBy B row) (hr : ∀ q, row = some q → S ≤ q ∧ ∃ o : Obj, A.heap[q]? = some o ∧ o.isCells = false) : UsedI w b l B := by
  obtain ⟨v, h1, h2, h3⟩ := h
  have hr2 : ∀ q, row = some q → ∃ o : Obj, A.heap[q]? = some o ∧ o.isCells = false := fun q e => (hr q e).2
  refine ⟨v, ⟨cell_kept h1.cell hg hr2, (frozen_kept h1.cell hg hr2).trans h1.fr, h1.own.kept hg ?_, h1.lo, h1.ne⟩, h2.grown hg h2.size fun q e => by have := (hr q e).1; omega, Nat.lt_of_lt_of_le h3 hg.size⟩
  rcases Option.eq_none_or_eq_some v.ownBlock with e | ⟨g, e⟩
  · exact .inl e
  · right
    intro e2
    obtain ⟨o, ho, hc⟩ := hr2 g (e2.symm.trans e)
    rcases h1.own.2 with ⟨hv, _⟩ | ⟨g', cap, cur, hv, _, hh, _⟩
    · rw [hv] at e; simp [Value.ownBlock] at e
    · rw [hv] at e
      simp only [Value.ownBlock, Option.some.injEq] at e
      subst e
      rw [hh] at ho
      injection ho with ho
      subst ho
      simp [Obj.isCells] at hc
end Go.Proofs.YtfijpdmkdoccjaaGreatDoor
namespace Go.Proofs.YtfijpdmkdoccjaaGreatDoor
open Go Go.RowKit Go.Shelf Um Fm Mt
attribute [local go_sem] Oper.semAt_some

def ValsL (h : Nat → Obj → Bool) (S : Nat) (J : List ByteArray → World → Prop) (l : List ByteArray) (W : World) (i : Value) (wr : World) : Prop :=
  ∃ k : Nat, k ≤ l.length ∧ i = .int .i64 k ∧ J (l.take k) wr ∧ Kb h S W wr
abbrev encTx (s : ByteArray) : Array Value := #[.string s]
end Go.Proofs.YtfijpdmkdoccjaaGreatDoor
namespace Go.Proofs.YtfijpdmkdoccjaaGreatDoor
open Go Go.RowKit Um Fm Mt

def GrowR (w : World) (e : Ending) (w' : World) : Prop := ∃ v, e = .returned v ∧ w'.ownsRow w.heap.size 9 1 v 0 [] ∧ Below w.heap.size w w'
/-- Lists of texts, as they lie. -/
abbrev RdLs (w : World) (A : Option Addr) (ls : List (List ByteArray)) : Prop := RdL 1 (fun cs l => ∃ (B : Option Addr) (c : Nat), cs = [.slice B l.length c] ∧ Rd w B (l.map Value.string)) w A ls
theorem RdLs.later {w w' : World} {A : Option Addr} {ls : List (List ByteArray)} (h : RdLs w A ls) (hb : Below w.heap.size w w') : RdLs w' A ls :=
  RdL.mono h hb fun _ _ _ ⟨B, c, h1, h2⟩ => ⟨B, c, h1, h2.later hb⟩
def sumL (ls : List (List ByteArray)) : Nat := (ls.map List.length).sum
theorem sumL_take {ls : List (List ByteArray)} {k : Nat} {l : List ByteArray} (h : ls[k]? = some l) : sumL (ls.take (k + 1)) = sumL (ls.take k) + l.length := by
  unfold sumL; rw [take_snoc_of h, List.map_append, List.sum_append]; simp
theorem sumL_flat (ls : List (List ByteArray)) : (ls.flatMap id).length = sumL ls := by
  unfold sumL; induction ls with
  | nil => rfl
  | cons a r ih => simp [List.flatMap_cons]
theorem sumL_le (ls : List (List ByteArray)) (k : Nat) : sumL (ls.take k) ≤ sumL ls := by
  unfold sumL
  conv => rhs; rw [← List.take_append_drop k ls]
  rw [List.map_append, List.sum_append]; omega
def Sum1 (ls : List (List ByteArray)) (w : World) (s i : Value) (wr : World) : Prop := ∃ k : Nat, k ≤ ls.length ∧ i = .int .i64 k ∧ s = .int .i64 (sumL (ls.take k)) ∧ w = wr
def Cat1 (ls : List (List ByteArray)) (w0 _w : World) (v i : Value) (wr : World) : Prop := ∃ (k : Nat) (v' : Value), k ≤ ls.length ∧ i = .int .i64 k ∧ v = v' ∧ wr.ownsRow w0.heap.size 9 1 v' (sumL (ls.take k)) (((ls.take k).flatMap id).map Value.string) ∧ Below w0.heap.size w0 wr
end Go.Proofs.YtfijpdmkdoccjaaGreatDoor
namespace Go.Proofs.YtfijpdmkdoccjaaGreatDoor
open Go Go.RowKit Go.Maps Go.ChangeMaps Go.Shelf Um Fm Mt
attribute [local go_sem] Oper.semAt_some

/-- The texts that an iterator of slices.Values goes through. -/
def SeqAt (w : World) (Bp : Nat) (l : List ByteArray) : Prop := ∃ A c, w.cell? ⟨Bp, 0, none⟩ = some (.slice A l.length c) ∧ Rd w A (l.map Value.string)
theorem SeqAt.later {w w' : World} {Bp : Nat} {l : List ByteArray} (h : SeqAt w Bp l) (hb : Below w.heap.size w w') : SeqAt w' Bp l := by
  obtain ⟨A, c, h1, h2⟩ := h
  exact ⟨A, c, cell_on h1 hb, h2.later hb⟩
theorem MetAt.row {base b : Nat} {w : World} {v : Value} {l : List ByteArray} (hM : MetAt base b w v l) {w4 : World} {A4 : Option Addr} {m4 c4 : Nat} {l' : List ByteArray} (own4 : w4.ownsRow base 9 1 (.slice A4 m4 c4) l'.length (l'.map Value.string))
    (d0 : ∃ u, w4.cell? ⟨b, 0, none⟩ = some u) (d1 : w4.frozen? ⟨b, 0, none⟩ = false) (hne4 : (Value.slice A4 m4 c4).ownBlock ≠ some b) : MetAt base b (w4.setCell ⟨b, 0, none⟩ (.slice A4 m4 c4)) (.slice A4 m4 c4) l' := by
  obtain ⟨u, d0⟩ := d0
  exact ⟨World.cell?_setCell_same' _ _ _ (by rw [d0]; rfl), by rw [World.frozen?_setCell]; exact d1, own4.kept (grownBy_setCell' w4 b _) (.inr hne4), hM.lo, hne4⟩
end Go.Proofs.YtfijpdmkdoccjaaGreatDoor
