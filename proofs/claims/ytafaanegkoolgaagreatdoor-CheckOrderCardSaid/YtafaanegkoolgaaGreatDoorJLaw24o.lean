/- CheckOrder: for every query the law returns true. -/
import Derived.Test.YtafaanegkoolgaaGreatDoorJOrdMath
import Derived.Test.YtafaanegkoolgaaGreatDoorJLaw24b
import Derived.Test.YtafaanegkoolgaaGreatDoorJRegion4
namespace Go.Proofs.YtafaanegkoolgaaGreatDoor
open Go Go.RowKit Um Fm Mt

/-- A world without one block. -/
abbrev hB (B : Nat) : Nat → Obj → Bool := fun k _ => k == B
/-- A query in a block of its own; its rows lie elsewhere. -/
structure BoxQ (n : Nat) (w : World) (B : Nat) (q : Qy n) (a1 a2 a3 a4 : Option Addr) (c1 c2 c3 c4 : Nat) : Prop where
  row : w.heap[B]? = some (.cells #[.bool q.ask, .bool q.dist, .slice a1 q.vars.length c1, .slice a2 q.pats.length c2, .slice a3 q.fils.length c3, .slice a4 q.ord.length c4, .int .i64 q.lim, .int .i64 q.off] 27 (0, 0))
  le1 : q.vars.length ≤ c1
  le2 : q.pats.length ≤ c2
  le3 : q.fils.length ≤ c3
  le4 : q.ord.length ≤ c4
  r1 : RdStr (wo (hB B) w) a1 q.vars
  r2 : RdPat (wo (hB B) w) a2 q.pats
  r3 : RdEs n (wo (hB B) w) a3 q.fils
  r4 : RdKey (wo (hB B) w) a4 q.ord
theorem RdStr_to {w : World} {A : Option Addr} {l : List ByteArray} (h : RdStr w A l) : Rd w A (l.map Value.string) := by
  obtain ⟨xs, hr, ha⟩ := h
  have : xs = l.map Value.string := by
    clear hr
    induction l generalizing xs with
    | nil => exact ha
    | cons a r ih =>
      obtain ⟨cs, ys, rfl, _, rfl, hy⟩ := ha
      rw [ih ys hy]; rfl
  rw [← this]; exact hr
theorem wo_cellB {B : Nat} {w : World} {p : Addr} {u : Value} : (wo (hB B) w).cell? p = some u ↔ (w.cell? p = some u ∧ p.block ≠ B) := by
  rw [wo_cellN (h := fun k => k == B)]
  simp
theorem CM.woB {B : Nat} {w : World} : CM (wo (hB B) w) w := fun _ _ h => (wo_cell.1 h).1
theorem CM.woBelow {B : Nat} {w w' : World} (h : Below w.heap.size w w') : CM (wo (hB B) w) (wo (hB B) w') := fun p u x => by
  obtain ⟨h1, h2⟩ := wo_cellB.1 x
  exact wo_cellB.2 ⟨cell_on h1 h, h2⟩
theorem CM.woSet {B i : Nat} {v : Value} {w : World} : CM (wo (hB B) w) (wo (hB B) (w.setCell ⟨B, i, none⟩ v)) := fun p u x => by
  obtain ⟨h1, h2⟩ := wo_cellB.1 x
  refine wo_cellB.2 ⟨?_, h2⟩
  rw [World.cell?, Below.heap_setCell _ _ _ _ h2]; exact h1
theorem BoxQ.later {n : Nat} {w w' : World} {B : Nat} {q : Qy n} {a1 a2 a3 a4 : Option Addr} {c1 c2 c3 c4 : Nat} (h : BoxQ n w B q a1 a2 a3 a4 c1 c2 c3 c4) (hb : Below w.heap.size w w') : BoxQ n w' B q a1 a2 a3 a4 c1 c2 c3 c4 :=
  ⟨by rw [hb.block _ (Array.getElem?_eq_some_iff.1 h.row).1]; exact h.row, h.le1, h.le2, h.le3, h.le4, RdL.cm h.r1 (CM.woBelow hb) (fun _ _ _ h => h), RdL.cm h.r2 (CM.woBelow hb) (fun _ _ _ h => h), RdEs.cm h.r3 (CM.woBelow hb), RdL.cm h.r4 (CM.woBelow hb) (fun _ _ _ h => h)⟩
theorem BoxQ.rdq {n : Nat} {w : World} {B : Nat} {q : Qy n} {a1 a2 a3 a4 : Option Addr} {c1 c2 c3 c4 : Nat} (h : BoxQ n w B q a1 a2 a3 a4 c1 c2 c3 c4) :
    RdQ n w [.bool q.ask, .bool q.dist, .slice a1 q.vars.length c1, .slice a2 q.pats.length c2, .slice a3 q.fils.length c3, .slice a4 q.ord.length c4, .int .i64 q.lim, .int .i64 q.off] q :=
  ⟨a1, a2, a3, a4, c1, c2, c3, c4, rfl, ⟨h.le1, h.le2, h.le3, h.le4⟩, RdStr_to (RdL.cm h.r1 CM.woB (fun _ _ _ h => h)), RdL.cm h.r2 CM.woB (fun _ _ _ h => h), RdEs.cm h.r3 CM.woB, RdL.cm h.r4 CM.woB (fun _ _ _ h => h)⟩
theorem BoxQ.cell {n : Nat} {w : World} {B : Nat} {q : Qy n} {a1 a2 a3 a4 : Option Addr} {c1 c2 c3 c4 : Nat} (h : BoxQ n w B q a1 a2 a3 a4 c1 c2 c3 c4) (i : Nat) (v : Value) (hv : (#[.bool q.ask, .bool q.dist, .slice a1 q.vars.length c1, .slice a2 q.pats.length c2, .slice a3 q.fils.length c3, .slice a4 q.ord.length c4, .int .i64 q.lim, .int .i64 q.off] : Array Value)[i]? = some v) : w.cell? ⟨B, i, none⟩ = some v := by
  rw [World.cell?, h.row]; exact hv
theorem BoxQ.fr {n : Nat} {w : World} {B : Nat} {q : Qy n} {a1 a2 a3 a4 : Option Addr} {c1 c2 c3 c4 : Nat} (h : BoxQ n w B q a1 a2 a3 a4 c1 c2 c3 c4) (i : Nat) : w.frozen? ⟨B, i, none⟩ = false := by
  simp [World.frozen?, h.row]
theorem BoxQ.made {n : Nat} {w : World} {q : Qy n} {a1 a2 a3 a4 : Option Addr} {c1 c2 c3 c4 : Nat} (h : RdQ n w [.bool q.ask, .bool q.dist, .slice a1 q.vars.length c1, .slice a2 q.pats.length c2, .slice a3 q.fils.length c3, .slice a4 q.ord.length c4, .int .i64 q.lim, .int .i64 q.off] q) :
    BoxQ n ((w.alloc (.cells #[.bool false, .bool false, .slice none 0 0, .slice none 0 0, .slice none 0 0, .slice none 0 0, .int .i64 0, .int .i64 0] 27)).setRow w.heap.size #[.bool q.ask, .bool q.dist, .slice a1 q.vars.length c1, .slice a2 q.pats.length c2, .slice a3 q.fils.length c3, .slice a4 q.ord.length c4, .int .i64 q.lim, .int .i64 q.off]) w.heap.size q a1 a2 a3 a4 c1 c2 c3 c4 := by
  have hc : CM w (wo (hB w.heap.size) ((w.alloc (.cells #[.bool false, .bool false, .slice none 0 0, .slice none 0 0, .slice none 0 0, .slice none 0 0, .int .i64 0, .int .i64 0] 27)).setRow w.heap.size #[.bool q.ask, .bool q.dist, .slice a1 q.vars.length c1, .slice a2 q.pats.length c2, .slice a3 q.fils.length c3, .slice a4 q.ord.length c4, .int .i64 q.lim, .int .i64 q.off])) := fun p u hp => by
    have hlt := cell_lt hp
    refine wo_cellB.2 ⟨?_, by omega⟩
    rw [World.cell?, setRow_other _ _ _ _ (by omega), Below.heap_alloc _ _ _ hlt]; exact hp
  obtain ⟨o1, o2, o3, o4, r1, r2, r3, r4⟩ := h.spell
  exact ⟨setRow_heap _ _ _ _ _ _ (heap_alloc_new w (.cells #[.bool false, .bool false, .slice none 0 0, .slice none 0 0, .slice none 0 0, .slice none 0 0, .int .i64 0, .int .i64 0] 27)), o1, o2, o3, o4, RdL.cm (RdStr_of r1) hc (fun _ _ _ h => h), RdL.cm r2 hc (fun _ _ _ h => h), RdEs.cm r3 hc, RdL.cm r4 hc (fun _ _ _ h => h)⟩
theorem BoxQ.set_vars {n : Nat} {w : World} {B : Nat} {q : Qy n} {a1 a2 a3 a4 : Option Addr} {c1 c2 c3 c4 : Nat} (h : BoxQ n w B q a1 a2 a3 a4 c1 c2 c3 c4) {A : Option Addr} {c : Nat} {l : List ByteArray} (hc : l.length ≤ c) (hr : RdStr (wo (hB B) w) A l) :
    BoxQ n (w.setCell ⟨B, 2, none⟩ (.slice A l.length c)) B { q with vars := l } A a2 a3 a4 c c2 c3 c4 :=
  ⟨by rw [heap_setCell_same _ _ _ _ _ _ h.row]; rfl, hc, h.le2, h.le3, h.le4, RdL.cm hr CM.woSet (fun _ _ _ h => h), RdL.cm h.r2 CM.woSet (fun _ _ _ h => h), RdEs.cm h.r3 CM.woSet, RdL.cm h.r4 CM.woSet (fun _ _ _ h => h)⟩
theorem BoxQ.set_pats {n : Nat} {w : World} {B : Nat} {q : Qy n} {a1 a2 a3 a4 : Option Addr} {c1 c2 c3 c4 : Nat} (h : BoxQ n w B q a1 a2 a3 a4 c1 c2 c3 c4) {A : Option Addr} {c : Nat} {l : List Pat} (hc : l.length ≤ c) (hr : RdPat (wo (hB B) w) A l) :
    BoxQ n (w.setCell ⟨B, 3, none⟩ (.slice A l.length c)) B { q with pats := l } a1 A a3 a4 c1 c c3 c4 :=
  ⟨by rw [heap_setCell_same _ _ _ _ _ _ h.row]; rfl, h.le1, hc, h.le3, h.le4, RdL.cm h.r1 CM.woSet (fun _ _ _ h => h), RdL.cm hr CM.woSet (fun _ _ _ h => h), RdEs.cm h.r3 CM.woSet, RdL.cm h.r4 CM.woSet (fun _ _ _ h => h)⟩
theorem BoxQ.set_fils {n : Nat} {w : World} {B : Nat} {q : Qy n} {a1 a2 a3 a4 : Option Addr} {c1 c2 c3 c4 : Nat} (h : BoxQ n w B q a1 a2 a3 a4 c1 c2 c3 c4) {A : Option Addr} {c : Nat} {l : List (ExT n)} (hc : l.length ≤ c) (hr : RdEs n (wo (hB B) w) A l) :
    BoxQ n (w.setCell ⟨B, 4, none⟩ (.slice A l.length c)) B { q with fils := l } a1 a2 A a4 c1 c2 c c4 :=
  ⟨by rw [heap_setCell_same _ _ _ _ _ _ h.row]; rfl, h.le1, h.le2, hc, h.le4, RdL.cm h.r1 CM.woSet (fun _ _ _ h => h), RdL.cm h.r2 CM.woSet (fun _ _ _ h => h), RdEs.cm hr CM.woSet, RdL.cm h.r4 CM.woSet (fun _ _ _ h => h)⟩
theorem BoxQ.set_ord {n : Nat} {w : World} {B : Nat} {q : Qy n} {a1 a2 a3 a4 : Option Addr} {c1 c2 c3 c4 : Nat} (h : BoxQ n w B q a1 a2 a3 a4 c1 c2 c3 c4) {A : Option Addr} {c : Nat} {l : List Ky} (hc : l.length ≤ c) (hr : RdKey (wo (hB B) w) A l) :
    BoxQ n (w.setCell ⟨B, 5, none⟩ (.slice A l.length c)) B { q with ord := l } a1 a2 a3 A c1 c2 c3 c :=
  ⟨by rw [heap_setCell_same _ _ _ _ _ _ h.row]; rfl, h.le1, h.le2, h.le3, hc, RdL.cm h.r1 CM.woSet (fun _ _ _ h => h), RdL.cm h.r2 CM.woSet (fun _ _ _ h => h), RdEs.cm h.r3 CM.woSet, RdL.cm hr CM.woSet (fun _ _ _ h => h)⟩
theorem ones_all {sz : Nat} {α : Type} {R : List Value → α → Prop} (hR : ∀ cs e, R cs e → ∀ u ∈ cs, u.oneCell' = true) : ∀ {l : List α} {xs : List Value}, All sz R xs l → ∀ u ∈ xs, u.oneCell' = true
  | [], xs, h, u, hu => by
    have : xs = [] := h
    subst this; cases hu
  | e :: l, xs, ⟨cs, ys, h1, _, h3, h4⟩, u, hu => by
    subst h1
    rcases List.mem_append.1 hu with hu | hu
    · exact hR cs e h3 u hu
    · exact ones_all hR h4 u hu
theorem ones_pat : ∀ (cs : List Value) (e : Pat), cs = cPat e → ∀ u ∈ cs, u.oneCell' = true := fun cs e h u hu => pats1C [e] u (by subst h; simpa using hu)
theorem ones_key : ∀ (cs : List Value) (e : Ky), cs = cKey e → ∀ u ∈ cs, u.oneCell' = true := fun cs e h u hu => keys1C [e] u (by subst h; simpa using hu)
theorem ones_str : ∀ (cs : List Value) (e : ByteArray), cs = [Value.string e] → ∀ u ∈ cs, u.oneCell' = true := fun cs e h u hu => by
  subst h
  obtain rfl : u = .string e := by simpa using hu
  rfl
theorem ones_expr (n : Nat) (w : World) : ∀ (cs : List Value) (e : ExT n), RdE n w cs e → ∀ u ∈ cs, u.oneCell' = true := fun cs e h u hu => by
  obtain ⟨k, s, t, A, m, c, rfl, _⟩ := rd_spell h
  simp only [List.mem_cons, List.not_mem_nil, or_false] at hu
  rcases hu with rfl | rfl | rfl | rfl | rfl | rfl | rfl <;> rfl
theorem own_wo {w : World} {B base : Nat} {e : TypeId} {size n : Nat} {v : Value} {xs : List Value} (h : w.ownsRow base e size v n xs) (hb : B < base) : (wo (hB B) w).ownsRow base e size v n xs := by
  obtain ⟨h1, h2⟩ := h
  refine ⟨h1, ?_⟩
  rcases h2 with h2 | ⟨g, cap, cur, e1, e2, e3, e4⟩
  · exact .inl h2
  · refine .inr ⟨g, cap, cur, e1, e2, ?_, e4⟩
    have hne : (g == B) = false := by simp; omega
    simp only [wo, Array.getElem?_mapIdx, e3, Option.map_some, hB, hne]
    rfl
theorem cQueryQ (n : Nat) (q : Qy n) (a1 a2 a3 a4 : Option Addr) (c1 c2 c3 c4 : Nat) (w : World) (hC : Ctx w) (hf : fewQ q) (hz : szQ q) (hq : RdQ n w [.bool q.ask, .bool q.dist, .slice a1 q.vars.length c1, .slice a2 q.pats.length c2, .slice a3 q.fils.length c3, .slice a4 q.ord.length c4, .int .i64 q.lim, .int .i64 q.off] q) :
    Calls Tryz.prog 25 #[.agg #[.bool q.ask, .bool q.dist, .slice a1 q.vars.length c1, .slice a2 q.pats.length c2, .slice a3 q.fils.length c3, .slice a4 q.ord.length c4, .int .i64 q.lim, .int .i64 q.off]] w fun e w' => e = .returned (.int .i64 (errOf q)) ∧ Below w.heap.size w w' := by
  obtain ⟨_, _, _, _, r1, r2, r3, r4⟩ := hq.spell
  exact cQuery n q a1 a2 a3 a4 c1 c2 c3 c4 w hC hf hz hq r1 r2 r3 r4
theorem own_wo_ne {w : World} {B base : Nat} {e : TypeId} {size n : Nat} {v : Value} {xs : List Value} (h : w.ownsRow base e size v n xs) (hne : v.ownBlock ≠ some B) : (wo (hB B) w).ownsRow base e size v n xs := by
  obtain ⟨h1, h2⟩ := h
  refine ⟨h1, ?_⟩
  rcases h2 with h2 | ⟨g, cap, cur, e1, e2, e3, e4⟩
  · exact .inl h2
  · refine .inr ⟨g, cap, cur, e1, e2, ?_, e4⟩
    have hne' : (g == B) = false := by
      simp
      intro e
      exact hne (by rw [e1, e]; rfl)
    simp only [wo, Array.getElem?_mapIdx, e3, Option.map_some, hB, hne']
    rfl
theorem own_type {w : World} {base : Nat} {e : TypeId} {size n : Nat} {v : Value} {xs : List Value} (h : w.ownsRow base e size v n xs) {g : Nat} (hg : v.ownBlock = some g) : ∃ cur, w.heap[g]? = some (.cells cur e (0, 0)) := by
  rcases h.2 with ⟨h2, _⟩ | ⟨g', cap, cur, e1, e2, e3, e4⟩
  · rw [h2] at hg; simp [Value.ownBlock] at hg
  · rw [e1] at hg
    simp only [Value.ownBlock, Option.some.injEq] at hg
    subst hg
    exact ⟨cur, e3⟩
theorem few_of' {n : Nat} {q : Qy n} (h : allQ q ≤ 400) (he : ∀ x ∈ q.fils, szE n x) : fewQ q := by
  unfold allQ cntQ at h
  exact ⟨by omega, by omega, by omega, by omega, he, by omega⟩
theorem kitPick (x n : Int) (w : World) (h0 : 1 ≤ n) (h1 : n ≤ 1000) :
    Calls Tryz.prog 24 #[.int .i64 x, .int .i64 n] w fun e w' => ∃ k : Nat, e = .returned (.int .i64 k) ∧ (k : Int) < n ∧ w = w' := by
  have b1 : -n < x.tmod n := Int.lt_tmod_of_pos x (by omega)
  have b2 : x.tmod n < n := Int.tmod_lt_of_pos x (by omega)
  go_enter Tryz.func24, Tryz.ntmps24
  go_wp2
  · go_ret
    refine ⟨(x.tmod n + n).toNat, ?_, by omega, rfl⟩
    show Ending.returned (.int .i64 (x.tmod n + n)) = _
    rw [Int.toNat_of_nonneg (by omega)]
  · go_ret
    refine ⟨(x.tmod n).toNat, ?_, by omega, rfl⟩
    show Ending.returned (.int .i64 (x.tmod n)) = _
    rw [Int.toNat_of_nonneg (by omega)]
set_option maxRecDepth 100000 in
set_option maxHeartbeats 8000000 in
theorem lawCheckOrder (n : Nat) (q : Qy n) (a1 a2 a3 a4 : Option Addr) (c1 c2 c3 c4 : Nat) (tn : Int) (mp : Pat) (w : World) (hC : Ctx w) (hz : szQ q) (he : ∀ x ∈ q.fils, szE n x) (hmp : szP mp)
    (hq : RdQ n w [.bool q.ask, .bool q.dist, .slice a1 q.vars.length c1, .slice a2 q.pats.length c2, .slice a3 q.fils.length c3, .slice a4 q.ord.length c4, .int .i64 q.lim, .int .i64 q.off] q) :
    Calls Tryz.prog 5 #[.agg #[.bool q.ask, .bool q.dist, .slice a1 q.vars.length c1, .slice a2 q.pats.length c2, .slice a3 q.fils.length c3, .slice a4 q.ord.length c4, .int .i64 q.lim, .int .i64 q.off], .int .i64 tn, .agg #[.string mp.s.v, .int .i64 mp.s.t.k, .string mp.s.t.x, .string mp.s.t.l, .string mp.s.t.y, .string mp.p.v, .int .i64 mp.p.t.k, .string mp.p.t.x, .string mp.p.t.l, .string mp.p.t.y, .string mp.o.v, .int .i64 mp.o.t.k, .string mp.o.t.x, .string mp.o.t.l, .string mp.o.t.y]] w fun e w' => e = .returned (.bool true) ∧ Below w.heap.size w w' := by
  have sL : szL q := ⟨hz.1, hz.2.1, hz.2.2.1, hz.2.2.2.1, he⟩
  obtain ⟨W, hW⟩ : ∃ W : World, (w.alloc (.cells #[.bool q.ask, .bool q.dist, .slice a1 q.vars.length c1, .slice a2 q.pats.length c2, .slice a3 q.fils.length c3, .slice a4 q.ord.length c4, .int .i64 q.lim, .int .i64 q.off] 27)).alloc (.cells #[.string mp.s.v, .int .i64 mp.s.t.k, .string mp.s.t.x, .string mp.s.t.l, .string mp.s.t.y, .string mp.p.v, .int .i64 mp.p.t.k, .string mp.p.t.x, .string mp.p.t.l, .string mp.p.t.y, .string mp.o.v, .int .i64 mp.o.t.k, .string mp.o.t.x, .string mp.o.t.l, .string mp.o.t.y] 51) = W := ⟨_, rfl⟩
  have hB0 : Below w.heap.size w W := by rw [← hW]; exact (by repeat (first | exact Below.refl _ _ | assumption | exact (Below.refl _ _).alloc (Nat.le_refl _) _ | refine below_tr ?_ (by assumption) | refine below_alloc ?_ | refine below_tr ?_ (below_regrown _ _ _)))
  have b0 : W.cell? ⟨w.heap.size, 0, none⟩ = some (.bool q.ask) := by rw [← hW, World.cell?, heap_two_1]; rfl
  have b1 : W.cell? ⟨w.heap.size, 1, none⟩ = some (.bool q.dist) := by rw [← hW, World.cell?, heap_two_1]; rfl
  have b2 : W.cell? ⟨w.heap.size, 2, none⟩ = some (.slice a1 q.vars.length c1) := by rw [← hW, World.cell?, heap_two_1]; rfl
  have b3 : W.cell? ⟨w.heap.size, 3, none⟩ = some (.slice a2 q.pats.length c2) := by rw [← hW, World.cell?, heap_two_1]; rfl
  have b4 : W.cell? ⟨w.heap.size, 4, none⟩ = some (.slice a3 q.fils.length c3) := by rw [← hW, World.cell?, heap_two_1]; rfl
  have b5 : W.cell? ⟨w.heap.size, 5, none⟩ = some (.slice a4 q.ord.length c4) := by rw [← hW, World.cell?, heap_two_1]; rfl
  have b6 : W.cell? ⟨w.heap.size, 6, none⟩ = some (.int .i64 q.lim) := by rw [← hW, World.cell?, heap_two_1]; rfl
  have b7 : W.cell? ⟨w.heap.size, 7, none⟩ = some (.int .i64 q.off) := by rw [← hW, World.cell?, heap_two_1]; rfl
  have hx0 : ∀ (i : Nat) v, (#[.bool q.ask, .bool q.dist, .slice a1 q.vars.length c1, .slice a2 q.pats.length c2, .slice a3 q.fils.length c3, .slice a4 q.ord.length c4, .int .i64 q.lim, .int .i64 q.off] : Array Value)[i]? = some v → W.cell? ⟨w.heap.size, i, none⟩ = some v := by
    intro i v hv; rw [← hW, World.cell?, heap_two_1]; exact hv
  have hm0 : ∀ (i : Nat) v, (#[.string mp.s.v, .int .i64 mp.s.t.k, .string mp.s.t.x, .string mp.s.t.l, .string mp.s.t.y, .string mp.p.v, .int .i64 mp.p.t.k, .string mp.p.t.x, .string mp.p.t.l, .string mp.p.t.y, .string mp.o.v, .int .i64 mp.o.t.k, .string mp.o.t.x, .string mp.o.t.l, .string mp.o.t.y] : Array Value)[i]? = some v → W.cell? ⟨w.heap.size + 1, i, none⟩ = some v := by
    intro i v hv; rw [← hW, World.cell?, heap_two_2]; exact hv
  have hsW : W.heap.size = w.heap.size + 2 := by rw [← hW]; simp
  have HW := Lib.hid hW
  have HB0 := Lib.hid hB0
  have HX := Lib.hid hx0
  have HM := Lib.hid hm0
  have HsW := Lib.hid hsW
  have HQ := Lib.hid hq
  have HC := Lib.hid hC
  have hA := law24Awake W (hC.step hB0)
  clear hW hB0 hC hq hx0 hm0 hsW
  go_enter Tryz.func5, Tryz.ntmps5
  go_wp2_with fail
  try simp only [HW.out]
  refine hA.mono ?_
  rintro e w1 ⟨rfl, hb1⟩
  have d0 := cell_on b0 hb1
  have d1 := cell_on b1 hb1
  have d2 := cell_on b2 hb1
  have d3 := cell_on b3 hb1
  have d4 := cell_on b4 hb1
  have d5 := cell_on b5 hb1
  have d6 := cell_on b6 hb1
  have d7 := cell_on b7 hb1
  have B1 := below_tr HB0.out hb1
  have hG := law24Great n q a1 a2 a3 a4 c1 c2 c3 c4 w1 (HQ.out.later B1).spell.2.2.2.2.2.2.1 sL
  clear hA
  go_wp2_with fail
  refine hG.mono ?_
  rintro e w2 ⟨gb, rfl, hgb, hb2⟩
  clear hG
  have hBb := below_tr hb1 hb2
  have HB2 := Lib.hid (below_tr B1 hb2)
  cases gb
  case true =>
    clear b0 b1 b2 b3 b4 b5 b6 b7 d0 d1 d2 d3 d4 d5 d6 d7
    go_wp2
    go_ret
    exact ⟨rfl, HB2.out⟩
  have hall := hgb rfl
  have hf := few_of' hall he
  have e0 := cell_on b0 hBb
  have e1 := cell_on b1 hBb
  have e2 := cell_on b2 hBb
  have e3 := cell_on b3 hBb
  have e4 := cell_on b4 hBb
  have e5 := cell_on b5 hBb
  have e6 := cell_on b6 hBb
  have e7 := cell_on b7 hBb
  clear b0 b1 b2 b3 b4 b5 b6 b7 d0 d1 d2 d3 d4 d5 d6 d7 hb1 B1 hgb
  have hvl : q.vars.length ≤ 400 := by unfold allQ cntQ at hall; omega
  have hpl : q.pats.length ≤ 400 := by unfold allQ cntQ at hall; omega
  have hfl : q.fils.length ≤ 400 := by unfold allQ cntQ at hall; omega
  have hol : q.ord.length ≤ 400 := by unfold allQ cntQ at hall; omega
  have hcp : ∀ V, Below W.heap.size W V → Calls Tryz.prog 14 #[.agg #[.bool q.ask, .bool q.dist, .slice a1 q.vars.length c1, .slice a2 q.pats.length c2, .slice a3 q.fils.length c3, .slice a4 q.ord.length c4, .int .i64 q.lim, .int .i64 q.off]] V (CpQ n q.ask q.dist q.lim q.off q.vars q.pats q.fils q.ord V) := fun V hV => by
    obtain ⟨_, _, _, _, r1, r2, r3, r4⟩ := (HQ.out.later (below_tr HB0.out hV)).spell
    exact kitCopyRun n q.ask q.dist q.lim q.off q.vars q.pats q.fils q.ord a1 a2 a3 a4 c1 c2 c3 c4 V r1 ((RdL.flatC (f := cPat) (sz := 15) fun _ => rfl).1 r2) r3 ((RdL.flatC (f := cKey) (sz := 2) fun _ => rfl).1 r4) (by omega) (by omega) (by omega) (by omega) he
  have hQi : (Tryz.prog.info? 27).map (·.size) = some 8 := by kernel_rfl
  have HB2W := Lib.hid hBb
  go_wp2_with fail
  refine (hcp w2 HB2W.out).mono ?_
  rintro e w3 ⟨x1, x2, x3, x4, y1, y2, y3, y4, rfl, ⟨o1, o2, o3, o4⟩, r1, r2, r3, r4, -, -, hb3⟩
  have hbox := BoxQ.made (n := n) (q := q) (w := w3) ⟨x1, x2, x3, x4, y1, y2, y3, y4, rfl, ⟨o1, o2, o3, o4⟩, r1, (RdL.flatC (f := cPat) (sz := 15) fun _ => rfl).2 r2, r3, (RdL.flatC (f := cKey) (sz := 2) fun _ => rfl).2 r4⟩
  have B3 := hBb.trans (hb3.mono hBb.size)
  have B4 : Below W.heap.size W ((w3.alloc (.cells #[.bool false, .bool false, .slice none 0 0, .slice none 0 0, .slice none 0 0, .slice none 0 0, .int .i64 0, .int .i64 0] 27)).setRow w3.heap.size #[.bool q.ask, .bool q.dist, .slice x1 q.vars.length y1, .slice x2 q.pats.length y2, .slice x3 q.fils.length y3, .slice x4 q.ord.length y4, .int .i64 q.lim, .int .i64 q.off]) := B3.trans (below_setRow ((Below.refl _ _).alloc B3.size _) B3.size _)
  have hBx : W.heap.size ≤ w3.heap.size := B3.size
  obtain ⟨w4, hw4⟩ : ∃ V, (w3.alloc (.cells #[.bool false, .bool false, .slice none 0 0, .slice none 0 0, .slice none 0 0, .slice none 0 0, .int .i64 0, .int .i64 0] 27)).setRow w3.heap.size #[.bool q.ask, .bool q.dist, .slice x1 q.vars.length y1, .slice x2 q.pats.length y2, .slice x3 q.fils.length y3, .slice x4 q.ord.length y4, .int .i64 q.lim, .int .i64 q.off] = V := ⟨_, rfl⟩
  rw [hw4] at hbox B4
  have Hw4 := Lib.hid hw4
  obtain ⟨Bx, hBxe⟩ : ∃ b, w3.heap.size = b := ⟨_, rfl⟩
  have HBxe := Lib.hid hBxe
  rw [hBxe] at hbox hBx
  have Hbox := Lib.hid hbox
  have HB4 := Lib.hid B4
  clear hw4 hBxe e0 e1 e2 e3 e4 e5 e6 e7 r1 r2 r3 r4 hb2 hb3 B3 B4 hBb hbox
  have p0 := cell_on (HX.out 0 (.bool q.ask) rfl) HB4.out
  have p1 := cell_on (HX.out 1 (.bool q.dist) rfl) HB4.out
  have p2 := cell_on (HX.out 2 (.slice a1 q.vars.length c1) rfl) HB4.out
  have p3 := cell_on (HX.out 3 (.slice a2 q.pats.length c2) rfl) HB4.out
  have p4 := cell_on (HX.out 4 (.slice a3 q.fils.length c3) rfl) HB4.out
  have p5 := cell_on (HX.out 5 (.slice a4 q.ord.length c4) rfl) HB4.out
  have p6 := cell_on (HX.out 6 (.int .i64 q.lim) rfl) HB4.out
  have p7 := cell_on (HX.out 7 (.int .i64 q.off) rfl) HB4.out
  go_wp2_with (refine wpList_store_row rfl 27 _ _ rfl rfl rfl hQi (heap_alloc_new _ _) rfl rfl ?_; rw [Hw4.out]; simp only [HBxe.out])
  refine (kitPick tn ((q.pats.length : Int) + 1) w4 (by omega) (by omega)).mono ?_
  rintro e wq ⟨kk, rfl, hkk, rfl⟩
  have hkk2 : (kk : Int) ≤ q.pats.length := by omega
  have hkk3 := Hbox.out.le2
  have hkk4 : (q.pats.length : Int) ≤ y2 := by omega
  have hkk5 : kk ≤ q.pats.length := by omega
  go_upto_region 7 with (fail)
  go_cut [8] from 27 to 38 (fun s8 wx => s8 = .int .i64 kk ∧ Below W.heap.size W wx ∧ ∃ (A : Option Addr) (c : Nat), BoxQ n wx Bx { q with pats := rot kk q.pats } x1 A x3 x4 y1 c y3 y4)
  case first =>
    rename_i hJ hM
    refine Rl.wp_region_st w4.heap.size 12 _ [(true, [1, 2, 3, 4, 6, 7, 8, 9]), (false, [0]), (false, [5]), (false, [10]), (true, [11])] _ (by kernel_rfl) (by kernel_rfl) rfl (by simp only [List.map_cons, List.map_nil, Rg.pickOps, List.getElem?_toArray, List.getElem?_cons_zero, List.getElem?_cons_succ, Option.getD_some]; rfl) ?_ (fun a w h => h)
    intro wd hbd hwz
    have l3 := cellL (Hbox.out.cell 3 (.slice x2 q.pats.length y2) rfl) hbd
    have hbx := Hbox.out.later hbd
    have hBlt : Bx < wd.heap.size := (Array.getElem?_eq_some_iff.1 hbx.row).1
    have e7 := RdL.partK (hbx.r2) hkk3 kk
    have e8 := RdL.cutK (hbx.r2) kk
    unfold subK at e7
    have Hbx := Lib.hid hbx
    have Hbd := Lib.hid hbd
    have hle : w4.heap.size ≤ wd.heap.size := hbd.size
    have Hwz := Lib.hid hwz
    clear hbd hbx hwz
    refine Rl.st_quiet ?_
    iterate 8 go_big_quiet_step (fail)
    (try simp only [Nat.mul_one] at e7 ⊢)
    generalize (if y2 = kk then x2 else Option.map (fun x => x.add (kk * 15)) x2) = A7 at e7 ⊢
    obtain ⟨xs7, hr7, ha7⟩ := e7
    obtain ⟨xs8, hr8, ha8⟩ := e8
    have l7 := ha7.len
    have l8 := ha8.len
    rw [List.length_drop] at l7
    rw [List.length_take, Nat.min_eq_left hkk5] at l8
    have on7 := ones_all ones_pat ha7
    have on8 := ones_all ones_pat ha8
    have q7 := hr7.cm CM.woB
    have q8 := hr8.cm CM.woB
    refine wpQuiet_nil (Rl.st_one ?_)
    clear l3
    go_wp2_with fail
    have z0 : Below w4.heap.size wd (wd.alloc (.cells #[] 51)) := (Below.refl _ _).alloc hle _
    have own0 : (wd.alloc (.cells #[] 51)).ownsRow w4.heap.size 51 15 (.slice (some ⟨wd.heap.size, 0, none⟩) 0 0) 0 ([] : List Value) :=
      ⟨rfl, .inr ⟨wd.heap.size, 0, #[], rfl, hle, heap_alloc_new wd _, Nat.le_refl _, by simp, rfl, rfl⟩⟩
    have z0' : Below wd.heap.size wd (wd.alloc (.cells #[] 51)) := (by repeat (first | exact Below.refl _ _ | assumption | exact (Below.refl _ _).alloc (Nat.le_refl _) _ | refine below_tr ?_ (by assumption) | refine below_alloc ?_ | refine below_tr ?_ (below_regrown _ _ _)))
    have q7' := q7.later z0'
    have q8' := q8.later z0'
    refine ⟨z0, Rl.st_one ?_⟩
    clear q7 q8
    go_wp2_with (at_builtin; refine wpList_appG rfl rfl Tryz.underlying23 patInfoC rfl (by omega) rfl own0 rfl q7' l7 on7 (by omega) (by omega) (by simp; omega) ?_; intro v5 w5 own5 hb5 hg5)
    refine ⟨hb5, Rl.st_one ?_⟩
    have hle5 : w4.heap.size ≤ w5.heap.size := Nat.le_trans hle (Nat.le_trans z0'.size hg5.size)
    have q85 : Rd w5 x2 xs8 := by
      have hq := hr8.cm (CM.woB.trans (CM.of_below (z0'.trans (hb5.mono (by rw [Hwz.out]; exact Nat.le_refl _)))))
      exact hq
    clear own0 q7' q8'
    go_wp2_with (at_builtin; refine wpList_appG rfl rfl Tryz.underlying23 patInfoC rfl (by omega) rfl own5 rfl q85 l8 on8 (by omega) (by omega) hle5 ?_; intro v6 w6 own6 hb6 hg6)
    refine ⟨hb6, Rl.st_quiet ?_⟩
    go_frame
    iterate 1 go_big_quiet_step (fail)
    have hB6 : Below wd.heap.size wd w6 := z0'.trans ((hb5.trans hb6).mono (by rw [Hwz.out]; exact Nat.le_refl _))
    have hbx6 := Hbx.out.later hB6
    have hn6 : 0 + (q.pats.length - kk) + kk = q.pats.length := by omega
    rw [hn6, List.nil_append] at own6
    obtain ⟨A6, m6, rfl, hm6, r6⟩ := own_slice (own_wo (B := Bx) own6 (by rw [← Hwz.out]; exact hBlt))
    have hR6 : RdPat (wo (hB Bx) w6) A6 (rot kk q.pats) := ⟨xs7 ++ xs8, r6, All.append (ha7.mono (fun _ _ _ h => h)) (ha8.mono (fun _ _ _ h => h))⟩
    have hset := hbx6.set_pats (l := rot kk q.pats) (by rw [rot_len]; exact hm6) hR6
    rw [rot_len] at hset
    have c6 := hbx6.cell 3 (.slice x2 q.pats.length y2) rfl
    have fz := hbx6.fr 3
    have HB6 := Lib.hid ((HB4.out.trans ((Hbd.out.trans (hB6.mono Hbd.out.size)).mono HB4.out.size)).setCell (p := ⟨Bx, 3, none⟩) hBx (.slice A6 q.pats.length m6))
    refine wpQuiet_nil (Rl.st_last ?_)
    clear hr7 hr8 ha7 ha8 own5 own6 r6 hR6 hbx6
    go_wp2
    refine Met.intro (hJ _ _ ?_)
    (repeat apply Exists.intro)
    exact ⟨⟨rfl, HB6.out, A6, m6, hset⟩, rfl⟩
  obtain ⟨rfl, hBn, X1, Y1, hbn⟩ := hcut
  obtain ⟨wz1, hwz1⟩ : ∃ V, V = wc := ⟨_, rfl⟩
  subst hwz1
  clear p0 p1 p2 p3 p4 p5 p6 p7 hkk hkk2 hkk3 hkk4
  have HBW1 := Lib.hid hBn
  have Hb1 := Lib.hid hbn
  have p0 := cell_on (HX.out 0 (.bool q.ask) rfl) HBW1.out
  have p1 := cell_on (HX.out 1 (.bool q.dist) rfl) HBW1.out
  have p2 := cell_on (HX.out 2 (.slice a1 q.vars.length c1) rfl) HBW1.out
  have p3 := cell_on (HX.out 3 (.slice a2 q.pats.length c2) rfl) HBW1.out
  have p4 := cell_on (HX.out 4 (.slice a3 q.fils.length c3) rfl) HBW1.out
  have p5 := cell_on (HX.out 5 (.slice a4 q.ord.length c4) rfl) HBW1.out
  have p6 := cell_on (HX.out 6 (.int .i64 q.lim) rfl) HBW1.out
  have p7 := cell_on (HX.out 7 (.int .i64 q.off) rfl) HBW1.out
  clear hBn hbn
  go_wp2_with fail
  refine (kitPick _ ((q.fils.length : Int) + 1) wz1 (by omega) (by omega)).mono ?_
  rintro e wq ⟨kf, rfl, hkf, rfl⟩
  have hkf2 : (kf : Int) ≤ q.fils.length := by omega
  have hkf3 := Hb1.out.le3
  have hkf4 : (q.fils.length : Int) ≤ y3 := by omega
  have hkf5 : kf ≤ q.fils.length := by omega
  go_upto_region 9 with (fail)
  go_cut [9] from 46 to 57 (fun s8 wx => s8 = .int .i64 kf ∧ Below W.heap.size W wx ∧ ∃ (A : Option Addr) (c : Nat), BoxQ n wx Bx { q with pats := rot kk q.pats, fils := rot kf q.fils } x1 X1 A x4 y1 Y1 c y4)
  case first =>
    rename_i hJ hM
    refine Rl.wp_region_st wz1.heap.size 12 _ [(true, [1, 2, 3, 4, 6, 7, 8, 9]), (false, [0]), (false, [5]), (false, [10]), (true, [11])] _ (by kernel_rfl) (by kernel_rfl) rfl (by simp only [List.map_cons, List.map_nil, Rg.pickOps, List.getElem?_toArray, List.getElem?_cons_zero, List.getElem?_cons_succ, Option.getD_some]; rfl) ?_ (fun a w h => h)
    intro wd hbd hwz
    have l3 := cellL (Hb1.out.cell 4 (.slice x3 q.fils.length y3) rfl) hbd
    have hbx := Hb1.out.later hbd
    have hBlt : Bx < wd.heap.size := (Array.getElem?_eq_some_iff.1 hbx.row).1
    have e7 := RdL.partK (hbx.r3) hkf3 kf
    have e8 := RdL.cutK (hbx.r3) kf
    unfold subK at e7
    have Hbx := Lib.hid hbx
    have Hbd := Lib.hid hbd
    have hle : wz1.heap.size ≤ wd.heap.size := hbd.size
    have Hwz := Lib.hid hwz
    clear hbd hbx hwz
    refine Rl.st_quiet ?_
    iterate 8 go_big_quiet_step (fail)
    (try simp only [Nat.mul_one] at e7 ⊢)
    generalize (if y3 = kf then x3 else Option.map (fun x => x.add (kf * 7)) x3) = A7 at e7 ⊢
    obtain ⟨xs7, hr7, ha7⟩ := e7
    obtain ⟨xs8, hr8, ha8⟩ := e8
    have l7 := ha7.len
    have l8 := ha8.len
    rw [List.length_drop] at l7
    rw [List.length_take, Nat.min_eq_left hkf5] at l8
    have on7 := ones_all (ones_expr n _) ha7
    have on8 := ones_all (ones_expr n _) ha8
    have q7 := hr7.cm CM.woB
    have q8 := hr8.cm CM.woB
    refine wpQuiet_nil (Rl.st_one ?_)
    clear l3
    go_wp2_with fail
    have z0 : Below wz1.heap.size wd (wd.alloc (.cells #[] 38)) := (Below.refl _ _).alloc hle _
    have own0 : (wd.alloc (.cells #[] 38)).ownsRow wz1.heap.size 38 7 (.slice (some ⟨wd.heap.size, 0, none⟩) 0 0) 0 ([] : List Value) :=
      ⟨rfl, .inr ⟨wd.heap.size, 0, #[], rfl, hle, heap_alloc_new wd _, Nat.le_refl _, by simp, rfl, rfl⟩⟩
    have z0' : Below wd.heap.size wd (wd.alloc (.cells #[] 38)) := (by repeat (first | exact Below.refl _ _ | assumption | exact (Below.refl _ _).alloc (Nat.le_refl _) _ | refine below_tr ?_ (by assumption) | refine below_alloc ?_ | refine below_tr ?_ (below_regrown _ _ _)))
    have q7' := q7.later z0'
    have q8' := q8.later z0'
    refine ⟨z0, Rl.st_one ?_⟩
    clear q7 q8
    go_wp2_with (at_builtin; refine wpList_appG rfl rfl Tryz.underlying24 exprInfoC rfl (by omega) rfl own0 rfl q7' l7 on7 (by omega) (by omega) (by simp; omega) ?_; intro v5 w5 own5 hb5 hg5)
    refine ⟨hb5, Rl.st_one ?_⟩
    have hle5 : wz1.heap.size ≤ w5.heap.size := Nat.le_trans hle (Nat.le_trans z0'.size hg5.size)
    have q85 : Rd w5 x3 xs8 := by
      have hq := hr8.cm (CM.woB.trans (CM.of_below (z0'.trans (hb5.mono (by rw [Hwz.out]; exact Nat.le_refl _)))))
      exact hq
    clear own0 q7' q8'
    go_wp2_with (at_builtin; refine wpList_appG rfl rfl Tryz.underlying24 exprInfoC rfl (by omega) rfl own5 rfl q85 l8 on8 (by omega) (by omega) hle5 ?_; intro v6 w6 own6 hb6 hg6)
    refine ⟨hb6, Rl.st_quiet ?_⟩
    go_frame
    iterate 1 go_big_quiet_step (fail)
    have hB6 : Below wd.heap.size wd w6 := z0'.trans ((hb5.trans hb6).mono (by rw [Hwz.out]; exact Nat.le_refl _))
    have hbx6 := Hbx.out.later hB6
    have hn6 : 0 + (q.fils.length - kf) + kf = q.fils.length := by omega
    rw [hn6, List.nil_append] at own6
    obtain ⟨A6, m6, rfl, hm6, r6⟩ := own_slice (own_wo (B := Bx) own6 (by rw [← Hwz.out]; exact hBlt))
    have hR6 : RdEs n (wo (hB Bx) w6) A6 (rot kf q.fils) := ⟨xs7 ++ xs8, r6, All.append (ha7.mono (fun _ _ _ h => h.cm (CM.woBelow hB6))) (ha8.mono (fun _ _ _ h => h.cm (CM.woBelow hB6)))⟩
    have hset := hbx6.set_fils (l := rot kf q.fils) (by rw [rot_len]; exact hm6) hR6
    rw [rot_len] at hset
    have c6 := hbx6.cell 4 (.slice x3 q.fils.length y3) rfl
    have fz := hbx6.fr 4
    have HB6 := Lib.hid ((HBW1.out.trans ((Hbd.out.trans (hB6.mono Hbd.out.size)).mono HBW1.out.size)).setCell (p := ⟨Bx, 4, none⟩) hBx (.slice A6 q.fils.length m6))
    refine wpQuiet_nil (Rl.st_last ?_)
    clear hr7 hr8 ha7 ha8 own5 own6 r6 hR6 hbx6
    go_wp2
    refine Met.intro (hJ _ _ ?_)
    (repeat apply Exists.intro)
    exact ⟨⟨rfl, HB6.out, A6, m6, hset⟩, rfl⟩
  obtain ⟨rfl, hBn, X2, Y2, hbn⟩ := hcut
  obtain ⟨wz2, hwz2⟩ : ∃ V, V = wc := ⟨_, rfl⟩
  subst hwz2
  clear p0 p1 p2 p3 p4 p5 p6 p7 hkf hkf2 hkf3 hkf4
  have HBW2 := Lib.hid hBn
  have Hb2 := Lib.hid hbn
  have p0 := cell_on (HX.out 0 (.bool q.ask) rfl) HBW2.out
  have p1 := cell_on (HX.out 1 (.bool q.dist) rfl) HBW2.out
  have p2 := cell_on (HX.out 2 (.slice a1 q.vars.length c1) rfl) HBW2.out
  have p3 := cell_on (HX.out 3 (.slice a2 q.pats.length c2) rfl) HBW2.out
  have p4 := cell_on (HX.out 4 (.slice a3 q.fils.length c3) rfl) HBW2.out
  have p5 := cell_on (HX.out 5 (.slice a4 q.ord.length c4) rfl) HBW2.out
  have p6 := cell_on (HX.out 6 (.int .i64 q.lim) rfl) HBW2.out
  have p7 := cell_on (HX.out 7 (.int .i64 q.off) rfl) HBW2.out
  clear hBn hbn
  go_wp2_with fail
  refine (kitPick _ ((q.ord.length : Int) + 1) wz2 (by omega) (by omega)).mono ?_
  rintro e wq ⟨ko, rfl, hko, rfl⟩
  have hko2 : (ko : Int) ≤ q.ord.length := by omega
  have hko3 := Hb2.out.le4
  have hko4 : (q.ord.length : Int) ≤ y4 := by omega
  have hko5 : ko ≤ q.ord.length := by omega
  go_upto_region 11 with (fail)
  go_cut [10] from 65 to 76 (fun s8 wx => s8 = .int .i64 ko ∧ Below W.heap.size W wx ∧ ∃ (A : Option Addr) (c : Nat), BoxQ n wx Bx { q with pats := rot kk q.pats, fils := rot kf q.fils, ord := rot ko q.ord } x1 X1 X2 A y1 Y1 Y2 c)
  case first =>
    rename_i hJ hM
    refine Rl.wp_region_st wz2.heap.size 12 _ [(true, [1, 2, 3, 4, 6, 7, 8, 9]), (false, [0]), (false, [5]), (false, [10]), (true, [11])] _ (by kernel_rfl) (by kernel_rfl) rfl (by simp only [List.map_cons, List.map_nil, Rg.pickOps, List.getElem?_toArray, List.getElem?_cons_zero, List.getElem?_cons_succ, Option.getD_some]; rfl) ?_ (fun a w h => h)
    intro wd hbd hwz
    have l3 := cellL (Hb2.out.cell 5 (.slice x4 q.ord.length y4) rfl) hbd
    have hbx := Hb2.out.later hbd
    have hBlt : Bx < wd.heap.size := (Array.getElem?_eq_some_iff.1 hbx.row).1
    have e7 := RdL.partK (hbx.r4) hko3 ko
    have e8 := RdL.cutK (hbx.r4) ko
    unfold subK at e7
    have Hbx := Lib.hid hbx
    have Hbd := Lib.hid hbd
    have hle : wz2.heap.size ≤ wd.heap.size := hbd.size
    have Hwz := Lib.hid hwz
    clear hbd hbx hwz
    refine Rl.st_quiet ?_
    iterate 8 go_big_quiet_step (fail)
    (try simp only [Nat.mul_one] at e7 ⊢)
    generalize (if y4 = ko then x4 else Option.map (fun x => x.add (ko * 2)) x4) = A7 at e7 ⊢
    obtain ⟨xs7, hr7, ha7⟩ := e7
    obtain ⟨xs8, hr8, ha8⟩ := e8
    have l7 := ha7.len
    have l8 := ha8.len
    rw [List.length_drop] at l7
    rw [List.length_take, Nat.min_eq_left hko5] at l8
    have on7 := ones_all ones_key ha7
    have on8 := ones_all ones_key ha8
    have q7 := hr7.cm CM.woB
    have q8 := hr8.cm CM.woB
    refine wpQuiet_nil (Rl.st_one ?_)
    clear l3
    go_wp2_with fail
    have z0 : Below wz2.heap.size wd (wd.alloc (.cells #[] 66)) := (Below.refl _ _).alloc hle _
    have own0 : (wd.alloc (.cells #[] 66)).ownsRow wz2.heap.size 66 2 (.slice (some ⟨wd.heap.size, 0, none⟩) 0 0) 0 ([] : List Value) :=
      ⟨rfl, .inr ⟨wd.heap.size, 0, #[], rfl, hle, heap_alloc_new wd _, Nat.le_refl _, by simp, rfl, rfl⟩⟩
    have z0' : Below wd.heap.size wd (wd.alloc (.cells #[] 66)) := (by repeat (first | exact Below.refl _ _ | assumption | exact (Below.refl _ _).alloc (Nat.le_refl _) _ | refine below_tr ?_ (by assumption) | refine below_alloc ?_ | refine below_tr ?_ (below_regrown _ _ _)))
    have q7' := q7.later z0'
    have q8' := q8.later z0'
    refine ⟨z0, Rl.st_one ?_⟩
    clear q7 q8
    go_wp2_with (at_builtin; refine wpList_appG rfl rfl Tryz.underlying25 keyInfoC rfl (by omega) rfl own0 rfl q7' l7 on7 (by omega) (by omega) (by simp; omega) ?_; intro v5 w5 own5 hb5 hg5)
    refine ⟨hb5, Rl.st_one ?_⟩
    have hle5 : wz2.heap.size ≤ w5.heap.size := Nat.le_trans hle (Nat.le_trans z0'.size hg5.size)
    have q85 : Rd w5 x4 xs8 := by
      have hq := hr8.cm (CM.woB.trans (CM.of_below (z0'.trans (hb5.mono (by rw [Hwz.out]; exact Nat.le_refl _)))))
      exact hq
    clear own0 q7' q8'
    go_wp2_with (at_builtin; refine wpList_appG rfl rfl Tryz.underlying25 keyInfoC rfl (by omega) rfl own5 rfl q85 l8 on8 (by omega) (by omega) hle5 ?_; intro v6 w6 own6 hb6 hg6)
    refine ⟨hb6, Rl.st_quiet ?_⟩
    go_frame
    iterate 1 go_big_quiet_step (fail)
    have hB6 : Below wd.heap.size wd w6 := z0'.trans ((hb5.trans hb6).mono (by rw [Hwz.out]; exact Nat.le_refl _))
    have hbx6 := Hbx.out.later hB6
    have hn6 : 0 + (q.ord.length - ko) + ko = q.ord.length := by omega
    rw [hn6, List.nil_append] at own6
    obtain ⟨A6, m6, rfl, hm6, r6⟩ := own_slice (own_wo (B := Bx) own6 (by rw [← Hwz.out]; exact hBlt))
    have hR6 : RdKey (wo (hB Bx) w6) A6 (rot ko q.ord) := ⟨xs7 ++ xs8, r6, All.append (ha7.mono (fun _ _ _ h => h)) (ha8.mono (fun _ _ _ h => h))⟩
    have hset := hbx6.set_ord (l := rot ko q.ord) (by rw [rot_len]; exact hm6) hR6
    rw [rot_len] at hset
    have c6 := hbx6.cell 5 (.slice x4 q.ord.length y4) rfl
    have fz := hbx6.fr 5
    have HB6 := Lib.hid ((HBW2.out.trans ((Hbd.out.trans (hB6.mono Hbd.out.size)).mono HBW2.out.size)).setCell (p := ⟨Bx, 5, none⟩) hBx (.slice A6 q.ord.length m6))
    refine wpQuiet_nil (Rl.st_last ?_)
    clear hr7 hr8 ha7 ha8 own5 own6 r6 hR6 hbx6
    go_wp2
    refine Met.intro (hJ _ _ ?_)
    (repeat apply Exists.intro)
    exact ⟨⟨rfl, HB6.out, A6, m6, hset⟩, rfl⟩
  obtain ⟨rfl, hBn, X3, Y3, hbn⟩ := hcut
  obtain ⟨wz3, hwz3⟩ : ∃ V, V = wc := ⟨_, rfl⟩
  subst hwz3
  clear p0 p1 p2 p3 p4 p5 p6 p7 hko hko2 hko3 hko4
  have HBW3 := Lib.hid hBn
  have Hb3 := Lib.hid hbn
  have p0 := cell_on (HX.out 0 (.bool q.ask) rfl) HBW3.out
  have p1 := cell_on (HX.out 1 (.bool q.dist) rfl) HBW3.out
  have p2 := cell_on (HX.out 2 (.slice a1 q.vars.length c1) rfl) HBW3.out
  have p3 := cell_on (HX.out 3 (.slice a2 q.pats.length c2) rfl) HBW3.out
  have p4 := cell_on (HX.out 4 (.slice a3 q.fils.length c3) rfl) HBW3.out
  have p5 := cell_on (HX.out 5 (.slice a4 q.ord.length c4) rfl) HBW3.out
  have p6 := cell_on (HX.out 6 (.int .i64 q.lim) rfl) HBW3.out
  have p7 := cell_on (HX.out 7 (.int .i64 q.off) rfl) HBW3.out
  clear hBn hbn
  go_wp2_with fail
  refine (kitPick _ ((q.vars.length : Int) + 1) wz3 (by omega) (by omega)).mono ?_
  rintro e wq ⟨kv, rfl, hkv, rfl⟩
  have hkv2 : (kv : Int) ≤ q.vars.length := by omega
  have hkv3 := Hb3.out.le1
  have hkv4 : (q.vars.length : Int) ≤ y1 := by omega
  have hkv5 : kv ≤ q.vars.length := by omega
  go_upto_region 13 with (fail)
  go_cut [11] from 84 to 95 (fun s8 wx => s8 = .int .i64 kv ∧ Below W.heap.size W wx ∧ ∃ (A : Option Addr) (c : Nat), BoxQ n wx Bx { q with pats := rot kk q.pats, fils := rot kf q.fils, ord := rot ko q.ord, vars := rot kv q.vars } A X1 X2 X3 c Y1 Y2 Y3)
  case first =>
    rename_i hJ hM
    refine Rl.wp_region_st wz3.heap.size 12 _ [(true, [1, 2, 3, 4, 6, 7, 8, 9]), (false, [0]), (false, [5]), (false, [10]), (true, [11])] _ (by kernel_rfl) (by kernel_rfl) rfl (by simp only [List.map_cons, List.map_nil, Rg.pickOps, List.getElem?_toArray, List.getElem?_cons_zero, List.getElem?_cons_succ, Option.getD_some]; rfl) ?_ (fun a w h => h)
    intro wd hbd hwz
    have l3 := cellL (Hb3.out.cell 2 (.slice x1 q.vars.length y1) rfl) hbd
    have hbx := Hb3.out.later hbd
    have hBlt : Bx < wd.heap.size := (Array.getElem?_eq_some_iff.1 hbx.row).1
    have e7 := RdL.partK (hbx.r1) hkv3 kv
    have e8 := RdL.cutK (hbx.r1) kv
    unfold subK at e7
    have Hbx := Lib.hid hbx
    have Hbd := Lib.hid hbd
    have hle : wz3.heap.size ≤ wd.heap.size := hbd.size
    have Hwz := Lib.hid hwz
    clear hbd hbx hwz
    refine Rl.st_quiet ?_
    iterate 8 go_big_quiet_step (fail)
    (try simp only [Nat.mul_one] at e7 ⊢)
    generalize (if y1 = kv then x1 else Option.map (fun x => x.add kv) x1) = A7 at e7 ⊢
    obtain ⟨xs7, hr7, ha7⟩ := e7
    obtain ⟨xs8, hr8, ha8⟩ := e8
    have l7 := ha7.len
    have l8 := ha8.len
    rw [List.length_drop] at l7
    rw [List.length_take, Nat.min_eq_left hkv5] at l8
    have on7 := ones_all ones_str ha7
    have on8 := ones_all ones_str ha8
    have q7 := hr7.cm CM.woB
    have q8 := hr8.cm CM.woB
    refine wpQuiet_nil (Rl.st_one ?_)
    clear l3
    go_wp2_with fail
    have z0 : Below wz3.heap.size wd (wd.alloc (.cells #[] 9)) := (Below.refl _ _).alloc hle _
    have own0 : (wd.alloc (.cells #[] 9)).ownsRow wz3.heap.size 9 1 (.slice (some ⟨wd.heap.size, 0, none⟩) 0 0) 0 ([] : List Value) :=
      ⟨rfl, .inr ⟨wd.heap.size, 0, #[], rfl, hle, heap_alloc_new wd _, Nat.le_refl _, by simp, rfl, rfl⟩⟩
    have z0' : Below wd.heap.size wd (wd.alloc (.cells #[] 9)) := (by repeat (first | exact Below.refl _ _ | assumption | exact (Below.refl _ _).alloc (Nat.le_refl _) _ | refine below_tr ?_ (by assumption) | refine below_alloc ?_ | refine below_tr ?_ (below_regrown _ _ _)))
    have q7' := q7.later z0'
    have q8' := q8.later z0'
    refine ⟨z0, Rl.st_one ?_⟩
    clear q7 q8
    go_wp2_with (at_builtin; refine wpList_appG rfl rfl Tryz.underlying22 stringInfo' rfl (by omega) rfl own0 rfl q7' l7 on7 (by omega) (by omega) (by simp; omega) ?_; intro v5 w5 own5 hb5 hg5)
    refine ⟨hb5, Rl.st_one ?_⟩
    have hle5 : wz3.heap.size ≤ w5.heap.size := Nat.le_trans hle (Nat.le_trans z0'.size hg5.size)
    have q85 : Rd w5 x1 xs8 := by
      have hq := hr8.cm (CM.woB.trans (CM.of_below (z0'.trans (hb5.mono (by rw [Hwz.out]; exact Nat.le_refl _)))))
      exact hq
    clear own0 q7' q8'
    go_wp2_with (at_builtin; refine wpList_appG rfl rfl Tryz.underlying22 stringInfo' rfl (by omega) rfl own5 rfl q85 l8 on8 (by omega) (by omega) hle5 ?_; intro v6 w6 own6 hb6 hg6)
    refine ⟨hb6, Rl.st_quiet ?_⟩
    go_frame
    iterate 1 go_big_quiet_step (fail)
    have hB6 : Below wd.heap.size wd w6 := z0'.trans ((hb5.trans hb6).mono (by rw [Hwz.out]; exact Nat.le_refl _))
    have hbx6 := Hbx.out.later hB6
    have hn6 : 0 + (q.vars.length - kv) + kv = q.vars.length := by omega
    rw [hn6, List.nil_append] at own6
    obtain ⟨A6, m6, rfl, hm6, r6⟩ := own_slice (own_wo (B := Bx) own6 (by rw [← Hwz.out]; exact hBlt))
    have hR6 : RdStr (wo (hB Bx) w6) A6 (rot kv q.vars) := ⟨xs7 ++ xs8, r6, All.append (ha7.mono (fun _ _ _ h => h)) (ha8.mono (fun _ _ _ h => h))⟩
    have hset := hbx6.set_vars (l := rot kv q.vars) (by rw [rot_len]; exact hm6) hR6
    rw [rot_len] at hset
    have c6 := hbx6.cell 2 (.slice x1 q.vars.length y1) rfl
    have fz := hbx6.fr 2
    have HB6 := Lib.hid ((HBW3.out.trans ((Hbd.out.trans (hB6.mono Hbd.out.size)).mono HBW3.out.size)).setCell (p := ⟨Bx, 2, none⟩) hBx (.slice A6 q.vars.length m6))
    refine wpQuiet_nil (Rl.st_last ?_)
    clear hr7 hr8 ha7 ha8 own5 own6 r6 hR6 hbx6
    go_wp2
    refine Met.intro (hJ _ _ ?_)
    (repeat apply Exists.intro)
    exact ⟨⟨rfl, HB6.out, A6, m6, hset⟩, rfl⟩
  obtain ⟨rfl, hBn, X4, Y4, hbn⟩ := hcut
  obtain ⟨wz4, hwz4⟩ : ∃ V, V = wc := ⟨_, rfl⟩
  subst hwz4
  clear p0 p1 p2 p3 p4 p5 p6 p7 hkv hkv2 hkv3 hkv4
  have HBW4 := Lib.hid hBn
  have Hb4 := Lib.hid hbn
  have p0 := cell_on (HX.out 0 (.bool q.ask) rfl) HBW4.out
  have p1 := cell_on (HX.out 1 (.bool q.dist) rfl) HBW4.out
  have p2 := cell_on (HX.out 2 (.slice a1 q.vars.length c1) rfl) HBW4.out
  have p3 := cell_on (HX.out 3 (.slice a2 q.pats.length c2) rfl) HBW4.out
  have p4 := cell_on (HX.out 4 (.slice a3 q.fils.length c3) rfl) HBW4.out
  have p5 := cell_on (HX.out 5 (.slice a4 q.ord.length c4) rfl) HBW4.out
  have p6 := cell_on (HX.out 6 (.int .i64 q.lim) rfl) HBW4.out
  have p7 := cell_on (HX.out 7 (.int .i64 q.off) rfl) HBW4.out
  clear hBn hbn
  go_wp2_with fail
  obtain ⟨q4, hq4⟩ : ∃ z, turnQ q kk kf ko kv = z := ⟨_, rfl⟩
  have hb4 : BoxQ n wz4 Bx q4 X4 X1 X2 X3 Y4 Y1 Y2 Y3 := by rw [← hq4]; exact Hb4.out
  have hE4 : errOf q4 = errOf q := by rw [← hq4]; exact err_turn q kk kf ko kv
  have hF4 : fewQ q4 := by rw [← hq4]; exact few_turn hf kk kf ko kv
  have hZ4 : szQ q4 := by rw [← hq4]; exact szQ_turn hz kk kf ko kv
  clear hq4
  refine (cQueryQ n q a1 a2 a3 a4 c1 c2 c3 c4 wz4 (HC.out.step (below_tr HB0.out HBW4.out)) hf hz (HQ.out.later (below_tr HB0.out HBW4.out))).mono ?_
  rintro e w5 ⟨rfl, hb5⟩
  have hbx5 := hb4.later hb5
  have B5 := HBW4.out.trans (hb5.mono HBW4.out.size)
  have hQx := cQueryQ n q4 X4 X1 X2 X3 Y4 Y1 Y2 Y3 w5 (HC.out.step (below_tr HB0.out B5)) hF4 hZ4 hbx5.rdq
  rw [hE4] at hQx
  clear p0 p1 p2 p3 p4 p5 p6 p7
  have g0 := hbx5.cell 0 (.bool q4.ask) rfl
  have g1 := hbx5.cell 1 (.bool q4.dist) rfl
  have g2 := hbx5.cell 2 (.slice X4 q4.vars.length Y4) rfl
  have g3 := hbx5.cell 3 (.slice X1 q4.pats.length Y1) rfl
  have g4 := hbx5.cell 4 (.slice X2 q4.fils.length Y2) rfl
  have g5 := hbx5.cell 5 (.slice X3 q4.ord.length Y3) rfl
  have g6 := hbx5.cell 6 (.int .i64 q4.lim) rfl
  have g7 := hbx5.cell 7 (.int .i64 q4.off) rfl
  have p0 := cell_on (HX.out 0 (.bool q.ask) rfl) B5
  have p1 := cell_on (HX.out 1 (.bool q.dist) rfl) B5
  have p2 := cell_on (HX.out 2 (.slice a1 q.vars.length c1) rfl) B5
  have p3 := cell_on (HX.out 3 (.slice a2 q.pats.length c2) rfl) B5
  have p4 := cell_on (HX.out 4 (.slice a3 q.fils.length c3) rfl) B5
  have p5 := cell_on (HX.out 5 (.slice a4 q.ord.length c4) rfl) B5
  have p6 := cell_on (HX.out 6 (.int .i64 q.lim) rfl) B5
  have p7 := cell_on (HX.out 7 (.int .i64 q.off) rfl) B5
  have HB5 := Lib.hid B5
  clear hb5 hbx5 hb4 B5
  go_wp2_with fail
  refine hQx.mono ?_
  rintro e w6 ⟨rfl, hb6⟩
  have hne : (errOf q != errOf q) = false := by simp
  have HB6 := Lib.hid (HB5.out.trans (hb6.mono HB5.out.size))
  have hRq := qRight n q _ w6 (HC.out.step (below_tr HB0.out HB6.out)) (HQ.out.later (below_tr HB0.out HB6.out)) hz
  clear p0 p1 p2 p3 p4 p5 p6 p7 hQx hb6 g0 g1 g2 g3 g4 g5 g6 g7
  have p0 := cell_on (HX.out 0 (.bool q.ask) rfl) HB6.out
  have p1 := cell_on (HX.out 1 (.bool q.dist) rfl) HB6.out
  have p2 := cell_on (HX.out 2 (.slice a1 q.vars.length c1) rfl) HB6.out
  have p3 := cell_on (HX.out 3 (.slice a2 q.pats.length c2) rfl) HB6.out
  have p4 := cell_on (HX.out 4 (.slice a3 q.fils.length c3) rfl) HB6.out
  have p5 := cell_on (HX.out 5 (.slice a4 q.ord.length c4) rfl) HB6.out
  have p6 := cell_on (HX.out 6 (.int .i64 q.lim) rfl) HB6.out
  have p7 := cell_on (HX.out 7 (.int .i64 q.off) rfl) HB6.out
  cases hrq : rightQ q
  · have hE : errOf q = 2 := errOf_no hrq
    rw [hrq] at hRq
    simp only [hE]
    clear hne hE4
    go_wp2_with (refine hRq.mono ?_; rintro e w7 ⟨rfl, hb7⟩)
    go_ret
    exact ⟨rfl, below_tr (below_tr HB0.out HB6.out) hb7⟩
  rw [hrq] at hRq
  have hE2 : (errOf q == 2) = false := by rw [err_right, hrq]; rfl
  by_cases he0 : errOf q = 0
  case neg =>
    have hE0 : (errOf q != 0) = true := by simpa using he0
    clear he0
    go_wp2_with (refine hRq.mono ?_; rintro e w7 ⟨rfl, hb7⟩)
    go_ret
    exact ⟨rfl, below_tr (below_tr HB0.out HB6.out) hb7⟩
  clear hE2 hne
  simp only [he0]
  go_wp2_with (go_at_call 13; refine hRq.mono ?_; rintro e w7 ⟨rfl, hb7⟩; have P0 := cell_on p0 hb7; have P1 := cell_on p1 hb7; have P2 := cell_on p2 hb7; have P3 := cell_on p3 hb7; have P4 := cell_on p4 hb7; have P5 := cell_on p5 hb7; have P6 := cell_on p6 hb7; have P7 := cell_on p7 hb7)
  have HB7 := Lib.hid (HB6.out.trans (hb7.mono HB6.out.size))
  refine (hcp w7 HB7.out).mono ?_
  rintro e w8 ⟨u1, u2, u3, u4, v1, v2, v3, v4, rfl, ⟨o1, o2, o3, o4⟩, r1, r2, r3, r4, -, -, hb8⟩
  have hbox8 := BoxQ.made (n := n) (q := q) (w := w8) ⟨u1, u2, u3, u4, v1, v2, v3, v4, rfl, ⟨o1, o2, o3, o4⟩, r1, (RdL.flatC (f := cPat) (sz := 15) fun _ => rfl).2 r2, r3, (RdL.flatC (f := cKey) (sz := 2) fun _ => rfl).2 r4⟩
  have B8 := HB7.out.trans (hb8.mono HB7.out.size)
  have B9 : Below W.heap.size W ((w8.alloc (.cells #[.bool false, .bool false, .slice none 0 0, .slice none 0 0, .slice none 0 0, .slice none 0 0, .int .i64 0, .int .i64 0] 27)).setRow w8.heap.size #[.bool q.ask, .bool q.dist, .slice u1 q.vars.length v1, .slice u2 q.pats.length v2, .slice u3 q.fils.length v3, .slice u4 q.ord.length v4, .int .i64 q.lim, .int .i64 q.off]) := B8.trans (below_setRow ((Below.refl _ _).alloc B8.size _) B8.size _)
  have hBl : W.heap.size ≤ w8.heap.size := B8.size
  obtain ⟨w9, hw9⟩ : ∃ V, (w8.alloc (.cells #[.bool false, .bool false, .slice none 0 0, .slice none 0 0, .slice none 0 0, .slice none 0 0, .int .i64 0, .int .i64 0] 27)).setRow w8.heap.size #[.bool q.ask, .bool q.dist, .slice u1 q.vars.length v1, .slice u2 q.pats.length v2, .slice u3 q.fils.length v3, .slice u4 q.ord.length v4, .int .i64 q.lim, .int .i64 q.off] = V := ⟨_, rfl⟩
  rw [hw9] at hbox8 B9
  have Hw9 := Lib.hid hw9
  obtain ⟨Bl, hBle⟩ : ∃ b, w8.heap.size = b := ⟨_, rfl⟩
  have HBle := Lib.hid hBle
  rw [hBle] at hbox8 hBl
  have Hbox8 := Lib.hid hbox8
  have HB9 := Lib.hid B9
  clear hw9 hBle r1 r2 r3 r4 hb7 hb8 B8 B9 hbox8 p0 p1 p2 p3 p4 p5 p6 p7 P0 P1 P2 P3 P4 P5 P6 P7 hRq
  have p0 := cell_on (HX.out 0 (.bool q.ask) rfl) HB9.out
  have p1 := cell_on (HX.out 1 (.bool q.dist) rfl) HB9.out
  have p2 := cell_on (HX.out 2 (.slice a1 q.vars.length c1) rfl) HB9.out
  have p3 := cell_on (HX.out 3 (.slice a2 q.pats.length c2) rfl) HB9.out
  have p4 := cell_on (HX.out 4 (.slice a3 q.fils.length c3) rfl) HB9.out
  have p5 := cell_on (HX.out 5 (.slice a4 q.ord.length c4) rfl) HB9.out
  have p6 := cell_on (HX.out 6 (.int .i64 q.lim) rfl) HB9.out
  have p7 := cell_on (HX.out 7 (.int .i64 q.off) rfl) HB9.out
  have t0 := Hbox8.out.cell 0 (.bool q.ask) rfl
  have t1 := Hbox8.out.cell 1 (.bool q.dist) rfl
  have t2 := Hbox8.out.cell 2 (.slice u1 q.vars.length v1) rfl
  have t3 := Hbox8.out.cell 3 (.slice u2 q.pats.length v2) rfl
  have t4 := Hbox8.out.cell 4 (.slice u3 q.fils.length v3) rfl
  have t5 := Hbox8.out.cell 5 (.slice u4 q.ord.length v4) rfl
  have t6 := Hbox8.out.cell 6 (.int .i64 q.lim) rfl
  have t7 := Hbox8.out.cell 7 (.int .i64 q.off) rfl
  have f92 := Hbox8.out.fr 2
  have f94 := Hbox8.out.fr 4
  have f95 := Hbox8.out.fr 5
  have ho1 : (q.vars.length : Int) ≤ v1 := by omega
  have ho3 : (q.fils.length : Int) ≤ v3 := by omega
  have ho4 : (q.ord.length : Int) ≤ v4 := by omega
  have hvl' : (q.vars.length : Int) ≤ 400 := by omega
  have hfl' : (q.fils.length : Int) ≤ 400 := by omega
  have hol' : (q.ord.length : Int) ≤ 400 := by omega
  have hl0 : w.heap.size < Bl := by have := HsW.out; omega
  have hl1 : w.heap.size + 1 < Bl := by have := HsW.out; omega
  obtain ⟨mf, hmf⟩ : ∃ m, (max ((q.fils.length : Int) - 1) 0).toNat = m := ⟨_, rfl⟩
  obtain ⟨mo, hmo⟩ : ∃ m, (max ((q.ord.length : Int) - 1) 0).toNat = m := ⟨_, rfl⟩
  obtain ⟨mv, hmv⟩ : ∃ m, (max ((q.vars.length : Int) - 1) 0).toNat = m := ⟨_, rfl⟩
  have hmf1 : mf ≤ q.fils.length := by omega
  have hmo1 : mo ≤ q.ord.length := by omega
  have hmv1 : mv ≤ q.vars.length := by omega
  have Hmf := Lib.hid hmf
  have Hmo := Lib.hid hmo
  have Hmv := Lib.hid hmv
  clear hmf hmo hmv
  go_wp2_with (refine wpList_store_row rfl 27 _ _ rfl rfl rfl hQi (heap_alloc_new _ _) rfl rfl ?_; rw [Hw9.out]; simp only [HBle.out])
  simp only [Hmf.out, Hmo.out, Hmv.out]
  have tf : (q.fils.take mf).length = mf := by rw [List.length_take]; omega
  have t_o : (q.ord.take mo).length = mo := by rw [List.length_take]; omega
  have tv : (q.vars.take mv).length = mv := by rw [List.length_take]; omega
  have bl1 := Hbox8.out.set_fils (c := v3) (l := q.fils.take mf) (by omega) (RdL.cutK Hbox8.out.r3 mf)
  have bl2 := bl1.set_ord (c := v4) (l := q.ord.take mo) (by omega) (RdL.cutK bl1.r4 mo)
  have bl3 := bl2.set_vars (c := v1) (l := q.vars.take mv) (by omega) (RdL.cutK bl2.r1 mv)
  rw [tf, t_o, tv] at bl3
  obtain ⟨w10, hw10⟩ : ∃ V, ((w9.setCell ⟨Bl, 4, none⟩ (.slice u3 mf v3)).setCell ⟨Bl, 5, none⟩ (.slice u4 mo v4)).setCell ⟨Bl, 2, none⟩ (.slice u1 mv v1) = V := ⟨_, rfl⟩
  have B10 : Below W.heap.size W w10 := by
    rw [← hw10]
    exact ((HB9.out.setCell (p := ⟨Bl, 4, none⟩) hBl _).setCell (p := ⟨Bl, 5, none⟩) hBl _).setCell (p := ⟨Bl, 2, none⟩) hBl _
  have bl : BoxQ n w10 Bl (lessQ q mf mo mv) u1 u2 u3 u4 v1 v2 v3 v4 := by rw [← hw10]; exact bl3
  have Hw10 := Lib.hid hw10
  have Hbl := Lib.hid bl
  have HB10 := Lib.hid B10
  simp only [hw10]
  clear hw10 bl1 bl2 bl3 bl B10 t0 t1 t2 t3 t4 t5 t6 t7 p0 p1 p2 p3 p4 p5 p6 p7 f92 f94 f95 tf t_o tv
  refine (hcp w10 HB10.out).mono ?_
  rintro e w11 ⟨s1, s2, s3, s4, m1, m2, m3, m4, rfl, ⟨o1, o2, o3, o4⟩, r1, r2, r3, r4, O11, T11, hb11⟩
  have hbox11 := BoxQ.made (n := n) (q := q) (w := w11) ⟨s1, s2, s3, s4, m1, m2, m3, m4, rfl, ⟨o1, o2, o3, o4⟩, r1, (RdL.flatC (f := cPat) (sz := 15) fun _ => rfl).2 r2, r3, (RdL.flatC (f := cKey) (sz := 2) fun _ => rfl).2 r4⟩
  have B11 := HB10.out.trans (hb11.mono HB10.out.size)
  have B12 : Below W.heap.size W ((w11.alloc (.cells #[.bool false, .bool false, .slice none 0 0, .slice none 0 0, .slice none 0 0, .slice none 0 0, .int .i64 0, .int .i64 0] 27)).setRow w11.heap.size #[.bool q.ask, .bool q.dist, .slice s1 q.vars.length m1, .slice s2 q.pats.length m2, .slice s3 q.fils.length m3, .slice s4 q.ord.length m4, .int .i64 q.lim, .int .i64 q.off]) := B11.trans (below_setRow ((Below.refl _ _).alloc B11.size _) B11.size _)
  have C12 : Below w11.heap.size w11 ((w11.alloc (.cells #[.bool false, .bool false, .slice none 0 0, .slice none 0 0, .slice none 0 0, .slice none 0 0, .int .i64 0, .int .i64 0] 27)).setRow w11.heap.size #[.bool q.ask, .bool q.dist, .slice s1 q.vars.length m1, .slice s2 q.pats.length m2, .slice s3 q.fils.length m3, .slice s4 q.ord.length m4, .int .i64 q.lim, .int .i64 q.off]) := below_setRow ((Below.refl _ _).alloc (Nat.le_refl _) _) (Nat.le_refl _) _
  have hBy : W.heap.size ≤ w11.heap.size := B11.size
  have O12 : ((w11.alloc (.cells #[.bool false, .bool false, .slice none 0 0, .slice none 0 0, .slice none 0 0, .slice none 0 0, .int .i64 0, .int .i64 0] 27)).setRow w11.heap.size #[.bool q.ask, .bool q.dist, .slice s1 q.vars.length m1, .slice s2 q.pats.length m2, .slice s3 q.fils.length m3, .slice s4 q.ord.length m4, .int .i64 q.lim, .int .i64 q.off]).ownsRow w10.heap.size 51 15 (.slice s2 q.pats.length m2) q.pats.length (q.pats.flatMap cPat) := own_below (own_down O11 (Nat.le_add_right _ 2)) C12 (Nat.le_refl _)
  obtain ⟨w12, hw12⟩ : ∃ V, (w11.alloc (.cells #[.bool false, .bool false, .slice none 0 0, .slice none 0 0, .slice none 0 0, .slice none 0 0, .int .i64 0, .int .i64 0] 27)).setRow w11.heap.size #[.bool q.ask, .bool q.dist, .slice s1 q.vars.length m1, .slice s2 q.pats.length m2, .slice s3 q.fils.length m3, .slice s4 q.ord.length m4, .int .i64 q.lim, .int .i64 q.off] = V := ⟨_, rfl⟩
  have hs12 : w12.heap.size = w11.heap.size + 1 := by rw [← hw12]; simp
  rw [hw12] at hbox11 B12 C12 O12
  have Hw12 := Lib.hid hw12
  have Hbox12 := Lib.hid hbox11
  have HB12 := Lib.hid B12
  have HC12 := Lib.hid C12
  have Hb11 := Lib.hid hb11
  have Hs12 := Lib.hid hs12
  have HT := Lib.hid T11
  have HO := Lib.hid O11
  have HR := Lib.hid (And.intro r1 (And.intro r3 r4))
  have B13 : Below w12.heap.size w12 (w12.alloc (.cells #[.string mp.s.v, .int .i64 mp.s.t.k, .string mp.s.t.x, .string mp.s.t.l, .string mp.s.t.y, .string mp.p.v, .int .i64 mp.p.t.k, .string mp.p.t.x, .string mp.p.t.l, .string mp.p.t.y, .string mp.o.v, .int .i64 mp.o.t.k, .string mp.o.t.x, .string mp.o.t.l, .string mp.o.t.y] 51)) := (by repeat (first | exact Below.refl _ _ | assumption | exact (Below.refl _ _).alloc (Nat.le_refl _) _ | refine below_tr ?_ (by assumption) | refine below_alloc ?_ | refine below_tr ?_ (below_regrown _ _ _)))
  have O13 := own_below O12 B13 (Nat.le_refl _)
  have R13 : Rd (w12.alloc (.cells #[.string mp.s.v, .int .i64 mp.s.t.k, .string mp.s.t.x, .string mp.s.t.l, .string mp.s.t.y, .string mp.p.v, .int .i64 mp.p.t.k, .string mp.p.t.x, .string mp.p.t.l, .string mp.p.t.y, .string mp.o.v, .int .i64 mp.o.t.k, .string mp.o.t.x, .string mp.o.t.l, .string mp.o.t.y] 51)) (some ⟨w12.heap.size, 0, none⟩) (cPat mp) := Rd.of_block (heap_alloc_new w12 _) rfl
  have hsz10 : w10.heap.size ≤ w11.heap.size := hb11.size
  have hbase : w10.heap.size ≤ (w12.alloc (.cells #[.string mp.s.v, .int .i64 mp.s.t.k, .string mp.s.t.x, .string mp.s.t.l, .string mp.s.t.y, .string mp.p.v, .int .i64 mp.p.t.k, .string mp.p.t.x, .string mp.p.t.l, .string mp.p.t.y, .string mp.o.v, .int .i64 mp.o.t.k, .string mp.o.t.x, .string mp.o.t.l, .string mp.o.t.y] 51)).heap.size := by simp; omega
  have hy3 := Hbox12.out.cell 3 (.slice s2 q.pats.length m2) rfl
  have hyf := Hbox12.out.fr 3
  have hyl : w11.heap.size < w12.heap.size := by omega
  have hneO : ∀ g, (Value.slice s2 q.pats.length m2).ownBlock = some g → g < w11.heap.size := fun g hg => (O11.lt g hg).2
  have hneY : (Value.slice s2 q.pats.length m2).ownBlock ≠ some w11.heap.size := fun e => by have := hneO _ e; omega
  obtain ⟨By, hBye⟩ : ∃ b, w11.heap.size = b := ⟨_, rfl⟩
  have HBye := Lib.hid hBye
  have Hl1 := Lib.hid hsz10
  rw [hBye] at hy3 hyf hyl hneY
  have hly0 : w.heap.size < By := by have := HsW.out; omega
  have hly1 : w.heap.size + 1 < By := by have := HsW.out; omega
  obtain ⟨ql, hql⟩ : ∃ z, lessQ q mf mo mv = z := ⟨_, rfl⟩
  obtain ⟨v0, hv0⟩ : ∃ z, (Value.slice s2 q.pats.length m2).ownBlock = z := ⟨_, rfl⟩
  have HlF : Hid (fewQ ql) := by show _; rw [← hql]; exact few_take hf mf mo mv
  have HlZ : Hid (szQ ql) := by show _; rw [← hql]; exact szQ_take hz mf mo mv
  have HlE : Hid (errOf ql = 0) := by show _; rw [← hql]; exact err_take he0 mf mo mv
  have HblQ : Hid (BoxQ n w10 Bl ql u1 u2 u3 u4 v1 v2 v3 v4) := by show _; rw [← hql]; exact Hbl.out
  have HD13 : Hid (Below w10.heap.size w10 (w12.alloc (.cells #[.string mp.s.v, .int .i64 mp.s.t.k, .string mp.s.t.x, .string mp.s.t.l, .string mp.s.t.y, .string mp.p.v, .int .i64 mp.p.t.k, .string mp.p.t.x, .string mp.p.t.l, .string mp.p.t.y, .string mp.o.v, .int .i64 mp.o.t.k, .string mp.o.t.x, .string mp.o.t.l, .string mp.o.t.y] 51))) := hb11.trans ((C12.trans (B13.mono (by omega))).mono hsz10)
  have HB13 := Lib.hid B13
  have hBlBy : Bl < By := by
    have h1 : Bl < w10.heap.size := (Array.getElem?_eq_some_iff.1 Hbl.out.row).1
    omega
  clear hql
  have MM := fun (i : Nat) (v : Value) (hv : (#[.string mp.s.v, .int .i64 mp.s.t.k, .string mp.s.t.x, .string mp.s.t.l, .string mp.s.t.y, .string mp.p.v, .int .i64 mp.p.t.k, .string mp.p.t.x, .string mp.p.t.l, .string mp.p.t.y, .string mp.o.v, .int .i64 mp.o.t.k, .string mp.o.t.x, .string mp.o.t.l, .string mp.o.t.y] : Array Value)[i]? = some v) => cell_on (HM.out i v hv) HB12.out
  have n0 : w12.cell? ⟨w.heap.size + 1, 0, none⟩ = some (.string mp.s.v) := MM 0 _ rfl
  have n1 : w12.cell? ⟨w.heap.size + 1, 1, none⟩ = some (.int .i64 mp.s.t.k) := MM 1 _ rfl
  have n2 : w12.cell? ⟨w.heap.size + 1, 2, none⟩ = some (.string mp.s.t.x) := MM 2 _ rfl
  have n3 : w12.cell? ⟨w.heap.size + 1, 3, none⟩ = some (.string mp.s.t.l) := MM 3 _ rfl
  have n4 : w12.cell? ⟨w.heap.size + 1, 4, none⟩ = some (.string mp.s.t.y) := MM 4 _ rfl
  have n5 : w12.cell? ⟨w.heap.size + 1, 5, none⟩ = some (.string mp.p.v) := MM 5 _ rfl
  have n6 : w12.cell? ⟨w.heap.size + 1, 6, none⟩ = some (.int .i64 mp.p.t.k) := MM 6 _ rfl
  have n7 : w12.cell? ⟨w.heap.size + 1, 7, none⟩ = some (.string mp.p.t.x) := MM 7 _ rfl
  have n8 : w12.cell? ⟨w.heap.size + 1, 8, none⟩ = some (.string mp.p.t.l) := MM 8 _ rfl
  have n9 : w12.cell? ⟨w.heap.size + 1, 9, none⟩ = some (.string mp.p.t.y) := MM 9 _ rfl
  have n10 : w12.cell? ⟨w.heap.size + 1, 10, none⟩ = some (.string mp.o.v) := MM 10 _ rfl
  have n11 : w12.cell? ⟨w.heap.size + 1, 11, none⟩ = some (.int .i64 mp.o.t.k) := MM 11 _ rfl
  have n12 : w12.cell? ⟨w.heap.size + 1, 12, none⟩ = some (.string mp.o.t.x) := MM 12 _ rfl
  have n13 : w12.cell? ⟨w.heap.size + 1, 13, none⟩ = some (.string mp.o.t.l) := MM 13 _ rfl
  have n14 : w12.cell? ⟨w.heap.size + 1, 14, none⟩ = some (.string mp.o.t.y) := MM 14 _ rfl
  clear r1 r2 r3 r4 T11 O11 O12 hb11 B11 B12 C12 hbox11 hs12 hw12 hBye MM
  have HmS := Lib.hid hneY
  go_wp2_with (first
    | (refine wpList_store_row rfl 27 _ _ rfl rfl rfl hQi (heap_alloc_new _ _) rfl rfl ?_; rw [Hw12.out]; simp only [HBye.out])
    | (at_builtin; refine wpList_appG rfl rfl Tryz.underlying23 patInfoC rfl (by omega) rfl O13 rfl R13 rfl (pats1C [mp]) (by omega) (by omega) hbase ?_; intro v14 w14 own14 hb14 hg14; obtain ⟨A14, m14, rfl, hm14, _⟩ := own_slice own14; have hy14 := (hg14.cell_far ⟨By, 3, none⟩ (by simp; omega) (fun e => HmS.out e.symm)).trans ((B13.cell (p := ⟨By, 3, none⟩) hyl).trans hy3); have hf14 := (hg14.frozen_far ⟨By, 3, none⟩ (by simp; omega) (fun e => HmS.out e.symm)).trans ((B13.frozen (p := ⟨By, 3, none⟩) hyl).trans hyf); have HL14 := HblQ.out.later (HD13.out.trans hb14); have L0 := HL14.cell 0 (.bool ql.ask) rfl; have L1 := HL14.cell 1 (.bool ql.dist) rfl; have L2 := HL14.cell 2 (.slice u1 ql.vars.length v1) rfl; have L3 := HL14.cell 3 (.slice u2 ql.pats.length v2) rfl; have L4 := HL14.cell 4 (.slice u3 ql.fils.length v3) rfl; have L5 := HL14.cell 5 (.slice u4 ql.ord.length v4) rfl; have L6 := HL14.cell 6 (.int .i64 ql.lim) rfl; have L7 := HL14.cell 7 (.int .i64 ql.off) rfl))
  obtain ⟨w15, hw15⟩ : ∃ V, w14.setCell ⟨By, 3, none⟩ (.slice A14 (q.pats.length + 1) m14) = V := ⟨_, rfl⟩
  have hsz13 : w12.heap.size < (w12.alloc (.cells #[.string mp.s.v, .int .i64 mp.s.t.k, .string mp.s.t.x, .string mp.s.t.l, .string mp.s.t.y, .string mp.p.v, .int .i64 mp.p.t.k, .string mp.p.t.x, .string mp.p.t.l, .string mp.p.t.y, .string mp.o.v, .int .i64 mp.o.t.k, .string mp.o.t.x, .string mp.o.t.l, .string mp.o.t.y] 51)).heap.size := by simp
  have key : ∀ (p : Addr) (u : Value), some p.block ≠ (Value.slice s2 q.pats.length m2).ownBlock → w11.cell? p = some u → w14.cell? p = some u ∧ p.block ≠ By := by
    intro p u hp hu
    have hlt := cell_lt hu
    have h2 := cell_on hu HC12.out
    have h3 := cell_on h2 HB13.out
    refine ⟨(hg14.cell_far p (cell_lt h3) hp).trans h3, ?_⟩
    have := HBye.out
    omega
  have hrow14 : w14.heap[By]? = some (.cells #[.bool q.ask, .bool q.dist, .slice s1 q.vars.length m1, .slice s2 q.pats.length m2, .slice s3 q.fils.length m3, .slice s4 q.ord.length m4, .int .i64 q.lim, .int .i64 q.off] 27 (0, 0)) := by
    have h1 := Hbox12.out.row
    rw [HBye.out] at h1
    rw [hg14.block By (by omega) (fun e => HmS.out e.symm), HB13.out.block By hyl]
    exact h1
  have hrows : RdStr (wo (hB By) w14) s1 q.vars ∧ RdEs n (wo (hB By) w14) s3 q.fils ∧ RdKey (wo (hB By) w14) s4 q.ord := by
    cases hv : (Value.slice s2 q.pats.length m2).ownBlock with
    | none =>
      have hc : CM w11 (wo (hB By) w14) := fun p u hu => wo_cellB.2 (key p u (by rw [hv]; simp) hu)
      exact ⟨RdL.cm (RdStr_of HR.out.1) hc (fun _ _ _ h => h), RdEs.cm HR.out.2.1 hc, RdL.cm ((RdL.flatC (f := cKey) (sz := 2) fun _ => rfl).2 HR.out.2.2) hc (fun _ _ _ h => h)⟩
    | some g =>
      obtain ⟨t1, t3, t4⟩ := HT.out g hv
      have hc : CM (wo (hO (w10.heap.size + 2) g) w11) (wo (hB By) w14) := fun p u hu => by
        obtain ⟨h1, _, h3⟩ := wo_cellO.1 hu
        exact wo_cellB.2 (key p u (by rw [hv]; simpa using h3) h1)
      exact ⟨RdL.cm (RdStr_of t1) hc (fun _ _ _ h => h), RdEs.cm t3 hc, RdL.cm ((RdL.flatC (f := cKey) (sz := 2) fun _ => rfl).2 t4) hc (fun _ _ _ h => h)⟩
  have hown : (Value.slice A14 (q.pats.length + 1) m14).ownBlock ≠ some By := by
    intro e
    obtain ⟨cur, hcur⟩ := own_type own14 e
    rw [hrow14] at hcur
    injection hcur with hcur
    injection hcur with _ h2
    exact absurd h2 (by decide)
  obtain ⟨A15, m15, h15, hm15, r15⟩ := own_slice (own_wo_ne own14 hown)
  injection h15 with e1 _ e2
  subst e1 e2
  have hpats : RdPat (wo (hB By) w14) A14 (q.pats ++ [mp]) := by
    refine (RdL.flatC (f := cPat) (sz := 15) fun _ => rfl).2 ?_
    rw [List.flatMap_append]
    simpa using r15
  obtain ⟨qy, hqy⟩ : ∃ z, moreQ q mp = z := ⟨_, rfl⟩
  have hby : BoxQ n w15 By qy s1 A14 s3 s4 m1 m14 m3 m4 := by
    rw [← hqy, ← hw15]
    refine ⟨?_, o1, by show (q.pats ++ [mp]).length ≤ _; simpa using hm15, o3, o4, RdL.cm hrows.1 CM.woSet (fun _ _ _ h => h), RdL.cm hpats CM.woSet (fun _ _ _ h => h), RdEs.cm hrows.2.1 CM.woSet, RdL.cm hrows.2.2 CM.woSet (fun _ _ _ h => h)⟩
    rw [heap_setCell_same _ _ _ _ _ _ hrow14]
    show some _ = some _
    simp [moreQ]
  have HyE : rightQ qy = true → errOf qy = 0 := by rw [← hqy]; exact fun h => err_more he0 h
  have HyF : fewQ qy := by rw [← hqy]; exact few_more hf (by omega)
  have HyZ : szQ qy := by rw [← hqy]; exact szQ_more hz hmp (by omega)
  have B15 : Below W.heap.size W w15 := by
    rw [← hw15]
    have hb10 : W.heap.size ≤ w10.heap.size := HB10.out.size
    exact (HB10.out.trans ((HD13.out.trans hb14).mono hb10)).setCell (p := ⟨By, 3, none⟩) (by show W.heap.size ≤ By; have := HBye.out; omega) _
  have bl15 : BoxQ n w15 Bl ql u1 u2 u3 u4 v1 v2 v3 v4 := by
    rw [← hw15]
    exact HblQ.out.later ((HD13.out.trans hb14).setCell (p := ⟨By, 3, none⟩) (by show w10.heap.size ≤ By; have := HBye.out; have := Hl1.out; omega) _)
  have HB15 := Lib.hid (below_tr HB0.out B15)
  have hQl := cQueryQ n ql u1 u2 u3 u4 v1 v2 v3 v4 w15 (HC.out.step HB15.out) HlF.out HlZ.out bl15.rdq
  rw [HlE.out] at hQl
  have Hby := Lib.hid hby
  simp only [hw15]
  clear hw15 key hrow14 hrows hown hpats r15 B15 bl15 hby own14 hg14 hb14 HL14 L0 L1 L2 L3 L4 L5 L6 L7 n0 n1 n2 n3 n4 n5 n6 n7 n8 n9 n10 n11 n12 n13 n14 hy14 hf14 hy3 hyf O13 R13 B13
  refine hQl.mono ?_
  rintro e w16 ⟨rfl, hb16⟩
  have hby16 := Hby.out.later hb16
  have HB16 := Lib.hid (below_tr HB15.out hb16)
  have hRy := qRight n qy _ w16 (HC.out.step HB16.out) hby16.rdq HyZ
  have Y0 := hby16.cell 0 (.bool qy.ask) rfl
  have Y1 := hby16.cell 1 (.bool qy.dist) rfl
  have Y2 := hby16.cell 2 (.slice s1 qy.vars.length m1) rfl
  have Y3 := hby16.cell 3 (.slice A14 qy.pats.length m14) rfl
  have Y4 := hby16.cell 4 (.slice s3 qy.fils.length m3) rfl
  have Y5 := hby16.cell 5 (.slice s4 qy.ord.length m4) rfl
  have Y6 := hby16.cell 6 (.int .i64 qy.lim) rfl
  have Y7 := hby16.cell 7 (.int .i64 qy.off) rfl
  have Hby16 := Lib.hid hby16
  clear hQl hb16 hby16
  cases hry : rightQ qy
  · rw [hry] at hRy
    clear HyE
    go_wp2_with (refine hRy.mono ?_; rintro e w17 ⟨rfl, hb17⟩)
    go_ret
    exact ⟨rfl, below_tr HB16.out hb17⟩
  · rw [hry] at hRy
    have hEy := HyE hry
    have hQy : ∀ V, Below w16.heap.size w16 V → Calls Tryz.prog 25 #[.agg #[.bool qy.ask, .bool qy.dist, .slice s1 qy.vars.length m1, .slice A14 qy.pats.length m14, .slice s3 qy.fils.length m3, .slice s4 qy.ord.length m4, .int .i64 qy.lim, .int .i64 qy.off]] V fun e w' => e = .returned (.int .i64 0) ∧ Below V.heap.size V w' := fun V hV => by
      have := cQueryQ n qy s1 A14 s3 s4 m1 m14 m3 m4 V (HC.out.step (below_tr HB16.out hV)) HyF HyZ (Hby16.out.later hV).rdq
      rw [hEy] at this
      exact this
    clear HyE hEy hry
    go_wp2_with (first
      | (go_at_call 13; refine hRy.mono ?_; rintro e w17 ⟨rfl, hb17⟩; have hQy2 := hQy w17 hb17; have HB17 := Lib.hid (below_tr HB16.out hb17); have Z0 := cell_on Y0 hb17; have Z1 := cell_on Y1 hb17; have Z2 := cell_on Y2 hb17; have Z3 := cell_on Y3 hb17; have Z4 := cell_on Y4 hb17; have Z5 := cell_on Y5 hb17; have Z6 := cell_on Y6 hb17; have Z7 := cell_on Y7 hb17)
      | (go_at_call 25; refine hQy2.mono ?_; rintro e w18 ⟨rfl, hb18⟩))
    go_ret
    exact ⟨rfl, below_tr HB17.out hb18⟩
end Go.Proofs.YtafaanegkoolgaaGreatDoor
