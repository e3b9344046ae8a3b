/- The program's package filter, walked: a judge of a row. The program's package filter, walked: a judge's alone. -/
import Derived.Test.YtfijpdmkdoccjaaGreatDoorJSameInts
import Derived.Test.YtfijpdmkdoccjaaGreatDoorJQPart
import Derived.Shelf.Abstract
import Derived.Test.YtfijpdmkdoccjaaGreatDoorJTms
namespace Go.Proofs.YtfijpdmkdoccjaaGreatDoor
open Go Go.RowKit Go.Maps Go.ChangeMaps Fm

/-- What each kind does. -/
def doesV (j : Value) (k : Int) : Value :=
  if k == 1 || k == 2 then .func (.func 85) #[j] #[] else if k == 3 then .func (.func 86) #[j] #[] else if k == 4 || k == 5 then .func (.func 87) #[j] #[]
  else if isCmp k then .func (.func 88) #[j] #[] else if isKind k then .func (.func 89) #[j] #[] else .nilFunc
def doesL (j : Value) : List (Int × Value) := [1, 2, 3, 4, 5, 6, 7, 8, 9, 10, 11, 12, 13, 14].map fun k => (k, doesV j k)
theorem doesL_find (j : Value) (k : Int) : (((doesL j).find? (fun p => p.1 == k)).map (·.2)).getD .nilFunc = doesV j k := by
  unfold doesL
  by_cases h : 1 ≤ k ∧ k ≤ 14
  · obtain ⟨n, rfl⟩ : ∃ n : Nat, k = n := ⟨k.toNat, by omega⟩
    have hn : n < 15 := by omega
    have hn0 : 0 < n := by omega
    clear h
    revert n
    intro n hn hn0
    match n, hn, hn0 with
    | 1, _, _ => rfl
    | 2, _, _ => rfl
    | 3, _, _ => rfl
    | 4, _, _ => rfl
    | 5, _, _ => rfl
    | 6, _, _ => rfl
    | 7, _, _ => rfl
    | 8, _, _ => rfl
    | 9, _, _ => rfl
    | 10, _, _ => rfl
    | 11, _, _ => rfl
    | 12, _, _ => rfl
    | 13, _, _ => rfl
    | 14, _, _ => rfl
  · have hne : List.find? (fun p : Int × Value => p.1 == k) ([1, 2, 3, 4, 5, 6, 7, 8, 9, 10, 11, 12, 13, 14].map fun k => (k, doesV j k)) = none := by
      rw [List.find?_eq_none]
      intro p hp
      simp only [List.map_cons, List.map_nil, List.mem_cons, List.not_mem_nil, or_false] at hp
      simp only [beq_iff_eq]
      rcases hp with rfl | rfl | rfl | rfl | rfl | rfl | rfl | rfl | rfl | rfl | rfl | rfl | rfl | rfl <;> simp <;> omega
    rw [hne]
    unfold doesV isCmp isKind
    have h1 : (k == 1) = false := by simp; omega
    have h2 : (k == 2) = false := by simp; omega
    have h3 : (k == 3) = false := by simp; omega
    have h4 : (k == 4) = false := by simp; omega
    have h5 : (k == 5) = false := by simp; omega
    have h6 : (decide (6 ≤ k) && decide (k ≤ 11)) = false := by simp; omega
    have h7 : (decide (12 ≤ k) && decide (k ≤ 14)) = false := by simp; omega
    simp [h1, h2, h3, h4, h5, h6, h7]

/-- A judge lies in block b. -/
structure JudgeAt (w : World) (b : Nat) (vars : List ByteArray) (row : List Tm) : Prop where
  ex : ∃ (A1 A2 : Option Addr) (c1 c2 r : Nat), w.cell? ⟨b, 0, none⟩ = some (.slice A1 vars.length c1) ∧ w.cell? ⟨b, 1, none⟩ = some (.slice A2 row.length c2) ∧ w.cell? ⟨b, 2, none⟩ = some (.map (some r)) ∧
    MapOf w .i64 r (doesL (.pointer (some ⟨b, 0, none⟩))) ∧ Rd w A1 (vars.map Value.string) ∧ RdTs w A2 row
theorem JudgeAt.later {w w' : World} {b : Nat} {vars : List ByteArray} {row : List Tm} (h : JudgeAt w b vars row) (hb : Below w.heap.size w w') : JudgeAt w' b vars row := by
  obtain ⟨A1, A2, c1, c2, r, h0, h1, h2, h3, h4, h5⟩ := h.ex
  have key : ∀ {p : Addr} {u : Value}, w.cell? p = some u → w'.cell? p = some u := fun h => by rw [hb.cell (cell_lt h)]; exact h
  exact ⟨A1, A2, c1, c2, r, key h0, key h1, key h2, h3.later hb, h4.later hb, h5.later hb⟩

set_option maxRecDepth 10000 in
set_option maxHeartbeats 1000000 in
theorem filTruth (vars : List ByteArray) (row : List Tm) (b : Nat) (k : Int) (s : ByteArray) (t : Tm) (A : Option Addr) (m c : Nat) (w : World) (hj : JudgeAt w b vars row) (F : FuncId) (hd : doesV (.pointer (some ⟨b, 0, none⟩)) k = .func (.func F) #[.pointer (some ⟨b, 0, none⟩)] #[]) 
    (eg : ∀ args W, (callFunc F args).run Tryz.prog W = .ok (.enter F args) W) (v : Int)
    (hF : ∀ W, Below w.heap.size w W → Calls Tryz.prog F #[.pointer (some ⟨b, 0, none⟩), .agg #[.int .i64 k, .string s, .int .i64 t.k, .string t.x, .string t.l, .string t.y, .slice A m c]] W fun e w' => e = .returned (.int .i64 v) ∧ Below W.heap.size W w') :
    Calls Tryz.prog 59 #[.pointer (some ⟨b, 0, none⟩), .agg #[.int .i64 k, .string s, .int .i64 t.k, .string t.x, .string t.l, .string t.y, .slice A m c]] w fun e w' => e = .returned (.int .i64 v) ∧ Below w.heap.size w w' := by
  obtain ⟨A1, A2, c1, c2, r, h0, h1, h2, h3, h4, h5⟩ := hj.ex
  have hne : ∀ (g : FuncId) (v : Value) (W : World), (binOp .neq 77 (.func (.func g) #[v] #[]) .nilFunc).run Tryz.prog W = .ok (.bool true) W := fun g v W => by kernel_rfl
  go_enter Tryz.func59, Tryz.ntmps59
  go_wp2
  obtain ⟨W, hW⟩ : ∃ W : World, w.alloc (.cells #[.int .i64 k, .string s, .int .i64 t.k, .string t.x, .string t.l, .string t.y, .slice A m c] 31) = W := ⟨_, rfl⟩
  have hB0 : Below w.heap.size w W := by rw [← hW]; exact (by repeat (first | exact Below.refl _ _ | assumption | exact (Below.refl _ _).alloc (Nat.le_refl _) _ | refine below_tr ?_ (by assumption) | refine below_alloc ?_ | refine below_tr ?_ (below_regrown _ _ _)))
  have hbx : ∀ (i : Nat) v, #[Value.int .i64 k, .string s, .int .i64 t.k, .string t.x, .string t.l, .string t.y, .slice A m c][i]? = some v → W.cell? ⟨w.heap.size, i, none⟩ = some v := by
    intro i v hv; rw [← hW, World.cell?, heap_alloc_new]; exact hv
  have key : ∀ {p : Addr} {u : Value}, w.cell? p = some u → W.cell? p = some u := fun h => by rw [hB0.cell (cell_lt h)]; exact h
  have g2 := fun d os => cell_regrown (key h2) d os
  have gk0 := fun d os => cell_regrown (hbx 0 _ rfl) d os
  have gk1 := fun d os => cell_regrown (hbx 1 _ rfl) d os
  have gk2 := fun d os => cell_regrown (hbx 2 _ rfl) d os
  have gk3 := fun d os => cell_regrown (hbx 3 _ rfl) d os
  have gk4 := fun d os => cell_regrown (hbx 4 _ rfl) d os
  have gk5 := fun d os => cell_regrown (hbx 5 _ rfl) d os
  have gk6 := fun d os => cell_regrown (hbx 6 _ rfl) d os
  have hl : ∀ d os, (Instr.lookup 101 (.map (some r)) (.int .i64 k) false).run Tryz.prog (Sort.grow (redrawn W d) os) = .ok (doesV (.pointer (some ⟨b, 0, none⟩)) k) (Sort.grow (redrawn W d) os) := fun d os => by
    have h := run_lookup_fn (P := Tryz.prog) Tryz.underlying101 Tryz.underlying25 (z := .nilFunc) (w := Sort.grow (redrawn W d) os) (by kernel_rfl) ((h3.later hB0).later (below_regrown W d os)) k
    rw [doesL_find] at h
    exact h
  simp only [hW]
  have HB0 := Lib.hid hB0
  clear hbx key hW hB0 h0 h1 h2 h3 h4 h5
  rw [hd] at hl
  refine wp_region_quiet_below (by kernel_rfl) (by kernel_rfl) ?_; (repeat (any_goals (go_big_quiet_step ((fail))))); all_goals (refine wpQuiet_nil ?_; intro _ hw9; obtain ⟨⟨d9, os9⟩, hw8⟩ := hw9; subst hw8)
  have Hl := Lib.hid hl
  clear hl
  have hB1 := below_tr HB0.out (below_regrown W d9 os9)
  go_wp2_with (go_at_fn F; refine (hF _ hB1).mono ?_; rintro e w2 ⟨rfl, hB2⟩)
  go_ret
  exact ⟨rfl, below_tr hB1 hB2⟩
set_option maxRecDepth 10000 in
set_option maxHeartbeats 1000000 in
theorem filTruthNo (vars : List ByteArray) (row : List Tm) (b : Nat) (k : Int) (s : ByteArray) (t : Tm) (A : Option Addr) (m c : Nat) (w : World) (hj : JudgeAt w b vars row) (hd : doesV (.pointer (some ⟨b, 0, none⟩)) k = .nilFunc) :
    Calls Tryz.prog 59 #[.pointer (some ⟨b, 0, none⟩), .agg #[.int .i64 k, .string s, .int .i64 t.k, .string t.x, .string t.l, .string t.y, .slice A m c]] w fun e w' => e = .returned (.int .i64 3) ∧ Below w.heap.size w w' := by
  obtain ⟨A1, A2, c1, c2, r, h0, h1, h2, h3, h4, h5⟩ := hj.ex
  have hne : ∀ (W : World), (binOp .neq 77 .nilFunc .nilFunc).run Tryz.prog W = .ok (.bool false) W := fun W => by kernel_rfl
  go_enter Tryz.func59, Tryz.ntmps59
  go_wp2
  obtain ⟨W, hW⟩ : ∃ W : World, w.alloc (.cells #[.int .i64 k, .string s, .int .i64 t.k, .string t.x, .string t.l, .string t.y, .slice A m c] 31) = W := ⟨_, rfl⟩
  have hB0 : Below w.heap.size w W := by rw [← hW]; exact (by repeat (first | exact Below.refl _ _ | assumption | exact (Below.refl _ _).alloc (Nat.le_refl _) _ | refine below_tr ?_ (by assumption) | refine below_alloc ?_ | refine below_tr ?_ (below_regrown _ _ _)))
  have hbx : ∀ (i : Nat) v, #[Value.int .i64 k, .string s, .int .i64 t.k, .string t.x, .string t.l, .string t.y, .slice A m c][i]? = some v → W.cell? ⟨w.heap.size, i, none⟩ = some v := by
    intro i v hv; rw [← hW, World.cell?, heap_alloc_new]; exact hv
  have key : ∀ {p : Addr} {u : Value}, w.cell? p = some u → W.cell? p = some u := fun h => by rw [hB0.cell (cell_lt h)]; exact h
  have g2 := fun d os => cell_regrown (key h2) d os
  have gk0 := fun d os => cell_regrown (hbx 0 _ rfl) d os
  have gk1 := fun d os => cell_regrown (hbx 1 _ rfl) d os
  have gk2 := fun d os => cell_regrown (hbx 2 _ rfl) d os
  have gk3 := fun d os => cell_regrown (hbx 3 _ rfl) d os
  have gk4 := fun d os => cell_regrown (hbx 4 _ rfl) d os
  have gk5 := fun d os => cell_regrown (hbx 5 _ rfl) d os
  have gk6 := fun d os => cell_regrown (hbx 6 _ rfl) d os
  have hl : ∀ d os, (Instr.lookup 101 (.map (some r)) (.int .i64 k) false).run Tryz.prog (Sort.grow (redrawn W d) os) = .ok (doesV (.pointer (some ⟨b, 0, none⟩)) k) (Sort.grow (redrawn W d) os) := fun d os => by
    have h := run_lookup_fn (P := Tryz.prog) Tryz.underlying101 Tryz.underlying25 (z := .nilFunc) (w := Sort.grow (redrawn W d) os) (by kernel_rfl) ((h3.later hB0).later (below_regrown W d os)) k
    rw [doesL_find] at h
    exact h
  simp only [hW]
  have HB0 := Lib.hid hB0
  clear hbx key hW hB0 h0 h1 h2 h3 h4 h5
  rw [hd] at hl
  refine wp_region_quiet_below (by kernel_rfl) (by kernel_rfl) ?_; (repeat (any_goals (go_big_quiet_step ((fail))))); all_goals (refine wpQuiet_nil ?_; intro _ hw9; obtain ⟨⟨d9, os9⟩, hw8⟩ := hw9; subst hw8)
  have Hl := Lib.hid hl
  clear hl
  have hB1 := below_tr HB0.out (below_regrown W d9 os9)
  go_wp2
  go_ret
  exact ⟨rfl, hB1⟩
end Go.Proofs.YtfijpdmkdoccjaaGreatDoor
namespace Go.Proofs.YtfijpdmkdoccjaaGreatDoor
open Go Go.RowKit Go.Maps Go.ChangeMaps Fm

/-- A term lies in block b. -/
def TmAt (w : World) (b : Nat) (t : Tm) : Prop := w.cell? ⟨b, 0, none⟩ = some (.int .i64 t.k) ∧ w.cell? ⟨b, 1, none⟩ = some (.string t.x) ∧ w.cell? ⟨b, 2, none⟩ = some (.string t.l) ∧ w.cell? ⟨b, 3, none⟩ = some (.string t.y)

theorem TmAt.set {w : World} {b : Nat} {u : Tm} (h : TmAt w b u) (t : Tm) : TmAt ((((w.setCell ⟨b, 0, none⟩ (.int .i64 t.k)).setCell ⟨b, 1, none⟩ (.string t.x)).setCell ⟨b, 2, none⟩ (.string t.l)).setCell ⟨b, 3, none⟩ (.string t.y)) b t := by
  obtain ⟨h0, h1, h2, h3⟩ := h
  have ne : ∀ {i j : Nat}, i ≠ j → (⟨b, i, none⟩ : Addr) ≠ ⟨b, j, none⟩ := fun h e => h (by injection e)
  refine ⟨?_, ?_, ?_, ?_⟩
  · rw [World.cell?_setCell_other (h := ne (by decide)), World.cell?_setCell_other (h := ne (by decide)), World.cell?_setCell_other (h := ne (by decide)), World.cell?_setCell_same (h := h0)]
  · rw [World.cell?_setCell_other (h := ne (by decide)), World.cell?_setCell_other (h := ne (by decide)), World.cell?_setCell_same (u := .string u.x) (h := by rw [World.cell?_setCell_other (h := ne (by decide))]; exact h1)]
  · rw [World.cell?_setCell_other (h := ne (by decide)), World.cell?_setCell_same (u := .string u.l) (h := by rw [World.cell?_setCell_other (h := ne (by decide)), World.cell?_setCell_other (h := ne (by decide))]; exact h2)]
  · rw [World.cell?_setCell_same (u := .string u.y) (h := by rw [World.cell?_setCell_other (h := ne (by decide)), World.cell?_setCell_other (h := ne (by decide)), World.cell?_setCell_other (h := ne (by decide))]; exact h3)]
theorem tmAt_alloc (w : World) (t : Tm) (ty : TypeId) : TmAt (w.alloc (.cells #[.int .i64 t.k, .string t.x, .string t.l, .string t.y] ty)) w.heap.size t := by
  refine ⟨?_, ?_, ?_, ?_⟩ <;> (rw [World.cell?, heap_alloc_new]; rfl)
set_option maxRecDepth 10000 in
set_option maxHeartbeats 1000000 in
theorem filJAlone (vars : List ByteArray) (row : List Tm) (b : Nat) (k : Int) (s : ByteArray) (t : Tm) (A : Option Addr) (m c : Nat) (w : World) (hj : JudgeAt w b vars row) (hv : vars.length ≤ 281474976710656) (hrl : row.length ≤ 281474976710656) (hm : m ≤ 281474976710656)
    (hz : ∀ u, termP vars row k s t (m == 0) = some u → u.x.size ≤ 281474976710656) :
    Calls Tryz.prog 85 #[.pointer (some ⟨b, 0, none⟩), .agg #[.int .i64 k, .string s, .int .i64 t.k, .string t.x, .string t.l, .string t.y, .slice A m c]] w
      fun e w' => e = .returned (.int .i64 (leafI (termP vars row k s t (m == 0)))) ∧ Below w.heap.size w w' := by
  obtain ⟨A1, A2, c1, c2, r, h0, h1, h2, h3, h4, h5⟩ := hj.ex
  have hR := fun W a b => filRowOf vars row A1 A2 A c1 c2 m c k s t W hv hrl hm a b
  generalize termP vars row k s t (m == 0) = o at *
  have ho : ∀ u, o = some u → o.getD zTm = u := fun u h => by rw [h]; rfl
  unfold optV tmV at hR
  generalize o.getD zTm = z at *
  have ho' := Lib.hid ho
  clear ho
  go_enter Tryz.func85, Tryz.ntmps85
  go_wp2
  obtain ⟨W, hW⟩ : ∃ W : World, w.alloc (.cells #[.int .i64 k, .string s, .int .i64 t.k, .string t.x, .string t.l, .string t.y, .slice A m c] 31) = W := ⟨_, rfl⟩
  have hB0 : Below w.heap.size w W := by rw [← hW]; exact (by repeat (first | exact Below.refl _ _ | assumption | exact (Below.refl _ _).alloc (Nat.le_refl _) _ | refine below_tr ?_ (by assumption) | refine below_alloc ?_ | refine below_tr ?_ (below_regrown _ _ _)))
  have hsz : w.heap.size < W.heap.size := by rw [← hW]; simp
  have hbx : ∀ (i : Nat) v, #[Value.int .i64 k, .string s, .int .i64 t.k, .string t.x, .string t.l, .string t.y, .slice A m c][i]? = some v → W.cell? ⟨w.heap.size, i, none⟩ = some v := by
    intro i v hv; rw [← hW, World.cell?, heap_alloc_new]; exact hv
  simp only [hW]
  have HW := Lib.hid hW
  clear hW
  refine Rf.wp_region_pl W.heap.size ?R (Rf.Pl.quiet [0, 1, 2, 3, 4] (Rf.Pl.fork 5 9 (Rf.Pl.quiet [6, 7, 8] (Rf.Pl.one 9 (Rf.Pl.one 10 (Rf.Pl.quiet [11] (Rf.Pl.done))))) (Rf.Pl.one 5 (Rf.Pl.quiet [6, 7, 8] (Rf.Pl.one 10 (Rf.Pl.quiet [11] (Rf.Pl.done))))))) _ (by kernel_rfl) (by kernel_rfl) (by simp only [Rf.Pl.pick, Rf.pickO, List.map_cons, List.map_nil, Rg.pickOps, List.getElem?_toArray, List.getElem?_cons_zero, List.getElem?_cons_succ, Option.getD_some]; rfl) ?_ ?_
  case R => exact fun a W' => ∃ (B : Nat) (z : Tm) (u8 u9 u10 u11 u12 u13 u7 u14 u15 : Value), a = { tmps := #[.pointer (some ⟨b, 0, none⟩), .agg #[.int .i64 k, .string s, .int .i64 t.k, .string t.x, .string t.l, .string t.y, .slice A m c], undef, .pointer (some ⟨w.heap.size, 0, none⟩), .int .i64 0, .pointer (some ⟨B, 0, none⟩), .bool o.isSome, u7, u8, u9, u10, u11, u12, u13, u14, u15, undef, undef, undef, undef], defers := [] } ∧ (∀ u, o = some u → z = u) ∧ TmAt W' B z ∧ Below W.heap.size W W'
  · intro wd hbd hwz
    have key : ∀ {p : Addr} {u : Value}, w.cell? p = some u → wd.cell? p = some u := fun h => by have := cell_lt h; rw [hbd.cell (by omega), hB0.cell this]; exact h
    have lt : ∀ {p : Addr} {u : Value}, w.cell? p = some u → p.block < W.heap.size := fun h => by have := cell_lt h; omega
    have hbx' : ∀ (i : Nat) v, #[Value.int .i64 k, .string s, .int .i64 t.k, .string t.x, .string t.l, .string t.y, .slice A m c][i]? = some v → wd.cell? ⟨w.heap.size, i, none⟩ = some v := fun i v hv => by rw [hbd.cell (p := ⟨w.heap.size, i, none⟩) hsz]; exact hbx i v hv
    have j0 := cellB (key h0) (lt h0)
    have j1 := cellB (key h1) (lt h1)
    have b0 := cellB (hbx' 0 _ rfl) hsz
    have b1 := cellB (hbx' 1 _ rfl) hsz
    have b2 := cellB (hbx' 2 _ rfl) hsz
    have b3 := cellB (hbx' 3 _ rfl) hsz
    have b4 := cellB (hbx' 4 _ rfl) hsz
    have b5 := cellB (hbx' 5 _ rfl) hsz
    have b6 := cellB (hbx' 6 _ rfl) hsz
    have hr1 := (h4.later hB0).later hbd
    have hr2 := (h5.later hB0).later hbd
    have HB0 := Lib.hid hB0
    have Hz := Lib.hid hwz
    have hle : W.heap.size ≤ wd.heap.size := hbd.size
    clear hbx hbx' key lt hB0 h0 h1 h2 h3 h4 h5 hwz
    refine Rf.pl_quiet ?_
    iterate 5 go_big_quiet_step (fail)
    refine wpQuiet_nil (Rf.pl_fork ?_ ?_)
    · go_wp2_with (refine (hR _ hr1 hr2).mono ?_; rintro e w1 ⟨rfl, hb1⟩)
      have hb2 := hb1.mono hle
      refine ⟨hb2, Rf.pl_quiet ?_⟩
      iterate 3 go_big_quiet_step (fail)
      refine wpQuiet_nil (Rf.pl_one ?_)
      go_wp2
      refine ⟨(Below.refl _ _).alloc (Nat.le_trans hle hb1.size) _, Rf.pl_one ?_⟩
      go_wp2
      refine ⟨below_reset (Nat.le_trans hle hb1.size) _ _, Rf.pl_quiet ?_⟩
      iterate 1 go_big_quiet_step (fail)
      exact wpQuiet_nil (Rf.pl_done ⟨_, z, _, _, _, _, _, _, _, _, _, rfl, ho'.out, tmAt_alloc _ _ _, (hbd.trans hb2).alloc (Nat.le_trans hle hb1.size) _⟩)
    · go_wp2
      refine ⟨(Below.refl _ _).alloc hle _, Rf.pl_one ?_⟩
      go_wp2_with (refine (hR _ (hr1.later (by repeat (first | exact Below.refl _ _ | assumption | exact (Below.refl _ _).alloc (Nat.le_refl _) _ | refine below_tr ?_ (by assumption) | refine below_alloc ?_ | refine below_tr ?_ (below_regrown _ _ _)))) (hr2.later (by repeat (first | exact Below.refl _ _ | assumption | exact (Below.refl _ _).alloc (Nat.le_refl _) _ | refine below_tr ?_ (by assumption) | refine below_alloc ?_ | refine below_tr ?_ (below_regrown _ _ _))))).mono ?_; rintro e w1 ⟨rfl, hb1⟩)
      obtain ⟨hc, hf⟩ := bcell hb1
      refine ⟨hb1.mono (by simp; omega), Rf.pl_quiet ?_⟩
      iterate 3 go_big_quiet_step (fail)
      refine wpQuiet_nil (Rf.pl_one ?_)
      go_wp2
      have hle2 : W.heap.size ≤ wd.heap.size := hle
      refine ⟨below_set4 hle2 _ _ _ _, Rf.pl_quiet ?_⟩
      have hT : TmAt w1 wd.heap.size zTm := by
        refine ⟨?_, ?_, ?_, ?_⟩ <;> (rw [hb1.cell (by simp), World.cell?, heap_alloc_new]; rfl)
      iterate 1 go_big_quiet_step (fail)
      exact wpQuiet_nil (Rf.pl_done ⟨_, z, _, _, _, _, _, _, _, _, _, rfl, ho'.out, hT.set z, ((hbd.trans ((Below.refl _ _).alloc hle _)).trans (hb1.mono (by simp; omega))).trans (below_set4 hle2 _ _ _ _)⟩)
  · rintro a W1 ⟨B, z, u8, u9, u10, u11, u12, u13, u7, u14, u15, rfl, hz1, ⟨t0, t1, t2, t3⟩, hb1⟩
    have Hb1 := Lib.hid hb1
    have Hz1 := Lib.hid hz1
    have HB0 := Lib.hid hB0
    clear hb1 hz1 hB0 hbx h0 h1 h2 h3 h4 h5 hR ho' hj
    cases o with
    | none =>
      simp only [Option.isSome_none]
      clear t0 t1 t2 t3 hz
      go_wp2
      go_ret
      exact ⟨rfl, below_tr HB0.out Hb1.out⟩
    | some u =>
      obtain rfl := Hz1.out u rfl
      have hza := hz z rfl
      simp only [Option.isSome_some]
      clear hz
      go_wp2_with (refine (filAlone z.k z.x z.l z.y _ hza).mono ?_; rintro e w2 ⟨rfl, hb2⟩)
      go_ret
      exact ⟨rfl, below_tr (below_tr HB0.out Hb1.out) hb2⟩
end Go.Proofs.YtfijpdmkdoccjaaGreatDoor
