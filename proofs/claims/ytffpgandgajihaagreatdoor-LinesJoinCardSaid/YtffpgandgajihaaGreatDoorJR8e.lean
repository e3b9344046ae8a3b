/- How terms and triples stand, in plain words. The program's package term, walked: Show, Compare, Triples and what they call. The program's package term, walked: Compare. The program's package term, walked: Triples. The answer for term (ossuaryref08): Text, Show, order. The law's awake and size of layer 08. The law's size of layer 08; how the order of terms and triples is asked. The answer for term (ossuaryref08): Compare, Triple, Triples, Tagged, Typed; the program's Triple, Typed. Printed by gen/r8e.py. -/
import Derived.Test.YtffpgandgajihaaGreatDoorJWr2
import Derived.Test.YtffpgandgajihaaGreatDoorJWr4
import Derived.Test.YtffpgandgajihaaGreatDoorJRep2m
import Derived.Test.YtffpgandgajihaaGreatDoorJTx1
namespace Go.Proofs.YtffpgandgajihaaGreatDoor.Tx
open Go Go.RowKit Um Fm Lx

def orZ (a b : Int) : Int := if a = 0 then b else a
theorem orZ_zero (b : Int) : orZ 0 b = b := rfl
theorem orZ_right (a : Int) : orZ a 0 = a := by unfold orZ; split <;> omega
/-- A way to compare. -/
structure OrdF {α : Type} (f : α → α → Int) : Prop where
  neg : ∀ a b, f b a = -f a b
  zero : ∀ a b, f a b = 0 → a = b
  tr : ∀ a b c, f a b < 0 → f b c < 0 → f a c < 0
  rng : ∀ a b, -1 ≤ f a b ∧ f a b ≤ 1
theorem OrdF.self {α : Type} {f : α → α → Int} (h : OrdF f) (a : α) : f a a = 0 := by have := h.neg a a; omega
theorem OrdF.le {α : Type} {f : α → α → Int} (h : OrdF f) {a b c : α} (h1 : f a b ≤ 0) (h2 : f b c ≤ 0) : f a c ≤ 0 := by
  rcases Int.lt_or_eq_of_le h1 with h1 | h1
  · rcases Int.lt_or_eq_of_le h2 with h2 | h2
    · exact Int.le_of_lt (h.tr a b c h1 h2)
    · rw [← h.zero _ _ h2]; omega
  · rw [h.zero _ _ h1]; exact h2
theorem ordF_list : OrdF cmpS where
  neg := fun a b => cmpS_neg a b
  zero := fun a b h => (cmpS_zero a b).1 h
  tr := fun a b c => cmpS_tr a b c
  rng := fun a b => by unfold cmpS; split <;> (try split) <;> omega
theorem ordF_int : OrdF Lib.compareInt where
  neg := fun a b => by unfold Lib.compareInt; repeat' split
                       all_goals omega
  zero := fun a b h => (compareInt_zero a b).1 h
  tr := fun a b c => by unfold Lib.compareInt; repeat' split
                        all_goals omega
  rng := fun a b => by unfold Lib.compareInt; repeat' split
                       all_goals omega
theorem ordF_map {α β : Type} {f : β → β → Int} (h : OrdF f) (g : α → β) (hg : ∀ a b, g a = g b → a = b) : OrdF (fun a b => f (g a) (g b)) where
  neg := fun _a _b => h.neg _ _
  zero := fun a b e => hg a b (h.zero _ _ e)
  tr := fun _a _b _c => h.tr _ _ _
  rng := fun _a _b => h.rng _ _
theorem ordF_or {α β : Type} {f : α → α → Int} {g : β → β → Int} (hf : OrdF f) (hg : OrdF g) : OrdF (fun (a b : α × β) => orZ (f a.1 b.1) (g a.2 b.2)) where
  neg := fun a b => by
    have := hf.neg a.1 b.1; have := hg.neg a.2 b.2
    unfold orZ; repeat' split
    all_goals omega
  zero := fun a b e => by
    unfold orZ at e
    split at e
    · rename_i h; exact Prod.ext (hf.zero _ _ h) (hg.zero _ _ e)
    · rename_i h; exact absurd e h
  tr := fun a b c h1 h2 => by
    unfold orZ at h1 h2 ⊢
    by_cases e1 : f a.1 b.1 = 0
    · rw [if_pos e1] at h1
      have q1 := hf.zero _ _ e1
      rw [q1]
      by_cases e2 : f b.1 c.1 = 0
      · rw [if_pos e2] at h2 ⊢; exact hg.tr _ _ _ h1 h2
      · rw [if_neg e2] at h2 ⊢; exact h2
    · rw [if_neg e1] at h1
      by_cases e2 : f b.1 c.1 = 0
      · rw [← hf.zero _ _ e2, if_neg e1]; exact h1
      · rw [if_neg e2] at h2
        have h3 := hf.tr _ _ _ h1 h2
        rw [if_neg (by omega)]; exact h3
  rng := fun a b => by
    have := hf.rng a.1 b.1; have := hg.rng a.2 b.2
    unfold orZ; split <;> omega
abbrev bl (s : ByteArray) : List UInt8 := s.data.toList
/-- Two terms that are not right. -/
def cmpW (a b : Tm) : Int := orZ (Lib.compareInt a.k b.k) (orZ (cmpS (bl a.x) (bl b.x)) (orZ (cmpS (bl a.l) (bl b.l)) (cmpS (bl a.y) (bl b.y))))
theorem ordF_W : OrdF cmpW :=
  ordF_map (ordF_or ordF_int (ordF_or ordF_list (ordF_or ordF_list ordF_list))) (fun t : Tm => (t.k, bl t.x, bl t.l, bl t.y)) fun a b h => by
    obtain ⟨k, x, l, y⟩ := a; obtain ⟨k', x', l', y'⟩ := b
    simp only [Prod.mk.injEq] at h
    rw [h.1, ba_ext h.2.1, ba_ext h.2.2.1, ba_ext h.2.2.2]
/-- How two terms stand. -/
def cmpTm (a b : Tm) : Int := if rightB a && rightB b then cmpS (textL a) (textL b) else if rightB a then -1 else if rightB b then 1 else cmpW a b
theorem ordF_Tm : OrdF cmpTm where
  neg := fun a b => by
    have h1 := cmpS_neg (textL a) (textL b); have h2 := ordF_W.neg a b
    unfold cmpTm
    cases rightB a <;> cases rightB b <;> simp [h1, h2]
  zero := fun a b h => by
    unfold cmpTm at h
    cases ha : rightB a <;> cases hb : rightB b <;> rw [ha, hb] at h
    · exact ordF_W.zero a b h
    · cases h
    · cases h
    · exact text_inj ha hb ((cmpS_zero _ _).1 h)
  tr := fun a b c h1 h2 => by
    unfold cmpTm at h1 h2 ⊢
    cases ha : rightB a <;> cases hb : rightB b <;> cases hc : rightB c <;> rw [ha, hb] at h1 <;> rw [hb, hc] at h2 <;>
      simp only [Bool.and_true, Bool.and_false, if_true, Bool.false_eq_true, if_false] at h1 h2 ⊢
    · exact ordF_W.tr a b c h1 h2
    · omega
    · omega
    · omega
    · omega
    · omega
    · omega
    · exact cmpS_tr _ _ _ h1 h2
  rng := fun a b => by
    have h1 := ordF_list.rng (textL a) (textL b); have h2 := ordF_W.rng a b
    unfold cmpTm
    split
    · exact h1
    split
    · omega
    split
    · omega
    · exact h2
/-- A triple. -/
structure Tp where
  s : Tm
  p : Tm
  o : Tm
def cmpTp (a b : Tp) : Int := orZ (cmpTm a.s b.s) (orZ (cmpTm a.p b.p) (cmpTm a.o b.o))
theorem ordF_Tp : OrdF cmpTp :=
  ordF_map (ordF_or ordF_Tm (ordF_or ordF_Tm ordF_Tm)) (fun t : Tp => (t.s, t.p, t.o)) fun a b h => by
    obtain ⟨s, p, o⟩ := a; obtain ⟨s', p', o'⟩ := b
    simp only [Prod.mk.injEq] at h
    rw [h.1, h.2.1, h.2.2]
/-- A triple that may be. -/
def tripB (t : Tp) : Bool := (t.s.k == 1 || t.s.k == 2) && t.p.k == 1 && rightB t.s && rightB t.p && rightB t.o
def rankT (t : Tm) : Int := if t.k = 1 then 1 else if t.k = 2 then 2 else 0
theorem head_lt (a b : UInt8) (x y : List UInt8) (h : a < b) : cmpS (a :: x) (b :: y) < 0 := (cmpS_lt _ _).2 (List.cons_lt_cons_iff.2 (.inl h))
theorem rank_text {t : Tm} (_h : rightB t = true) : ∃ r, textL t = (if t.k = 1 then 60 else if t.k = 2 then 95 else 34) :: r := by
  unfold textL
  split
  · exact ⟨_, rfl⟩
  split
  · exact ⟨_, rfl⟩
  split
  · exact ⟨_, rfl⟩
  split
  · exact ⟨_, rfl⟩
  · exact ⟨_, rfl⟩
theorem rank_lt {a b : Tm} (ha : rightB a = true) (hb : rightB b = true) (h : rankT a < rankT b) : cmpTm a b < 0 := by
  unfold cmpTm
  rw [ha, hb, if_pos rfl]
  obtain ⟨r, hr⟩ := rank_text ha
  obtain ⟨q, hq⟩ := rank_text hb
  rw [hr, hq]
  apply head_lt
  unfold rankT at h
  by_cases a1 : a.k = 1 <;> by_cases a2 : a.k = 2 <;> by_cases b1 : b.k = 1 <;> by_cases b2 : b.k = 2 <;> simp [a1, a2, b1, b2] at h ⊢ <;> first | omega | decide
theorem right_lt {a b : Tm} (ha : rightB a = true) (hb : rightB b = false) : cmpTm a b < 0 := by unfold cmpTm; rw [ha, hb, if_neg (by decide), if_pos rfl]; decide
end Go.Proofs.YtffpgandgajihaaGreatDoor.Tx
namespace Go.Proofs.YtffpgandgajihaaGreatDoor
open Go Go.RowKit Um Fm Tx

def orL : List Int → Int
  | [] => 0
  | x :: r => if x = 0 then orL r else x
theorem orL_cons (x : Int) (r : List Int) : orL (x :: r) = orZ x (orL r) := rfl
abbrev tA (t : Tm) : Value := .agg #[.int .i64 t.k, .string t.x, .string t.l, .string t.y]
def smallT (t : Tm) : Prop := t.x.size ≤ 1000000 ∧ t.l.size ≤ 1000000 ∧ t.y.size ≤ 1000000
def showP (t : Tm) : ByteArray × Int := if rightB t then (if 4096 < (textL t).length then (⟨#[]⟩, 3) else (mkS (textL t), 0)) else (⟨#[]⟩, 2)
theorem mkS_size (l : List UInt8) : (mkS l).size = l.length := by show l.toArray.size = _; rw [List.size_toArray]
theorem mkS_list (l : List UInt8) : (mkS l).toList = l := by rw [ByteArray.toList_eq]
theorem termRight' (t : Tm) (w : World) (hC : CtxT w) (hs : smallT t) : Calls Tryz.prog 30 #[tA t] w fun e w' => e = .returned (.bool (rightB t)) ∧ Below w.heap.size w w' :=
  termRight t w hC.1 (Nat.le_trans hs.1 (by omega)) (Nat.le_trans hs.2.1 (by omega)) (Nat.le_trans hs.2.2 (by omega))
theorem termText' (t : Tm) (w : World) (hC : CtxT w) (h : rightB t = true) (hs : smallT t) : Calls Tryz.prog 31 #[tA t] w fun e w' => e = .returned (.string (mkS (textL t))) ∧ Below w.heap.size w w' :=
  termText t w hC h hs.1 hs.2.1 hs.2.2
set_option maxHeartbeats 1000000 in
set_option maxRecDepth 20000 in
theorem termShow (t : Tm) (w : World) (hC : CtxT w) (hs : smallT t) :
    Calls Tryz.prog 12 #[tA t] w fun e w' => e = .returned (.tuple #[.string (showP t).1, .int .i64 (showP t).2]) ∧ Below w.heap.size w w' := by
  have hb0 : Below w.heap.size w (w.alloc (.cells #[.int .i64 t.k, .string t.x, .string t.l, .string t.y] 35)) := (Below.refl _ w).alloc (Nat.le_refl _) _
  have hR := termRight' t _ (hC.step hb0) hs
  have hT := fun W hb h => termText' t W (hC.step hb) h hs
  have HB := Lib.hid hb0
  unfold showP
  cases hr : rightB t
  · rw [hr] at hR
    clear hT
    go_enter Tryz.func12, Tryz.ntmps12
    go_wp2_with (go_at_call 30; with_reducible refine hR.mono ?_; rintro e w1 ⟨rfl, b1⟩)
    go_ret2
    exact ⟨rfl, below_tr HB.out b1⟩
  · rw [hr] at hR
    rw [if_pos rfl]
    have hsz := mkS_size (textL t)
    have hbt := hb0.block w.heap.size
    have hblk := heap_alloc_new w (.cells #[.int .i64 t.k, .string t.x, .string t.l, .string t.y] 35)
    go_enter Tryz.func12, Tryz.ntmps12
    go_wp2_with (go_at_call 30; with_reducible refine hR.mono ?_)
    rintro e w1 ⟨rfl, b1⟩
    have hbk := (b1.block w.heap.size (by simp)).trans hblk
    have c0 : w1.cell? ⟨w.heap.size, 0, none⟩ = some (.int .i64 t.k) := by rw [Lib.cell_of_heap hbk]; rfl
    have c1 : w1.cell? ⟨w.heap.size, 1, none⟩ = some (.string t.x) := by rw [Lib.cell_of_heap hbk]; rfl
    have c2 : w1.cell? ⟨w.heap.size, 2, none⟩ = some (.string t.l) := by rw [Lib.cell_of_heap hbk]; rfl
    have c3 : w1.cell? ⟨w.heap.size, 3, none⟩ = some (.string t.y) := by rw [Lib.cell_of_heap hbk]; rfl
    have hT1 := hT w1 (below_tr HB.out b1) hr
    have HB1 := Lib.hid (below_tr HB.out b1)
    clear hT hR b1 hbk hblk hbt hb0
    by_cases hl : 4096 < (textL t).length
    · go_wp2_with (go_at_call 31; with_reducible refine hT1.mono ?_; rintro e w2 ⟨rfl, b2⟩)
      go_ret2
      exact ⟨by simp, below_tr HB1.out b2⟩
    · go_wp2_with (go_at_call 31; with_reducible refine hT1.mono ?_; rintro e w2 ⟨rfl, b2⟩)
      go_ret2
      exact ⟨by simp, below_tr HB1.out b2⟩
end Go.Proofs.YtffpgandgajihaaGreatDoor
namespace Go.Proofs.YtffpgandgajihaaGreatDoor
open Go Go.RowKit Um Fm Tx

theorem cmpTm_W {a b : Tm} (ha : rightB a = false) (hb : rightB b = false) : cmpTm a b = orL [Lib.compareInt a.k b.k, cmpS a.x.toList b.x.toList, cmpS a.l.toList b.l.toList, cmpS a.y.toList b.y.toList] := by
  unfold cmpTm cmpW
  rw [ha, hb, if_neg (by decide), if_neg (by decide), if_neg (by decide)]
  simp only [orL_cons, ByteArray.toList_eq]
  rw [show orL [] = 0 from rfl, orZ_right]
end Go.Proofs.YtffpgandgajihaaGreatDoor
namespace Go.Proofs.YtffpgandgajihaaGreatDoor
open Go Go.RowKit Um Fm Tx

abbrev tpC (t : Tp) : Array Value := #[.int .i64 t.s.k, .string t.s.x, .string t.s.l, .string t.s.y, .int .i64 t.p.k, .string t.p.x, .string t.p.l, .string t.p.y, .int .i64 t.o.k, .string t.o.x, .string t.o.l, .string t.o.y]
abbrev tpA (t : Tp) : Value := .agg (tpC t)
def smallP (t : Tp) : Prop := smallT t.s ∧ smallT t.p ∧ smallT t.o
theorem cmpTp_or (a b : Tp) : cmpTp a b = orL [cmpTm a.s b.s, cmpTm a.p b.p, cmpTm a.o b.o] := by
  unfold cmpTp
  simp only [orL_cons]
  rw [show orL [] = 0 from rfl, orZ_right]
theorem cells_at {w : World} {g : Nat} {cs : Array Value} {T : TypeId} (h : w.heap[g]? = some (Obj.cells cs T (0, 0))) (i : Nat) {v : Value} (hv : cs[i]? = some v) : w.cell? ⟨g, i, none⟩ = some v := by
  rw [Lib.cell_of_heap h]; exact hv
end Go.Proofs.YtffpgandgajihaaGreatDoor
namespace Go.Proofs.YtffpgandgajihaaGreatDoor
open Go Go.RowKit Um Fm Lx Tx

abbrev tC8 (t : Tm) : Array Value := #[.int .i64 t.k, .string t.x, .string t.l, .string t.y]
theorem small_le {t : Tm} (h : smallT t) : t.x.size ≤ 1048576 ∧ t.l.size ≤ 1048576 ∧ t.y.size ≤ 1048576 := ⟨Nat.le_trans h.1 (by decide), Nat.le_trans h.2.1 (by decide), Nat.le_trans h.2.2 (by decide)⟩
theorem r08Right' (t : Tm) (w : World) (h : smallT t) : Calls Tryz.prog 141 #[tA t] w fun e w' => e = .returned (.bool (rightB t)) ∧ Below w.heap.size w w' :=
  r08Right t w (small_le h).1 (small_le h).2.1 (small_le h).2.2
theorem mk_if (c : Prop) [Decidable c] (a b : List UInt8) : mkS (if c then a else b) = if c then mkS a else mkS b := by split <;> rfl
theorem cat_iri (x : List UInt8) : (⟨#[60]⟩ : ByteArray) ++ mkS x ++ ⟨#[62]⟩ = mkS (60 :: (x ++ [62])) := ba_ext (by simp [ByteArray.data_append])
theorem cat_blank (x : ByteArray) : (⟨#[95, 58]⟩ : ByteArray) ++ x = mkS (95 :: 58 :: x.data.toList) := ba_ext (by simp [ByteArray.data_append])
theorem cat_typed (x y : List UInt8) : (⟨#[34]⟩ : ByteArray) ++ mkS x ++ ⟨#[34, 94, 94, 60]⟩ ++ mkS y ++ ⟨#[62]⟩ = mkS (34 :: (x ++ 34 :: 94 :: 94 :: 60 :: (y ++ [62]))) := ba_ext (by simp [ByteArray.data_append])
theorem cat_tag (x : List UInt8) (l : ByteArray) : (⟨#[34]⟩ : ByteArray) ++ mkS x ++ ⟨#[34, 64]⟩ ++ l = mkS (34 :: (x ++ 34 :: 64 :: l.data.toList)) := ba_ext (by simp [ByteArray.data_append])
theorem cat_lit (x : List UInt8) : (⟨#[34]⟩ : ByteArray) ++ mkS x ++ ⟨#[34]⟩ = mkS (34 :: (x ++ [34])) := ba_ext (by simp [ByteArray.data_append])
set_option maxHeartbeats 2000000 in
set_option maxRecDepth 20000 in
theorem r08Text (t : Tm) (w : World) (hs : smallT t) :
    Calls Tryz.prog 142 #[tA t] w fun e w' => e = .returned (.string (mkS (textL t))) ∧ Below w.heap.size w w' := by
  have hb0 : Below w.heap.size w (w.alloc (.cells (tC8 t) 35)) := (Below.refl _ w).alloc (Nat.le_refl _) _
  have hg := heap_alloc_new w (.cells (tC8 t) 35)
  have hI := fun W => r08Iri t.x W (small_le hs).1
  have hL := fun W => r08Literal t.x W (small_le hs).1
  have hY := fun W => r08Iri t.y W (small_le hs).2.2
  obtain ⟨res, hres⟩ : ∃ r, textL t = r := ⟨_, rfl⟩
  rw [hres]
  have HT : Hid (mkS res = mkS (textL t)) := by show _ = _; rw [hres]
  clear hres
  unfold textL at HT
  have hsi : (mkS (iriL t.x.data.toList)).size ≤ 6000000 := by rw [mkS_size]; exact iri_small hs.1
  have hsy : (mkS (iriL t.y.data.toList)).size ≤ 6000000 := by rw [mkS_size]; exact iri_small hs.2.2
  have hsl : (mkS (litL t.x.data.toList)).size ≤ 6000000 := by rw [mkS_size]; exact Nat.le_trans (lit_small hs.1) (by decide)
  have hx := hs.1
  have hl := hs.2.1
  rw [mk_if, mk_if, mk_if, mk_if, ← cat_iri, ← cat_blank, ← cat_typed, ← cat_tag, ← cat_lit] at HT
  generalize mkS (iriL t.x.data.toList) = xi at *
  generalize mkS (iriL t.y.data.toList) = yi at *
  generalize mkS (litL t.x.data.toList) = xl at *
  go_enter Tryz.func142, Tryz.ntmps142
  go_upto_region 1 with fail
  change Code.wp _ _ _ _ (w.alloc (.cells (tC8 t) 35))
  generalize w.alloc (.cells (tC8 t) 35) = W at *
  have c0 := cells_at hg 0 rfl
  have c1 := cells_at hg 1 rfl
  have c2 := cells_at hg 2 rfl
  have c3 := cells_at hg 3 rfl
  have HB := Lib.hid hb0
  clear hg hb0 hs
  by_cases h1 : t.k = 1
  · rw [if_pos h1] at HT
    go_wp2_with (go_at_call 173; with_reducible refine (hI _).mono ?_; rintro e w1 ⟨rfl, b1⟩)
    go_ret
    exact ⟨by rw [HT.out]; rfl, below_tr HB.out b1⟩
  rw [if_neg h1] at HT
  by_cases h2 : t.k = 2
  · rw [if_pos h2] at HT
    go_wp2_with fail
    go_ret
    exact ⟨by rw [HT.out]; rfl, HB.out⟩
  rw [if_neg h2] at HT
  have R1 := fun d os => cell_on c1 (below_regrown W d os)
  have R2 := fun d os => cell_on c2 (below_regrown W d os)
  have R3 := fun d os => cell_on c3 (below_regrown W d os)
  by_cases h4 : t.k = 4
  · rw [if_pos h4] at HT
    go_wp2_with fail
    refine wp_region_quiet_below (by kernel_rfl) (by kernel_rfl) ?_; (repeat (any_goals (go_big_quiet_step ((first | (go_at_call 174; with_reducible exact Calls.regrown_of (hL _)) | (go_at_call 173; with_reducible exact Calls.regrown_of (hY _))))))); all_goals (refine wpQuiet_nil ?_; intro _ hw9; obtain ⟨⟨d9, os9⟩, hw8⟩ := hw9; subst hw8)
    go_wp2
    go_ret
    exact ⟨by rw [HT.out]; rfl, HB.out.trans ((below_regrown _ _ _).mono HB.out.size)⟩
  rw [if_neg h4] at HT
  cases he : t.l.toList.isEmpty
  · rw [if_neg (by rw [← ByteArray.toList_eq]; intro h; rw [h] at he; cases he)] at HT
    go_wp2_with fail
    refine wp_region_quiet_below (by kernel_rfl) (by kernel_rfl) ?_; (repeat (any_goals (go_big_quiet_step ((go_at_call 174; with_reducible exact Calls.regrown_of (hL _)))))); all_goals (refine wpQuiet_nil ?_; intro _ hw9; obtain ⟨⟨d9, os9⟩, hw8⟩ := hw9; subst hw8)
    go_wp2
    go_ret
    exact ⟨by rw [HT.out]; rfl, HB.out.trans ((below_regrown _ _ _).mono HB.out.size)⟩
  · rw [if_pos (by rw [← ByteArray.toList_eq]; exact List.isEmpty_iff.1 he)] at HT
    go_wp2_with (go_at_call 174; with_reducible refine (hL _).mono ?_; rintro e w1 ⟨rfl, b1⟩)
    go_ret
    exact ⟨by rw [HT.out]; rfl, below_tr HB.out b1⟩
set_option maxHeartbeats 1000000 in
set_option maxRecDepth 20000 in
theorem r08Show (t : Tm) (w : World) (hs : smallT t) :
    Calls Tryz.prog 110 #[tA t] w fun e w' => e = .returned (.tuple #[.string (showP t).1, .int .i64 (showP t).2]) ∧ Below w.heap.size w w' := by
  have hb0 : Below w.heap.size w (w.alloc (.cells #[.int .i64 t.k, .string t.x, .string t.l, .string t.y] 35)) := (Below.refl _ w).alloc (Nat.le_refl _) _
  have hR := r08Right' t (w.alloc (.cells #[.int .i64 t.k, .string t.x, .string t.l, .string t.y] 35)) hs
  have hT := fun W => r08Text t W hs
  have HB := Lib.hid hb0
  unfold showP
  cases hr : rightB t
  · rw [hr] at hR
    clear hT
    go_enter Tryz.func110, Tryz.ntmps110
    go_wp2_with (go_at_call 141; with_reducible refine hR.mono ?_; rintro e w1 ⟨rfl, b1⟩)
    go_ret2
    exact ⟨rfl, below_tr HB.out b1⟩
  · rw [hr] at hR
    rw [if_pos rfl]
    have hsz := mkS_size (textL t)
    have hblk := heap_alloc_new w (.cells #[.int .i64 t.k, .string t.x, .string t.l, .string t.y] 35)
    go_enter Tryz.func110, Tryz.ntmps110
    go_wp2_with (go_at_call 141; with_reducible refine hR.mono ?_)
    rintro e w1 ⟨rfl, b1⟩
    have hbk := (b1.block w.heap.size (by simp)).trans hblk
    have c0 := cells_at hbk 0 rfl
    have c1 := cells_at hbk 1 rfl
    have c2 := cells_at hbk 2 rfl
    have c3 := cells_at hbk 3 rfl
    have hT1 := hT w1
    have HB1 := Lib.hid (below_tr HB.out b1)
    clear hT hR b1 hbk hblk hb0
    by_cases hl : 4096 < (textL t).length
    · go_wp2_with (go_at_call 142; with_reducible refine hT1.mono ?_; rintro e w2 ⟨rfl, b2⟩)
      go_ret2
      exact ⟨by simp, below_tr HB1.out b2⟩
    · go_wp2_with (go_at_call 142; with_reducible refine hT1.mono ?_; rintro e w2 ⟨rfl, b2⟩)
      go_ret2
      exact ⟨by simp, below_tr HB1.out b2⟩
end Go.Proofs.YtffpgandgajihaaGreatDoor
namespace Go.Proofs.YtffpgandgajihaaGreatDoor
open Go Go.RowKit Um Fm Tx

theorem smallT_of {t : Tm} (h : t.x.size + t.l.size + t.y.size ≤ 1000000) : smallT t := by unfold smallT; omega
theorem termIri (s : ByteArray) (w : World) : Calls Tryz.prog 16 #[.string s] w fun e w' => e = .returned (tA ⟨1, s, ⟨#[]⟩, ⟨#[]⟩⟩) ∧ Below w.heap.size w w' := by
  go_enter Tryz.func16, Tryz.ntmps16
  go_wp2
  refine bodyPost_ret (v := tA ⟨1, s, ⟨#[]⟩, ⟨#[]⟩⟩) (by simp [results, Tryz.results16, go_sem]) rfl ⟨rfl, (by repeat (first | exact Below.refl _ _ | assumption | exact (Below.refl _ _).alloc (Nat.le_refl _) _ | refine below_tr ?_ (by assumption) | refine below_alloc ?_ | refine below_tr ?_ (below_regrown _ _ _)))⟩
theorem lit_ab : lowS ⟨#[69, 110]⟩ = ⟨#[101, 110]⟩ := by decide
theorem showIri : showP ⟨1, ⟨#[97, 32, 98]⟩, ⟨#[]⟩, ⟨#[]⟩⟩ = (⟨#[60, 97, 92, 117, 48, 48, 50, 48, 98, 62]⟩, 0) := by kernel_rfl
theorem showTag : showP ⟨3, ⟨#[97, 34, 98]⟩, ⟨#[101, 110]⟩, ⟨#[]⟩⟩ = (⟨#[34, 97, 92, 34, 98, 34, 64, 101, 110]⟩, 0) := by kernel_rfl
end Go.Proofs.YtffpgandgajihaaGreatDoor
namespace Go.Proofs.YtffpgandgajihaaGreatDoor
open Go Go.RowKit Um Fm Tx

abbrev tC (t : Tm) : Array Value := #[.int .i64 t.k, .string t.x, .string t.l, .string t.y]
def hugeT (t : Tm) : Prop := t.x.size ≤ 281474976710656 ∧ t.l.size ≤ 281474976710656 ∧ t.y.size ≤ 281474976710656
def szT (t : Tm) : Nat := t.x.size + t.l.size + t.y.size
def szL (l : List Tm) : Nat := (l.map szT).sum
theorem szL_snoc (l : List Tm) (k : Nat) (t : Tm) (h : l[k]? = some t) : szL (l.take (k + 1)) = szL (l.take k) + szT t := by
  unfold szL
  rw [List.take_add_one, h, Option.toList_some, List.map_append, List.sum_append]
  simp
theorem szL_le (l : List Tm) (hz : ∀ t ∈ l, hugeT t) : ∀ k, k ≤ l.length → szL (l.take k) ≤ k * 844424930131968
  | 0, _ => by simp [szL]
  | k + 1, hk => by
    have hx := List.getElem?_eq_getElem (show k < l.length by omega)
    rw [szL_snoc l k _ hx]
    have h1 := szL_le l hz k (by omega)
    have h2 := hz _ (List.getElem_mem (show k < l.length by omega))
    unfold hugeT at h2
    unfold szT
    rw [Nat.succ_mul]; omega
theorem flat_at (l : List Tm) (k i : Nat) (t : Tm) (hk : l[k]? = some t) (hi : i < 4) : (l.flatMap fun t => (tC t).toList)[k * 4 + i]? = (tC t)[i]? := by
  induction l generalizing k with
  | nil => simp at hk
  | cons s r ih =>
    rw [List.flatMap_cons]
    cases k with
    | zero =>
      simp only [List.getElem?_cons_zero, Option.some.injEq] at hk
      subst hk
      rw [List.getElem?_append_left (by simp; omega)]
      simp
    | succ k =>
      simp only [List.getElem?_cons_succ] at hk
      have e : ((tC s).toList).length = 4 := rfl
      rw [List.getElem?_append_right (by rw [e]; omega), e, show (k + 1) * 4 + i - 4 = k * 4 + i by omega]
      exact ih k hk
theorem tp_law1 (a b c : Tm) : cmpTp ⟨a, b, c⟩ ⟨a, c, b⟩ = cmpTm b c := by
  unfold cmpTp
  simp only
  rw [ordF_Tm.self a, orZ_zero, ordF_Tm.neg b c]
  unfold orZ; split <;> omega
theorem tp_law3 (a b c : Tm) : cmpTp ⟨b, a, a⟩ ⟨a, c, c⟩ = orZ (-cmpTm a b) (cmpTm a c) := by
  unfold cmpTp
  simp only
  rw [ordF_Tm.neg a b]
  unfold orZ; split <;> (try split) <;> omega
theorem cmp_eq (a b : Tm) : cmpTm a b = 0 ↔ a = b := ⟨ordF_Tm.zero a b, fun h => by rw [h]; exact ordF_Tm.self b⟩
end Go.Proofs.YtffpgandgajihaaGreatDoor
namespace Go.Proofs.YtffpgandgajihaaGreatDoor
open Go Go.RowKit Um Fm Lx Tx

theorem cmpW_k {a b : Tm} (h : Lib.compareInt a.k b.k ≠ 0) : cmpW a b = Lib.compareInt a.k b.k := by unfold cmpW orZ; rw [if_neg h]
theorem cmpW_x {a b : Tm} (h : a.k = b.k) (h2 : cmpS (bl a.x) (bl b.x) ≠ 0) : cmpW a b = cmpS (bl a.x) (bl b.x) := by
  unfold cmpW orZ; rw [if_pos ((compareInt_zero _ _).2 h), if_neg h2]
theorem cmpW_l {a b : Tm} (h : a.k = b.k) (h1 : cmpS (bl a.x) (bl b.x) = 0) (h2 : cmpS (bl a.l) (bl b.l) ≠ 0) : cmpW a b = cmpS (bl a.l) (bl b.l) := by
  unfold cmpW orZ; rw [if_pos ((compareInt_zero _ _).2 h), if_pos h1, if_neg h2]
theorem cmpW_y {a b : Tm} (h : a.k = b.k) (h1 : cmpS (bl a.x) (bl b.x) = 0) (h2 : cmpS (bl a.l) (bl b.l) = 0) : cmpW a b = cmpS (bl a.y) (bl b.y) := by
  unfold cmpW orZ; rw [if_pos ((compareInt_zero _ _).2 h), if_pos h1, if_pos h2]
theorem cmp_W {a b : Tm} (ha : rightB a = false) (hb : rightB b = false) : cmpTm a b = cmpW a b := by
  unfold cmpTm; rw [ha, hb, if_neg (by decide), if_neg (by decide), if_neg (by decide)]
theorem eqS {x y : ByteArray} (h : (x.toList == y.toList) = true) : cmpS (bl x) (bl y) = 0 := by
  rw [ByteArray.toList_eq, ByteArray.toList_eq] at h
  exact (cmpS_zero _ _).2 (eq_of_beq h)
theorem neS {x y : ByteArray} (h : (x.toList == y.toList) = false) : cmpS (bl x) (bl y) ≠ 0 := by
  rw [ByteArray.toList_eq, ByteArray.toList_eq] at h
  intro h2
  rw [show x.data.toList = y.data.toList from (cmpS_zero _ _).1 h2] at h
  simp at h
end Go.Proofs.YtffpgandgajihaaGreatDoor
