/- How terms and triples stand, in plain words. The program's package term, walked: Show, Compare, Triples and what they call. -/
import Derived.Test.YtheeklkcaapkbaaGreatDoorJTxMath
import Derived.Test.YtheeklkcaapkbaaGreatDoorJWr4
namespace Go.Proofs.YtheeklkcaapkbaaGreatDoor.Tx
open Go Go.RowKit Um Fm Lx

def orZ (a b : Int) : Int := if a = 0 then b else a
theorem orZ_zero (b : Int) : orZ 0 b = b := rfl
theorem orZ_right (a : Int) : orZ a 0 = a := by unfold orZ; split <;> omega
/-- A way to compare. -/
structure OrdF {α : Type} (f : α → α → Int) : Prop where
  neg : ∀ a b, f b a = -f a b
  zero : ∀ a b, f a b = 0 → a = b
  tr : ∀ a b c, f a b < 0 → f b c < 0 → f a c < 0
  rng : ∀ a b, -1 ≤ f a b ∧ f a b ≤ 1
theorem OrdF.self {α : Type} {f : α → α → Int} (h : OrdF f) (a : α) : f a a = 0 := by have := h.neg a a; omega
theorem OrdF.le {α : Type} {f : α → α → Int} (h : OrdF f) {a b c : α} (h1 : f a b ≤ 0) (h2 : f b c ≤ 0) : f a c ≤ 0 := by
  rcases Int.lt_or_eq_of_le h1 with h1 | h1
  · rcases Int.lt_or_eq_of_le h2 with h2 | h2
    · exact Int.le_of_lt (h.tr a b c h1 h2)
    · rw [← h.zero _ _ h2]; omega
  · rw [h.zero _ _ h1]; exact h2
theorem ordF_list : OrdF cmpS where
  neg := fun a b => cmpS_neg a b
  zero := fun a b h => (cmpS_zero a b).1 h
  tr := fun a b c => cmpS_tr a b c
  rng := fun a b => by unfold cmpS; split <;> (try split) <;> omega
theorem ordF_int : OrdF Lib.compareInt where
  neg := fun a b => by unfold Lib.compareInt; repeat' split
                       all_goals omega
  zero := fun a b h => (compareInt_zero a b).1 h
  tr := fun a b c => by unfold Lib.compareInt; repeat' split
                        all_goals omega
  rng := fun a b => by unfold Lib.compareInt; repeat' split
                       all_goals omega
theorem ordF_map {α β : Type} {f : β → β → Int} (h : OrdF f) (g : α → β) (hg : ∀ a b, g a = g b → a = b) : OrdF (fun a b => f (g a) (g b)) where
  neg := fun _a _b => h.neg _ _
  zero := fun a b e => hg a b (h.zero _ _ e)
  tr := fun _a _b _c => h.tr _ _ _
  rng := fun _a _b => h.rng _ _
theorem ordF_or {α β : Type} {f : α → α → Int} {g : β → β → Int} (hf : OrdF f) (hg : OrdF g) : OrdF (fun (a b : α × β) => orZ (f a.1 b.1) (g a.2 b.2)) where
  neg := fun a b => by
    have := hf.neg a.1 b.1; have := hg.neg a.2 b.2
    unfold orZ; repeat' split
    all_goals omega
  zero := fun a b e => by
    unfold orZ at e
    split at e
    · rename_i h; exact Prod.ext (hf.zero _ _ h) (hg.zero _ _ e)
    · rename_i h; exact absurd e h
  tr := fun a b c h1 h2 => by
    unfold orZ at h1 h2 ⊢
    by_cases e1 : f a.1 b.1 = 0
    · rw [if_pos e1] at h1
      have q1 := hf.zero _ _ e1
      rw [q1]
      by_cases e2 : f b.1 c.1 = 0
      · rw [if_pos e2] at h2 ⊢; exact hg.tr _ _ _ h1 h2
      · rw [if_neg e2] at h2 ⊢; exact h2
    · rw [if_neg e1] at h1
      by_cases e2 : f b.1 c.1 = 0
      · rw [← hf.zero _ _ e2, if_neg e1]; exact h1
      · rw [if_neg e2] at h2
        have h3 := hf.tr _ _ _ h1 h2
        rw [if_neg (by omega)]; exact h3
  rng := fun a b => by
    have := hf.rng a.1 b.1; have := hg.rng a.2 b.2
    unfold orZ; split <;> omega
abbrev bl (s : ByteArray) : List UInt8 := s.data.toList
/-- Two terms that are not right. -/
def cmpW (a b : Tm) : Int := orZ (Lib.compareInt a.k b.k) (orZ (cmpS (bl a.x) (bl b.x)) (orZ (cmpS (bl a.l) (bl b.l)) (cmpS (bl a.y) (bl b.y))))
theorem ordF_W : OrdF cmpW :=
  ordF_map (ordF_or ordF_int (ordF_or ordF_list (ordF_or ordF_list ordF_list))) (fun t : Tm => (t.k, bl t.x, bl t.l, bl t.y)) fun a b h => by
    obtain ⟨k, x, l, y⟩ := a; obtain ⟨k', x', l', y'⟩ := b
    simp only [Prod.mk.injEq] at h
    rw [h.1, ba_ext h.2.1, ba_ext h.2.2.1, ba_ext h.2.2.2]
/-- How two terms stand. -/
def cmpTm (a b : Tm) : Int := if rightB a && rightB b then cmpS (textL a) (textL b) else if rightB a then -1 else if rightB b then 1 else cmpW a b
theorem ordF_Tm : OrdF cmpTm where
  neg := fun a b => by
    have h1 := cmpS_neg (textL a) (textL b); have h2 := ordF_W.neg a b
    unfold cmpTm
    cases rightB a <;> cases rightB b <;> simp [h1, h2]
  zero := fun a b h => by
    unfold cmpTm at h
    cases ha : rightB a <;> cases hb : rightB b <;> rw [ha, hb] at h
    · exact ordF_W.zero a b h
    · cases h
    · cases h
    · exact text_inj ha hb ((cmpS_zero _ _).1 h)
  tr := fun a b c h1 h2 => by
    unfold cmpTm at h1 h2 ⊢
    cases ha : rightB a <;> cases hb : rightB b <;> cases hc : rightB c <;> rw [ha, hb] at h1 <;> rw [hb, hc] at h2 <;>
      simp only [Bool.and_true, Bool.and_false, if_true, Bool.false_eq_true, if_false] at h1 h2 ⊢
    · exact ordF_W.tr a b c h1 h2
    · omega
    · omega
    · omega
    · omega
    · omega
    · omega
    · exact cmpS_tr _ _ _ h1 h2
  rng := fun a b => by
    have h1 := ordF_list.rng (textL a) (textL b); have h2 := ordF_W.rng a b
    unfold cmpTm
    split
    · exact h1
    split
    · omega
    split
    · omega
    · exact h2
/-- A triple. -/
structure Tp where
  s : Tm
  p : Tm
  o : Tm
def cmpTp (a b : Tp) : Int := orZ (cmpTm a.s b.s) (orZ (cmpTm a.p b.p) (cmpTm a.o b.o))
theorem ordF_Tp : OrdF cmpTp :=
  ordF_map (ordF_or ordF_Tm (ordF_or ordF_Tm ordF_Tm)) (fun t : Tp => (t.s, t.p, t.o)) fun a b h => by
    obtain ⟨s, p, o⟩ := a; obtain ⟨s', p', o'⟩ := b
    simp only [Prod.mk.injEq] at h
    rw [h.1, h.2.1, h.2.2]
/-- A triple that may be. -/
def tripB (t : Tp) : Bool := (t.s.k == 1 || t.s.k == 2) && t.p.k == 1 && rightB t.s && rightB t.p && rightB t.o
def rankT (t : Tm) : Int := if t.k = 1 then 1 else if t.k = 2 then 2 else 0
theorem head_lt (a b : UInt8) (x y : List UInt8) (h : a < b) : cmpS (a :: x) (b :: y) < 0 := (cmpS_lt _ _).2 (List.cons_lt_cons_iff.2 (.inl h))
theorem rank_text {t : Tm} (_h : rightB t = true) : ∃ r, textL t = (if t.k = 1 then 60 else if t.k = 2 then 95 else 34) :: r := by
  unfold textL
  split
  · exact ⟨_, rfl⟩
  split
  · exact ⟨_, rfl⟩
  split
  · exact ⟨_, rfl⟩
  split
  · exact ⟨_, rfl⟩
  · exact ⟨_, rfl⟩
theorem rank_lt {a b : Tm} (ha : rightB a = true) (hb : rightB b = true) (h : rankT a < rankT b) : cmpTm a b < 0 := by
  unfold cmpTm
  rw [ha, hb, if_pos rfl]
  obtain ⟨r, hr⟩ := rank_text ha
  obtain ⟨q, hq⟩ := rank_text hb
  rw [hr, hq]
  apply head_lt
  unfold rankT at h
  by_cases a1 : a.k = 1 <;> by_cases a2 : a.k = 2 <;> by_cases b1 : b.k = 1 <;> by_cases b2 : b.k = 2 <;> simp [a1, a2, b1, b2] at h ⊢ <;> first | omega | decide
theorem right_lt {a b : Tm} (ha : rightB a = true) (hb : rightB b = false) : cmpTm a b < 0 := by unfold cmpTm; rw [ha, hb, if_neg (by decide), if_pos rfl]; decide
end Go.Proofs.YtheeklkcaapkbaaGreatDoor.Tx
namespace Go.Proofs.YtheeklkcaapkbaaGreatDoor
open Go Go.RowKit Um Fm Tx

theorem nanS (s : ByteArray) (w : World) : Calls Tryz.prog 48 #[.string s] w fun e w' => e = .returned (.bool false) ∧ w = w' := by
  go_enter Tryz.func48, Tryz.ntmps48
  go_wp2
  all_goals (go_ret; exact ⟨by simp, rfl⟩)
theorem cmpStr (x y : ByteArray) (w : World) :
    Calls Tryz.prog 32 #[.string x, .string y] w fun e w' => e = .returned (.int .i64 (cmpS x.toList y.toList)) ∧ w = w' := by
  go_enter Tryz.func32, Tryz.ntmps32
  go_wp2_with ((refine (nanS _ _).mono ?_); (rintro e w1 ⟨rfl, rfl⟩))
  all_goals (go_ret; exact ⟨by simp_all [cmpS], rfl⟩)
theorem nanK (s : Int) (w : World) : Calls Tryz.prog 54 #[.int .i64 s] w fun e w' => e = .returned (.bool false) ∧ w = w' := by
  go_enter Tryz.func54, Tryz.ntmps54
  go_wp2
  all_goals (go_ret; exact ⟨by simp, rfl⟩)
theorem cmpKnd (x y : Int) (w : World) :
    Calls Tryz.prog 35 #[.int .i64 x, .int .i64 y] w fun e w' => e = .returned (.int .i64 (Lib.compareInt x y)) ∧ w = w' := by
  go_enter Tryz.func35, Tryz.ntmps35
  go_wp2_with ((refine (nanK _ _).mono ?_); (rintro e w1 ⟨rfl, rfl⟩))
  all_goals (go_ret; refine ⟨?_, rfl⟩; unfold Lib.compareInt; simp_all; try (repeat' split) <;> omega)
def orL : List Int → Int
  | [] => 0
  | x :: r => if x = 0 then orL r else x
theorem orL_cons (x : Int) (r : List Int) : orL (x :: r) = orZ x (orL r) := rfl
theorem cmpOr (g : Nat) (xs : List Int) (n c : Nat) (w : World) (hr : Rd w (some ⟨g, 0, none⟩) (xs.map (Value.int .i64))) (hn : xs.length = n) (hl : n ≤ 10) :
    Calls Tryz.prog 34 #[.slice (some ⟨g, 0, none⟩) n c] w fun e w' => e = .returned (.int .i64 (orL xs)) ∧ w = w' := by
  subst hn
  go_enter Tryz.func34, Tryz.ntmps34
  go_wp2
  go_loop [5, 8] (fun v i => ∃ k : Nat, k ≤ xs.length ∧ i = .int .i64 k ∧ Hid (orL xs = orL (xs.drop k))) (fun _ i => xs.length - (intOf i).toNat)
  case atStart => exact ⟨0, by omega, rfl, rfl⟩
  case round =>
    obtain ⟨k, hk, rfl, H⟩ := hrel
    by_cases hlt : k < xs.length
    · obtain ⟨y, hy⟩ : ∃ y, xs[k]? = some y := ⟨_, List.getElem?_eq_getElem hlt⟩
      obtain ⟨g', o', he, hcx⟩ := hr.at_ (j := k) (u := .int .i64 y) (by rw [List.getElem?_map, hy]; rfl)
      injection he with he; injection he with he1 he2 _
      subst he1; subst he2
      rw [Nat.zero_add] at hcx
      have hd : xs.drop k = y :: xs.drop (k + 1) := drop_cons_of hy
      have H2 : Hid (orL xs = if y = 0 then orL (xs.drop (k + 1)) else y) := by show _ = _; rw [H.out, hd]; rfl
      clear H hd hy hr
      by_cases hq : y = 0
      · go_wp2
        go_round
        case rel => exact ⟨k + 1, by omega, by go_num, by show _ = _; rw [H2.out, if_pos hq]⟩
        case measure => simp [intOf]; omega
      · go_wp2
        go_ret
        exact ⟨by rw [H2.out, if_neg hq]; rfl, rfl⟩
    · have H2 : Hid (orL xs = 0) := by show _ = _; rw [H.out, List.drop_eq_nil_of_le (by omega)]; rfl
      clear H hr
      go_wp2
      go_ret
      exact ⟨by rw [H2.out]; rfl, rfl⟩
abbrev tA (t : Tm) : Value := .agg #[.int .i64 t.k, .string t.x, .string t.l, .string t.y]
def smallT (t : Tm) : Prop := t.x.size ≤ 1000000 ∧ t.l.size ≤ 1000000 ∧ t.y.size ≤ 1000000
def showP (t : Tm) : ByteArray × Int := if rightB t then (if 4096 < (textL t).length then (⟨#[]⟩, 3) else (mkS (textL t), 0)) else (⟨#[]⟩, 2)
theorem mkS_size (l : List UInt8) : (mkS l).size = l.length := by show l.toArray.size = _; rw [List.size_toArray]
theorem mkS_list (l : List UInt8) : (mkS l).toList = l := by rw [ByteArray.toList_eq]
theorem termRight' (t : Tm) (w : World) (hC : CtxT w) (hs : smallT t) : Calls Tryz.prog 12 #[tA t] w fun e w' => e = .returned (.bool (rightB t)) ∧ Below w.heap.size w w' :=
  termRight t w hC.1 (Nat.le_trans hs.1 (by omega)) (Nat.le_trans hs.2.1 (by omega)) (Nat.le_trans hs.2.2 (by omega))
theorem termText' (t : Tm) (w : World) (hC : CtxT w) (h : rightB t = true) (hs : smallT t) : Calls Tryz.prog 33 #[tA t] w fun e w' => e = .returned (.string (mkS (textL t))) ∧ Below w.heap.size w w' :=
  termText t w hC h hs.1 hs.2.1 hs.2.2
set_option maxHeartbeats 1000000 in
set_option maxRecDepth 20000 in
theorem termShow (t : Tm) (w : World) (hC : CtxT w) (hs : smallT t) :
    Calls Tryz.prog 19 #[tA t] w fun e w' => e = .returned (.tuple #[.string (showP t).1, .int .i64 (showP t).2]) ∧ Below w.heap.size w w' := by
  have hb0 : Below w.heap.size w (w.alloc (.cells #[.int .i64 t.k, .string t.x, .string t.l, .string t.y] 24)) := (Below.refl _ w).alloc (Nat.le_refl _) _
  have hR := termRight' t _ (hC.step hb0) hs
  have hT := fun W hb h => termText' t W (hC.step hb) h hs
  have HB := Lib.hid hb0
  unfold showP
  cases hr : rightB t
  · rw [hr] at hR
    clear hT
    go_enter Tryz.func19, Tryz.ntmps19
    go_wp2_with (go_at_call 12; with_reducible refine hR.mono ?_; rintro e w1 ⟨rfl, b1⟩)
    go_ret2
    exact ⟨rfl, below_tr HB.out b1⟩
  · rw [hr] at hR
    rw [if_pos rfl]
    have hsz := mkS_size (textL t)
    have hbt := hb0.block w.heap.size
    have hblk := heap_alloc_new w (.cells #[.int .i64 t.k, .string t.x, .string t.l, .string t.y] 24)
    go_enter Tryz.func19, Tryz.ntmps19
    go_wp2_with (go_at_call 12; with_reducible refine hR.mono ?_)
    rintro e w1 ⟨rfl, b1⟩
    have hbk := (b1.block w.heap.size (by simp)).trans hblk
    have c0 : w1.cell? ⟨w.heap.size, 0, none⟩ = some (.int .i64 t.k) := by rw [Lib.cell_of_heap hbk]; rfl
    have c1 : w1.cell? ⟨w.heap.size, 1, none⟩ = some (.string t.x) := by rw [Lib.cell_of_heap hbk]; rfl
    have c2 : w1.cell? ⟨w.heap.size, 2, none⟩ = some (.string t.l) := by rw [Lib.cell_of_heap hbk]; rfl
    have c3 : w1.cell? ⟨w.heap.size, 3, none⟩ = some (.string t.y) := by rw [Lib.cell_of_heap hbk]; rfl
    have hT1 := hT w1 (below_tr HB.out b1) hr
    have HB1 := Lib.hid (below_tr HB.out b1)
    clear hT hR b1 hbk hblk hbt hb0
    by_cases hl : 4096 < (textL t).length
    · go_wp2_with (go_at_call 33; with_reducible refine hT1.mono ?_; rintro e w2 ⟨rfl, b2⟩)
      go_ret2
      exact ⟨by simp, below_tr HB1.out b2⟩
    · go_wp2_with (go_at_call 33; with_reducible refine hT1.mono ?_; rintro e w2 ⟨rfl, b2⟩)
      go_ret2
      exact ⟨by simp, below_tr HB1.out b2⟩
end Go.Proofs.YtheeklkcaapkbaaGreatDoor
