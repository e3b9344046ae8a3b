/- The program's package term, walked: Show, Compare, Triples and what they call. -/
import Derived.Test.YtheeklkcaapkbaaGreatDoorJWr4
import Derived.Test.YtheeklkcaapkbaaGreatDoorJTxOrd
namespace Go.Proofs.YtheeklkcaapkbaaGreatDoor
open Go Go.RowKit Um Fm Tx

theorem nanS (s : ByteArray) (w : World) : Calls Tryz.prog 48 #[.string s] w fun e w' => e = .returned (.bool false) ∧ w = w' := by
  go_enter Tryz.func48, Tryz.ntmps48
  go_wp2
  all_goals (go_ret; exact ⟨by simp, rfl⟩)
theorem cmpStr (x y : ByteArray) (w : World) :
    Calls Tryz.prog 32 #[.string x, .string y] w fun e w' => e = .returned (.int .i64 (cmpS x.toList y.toList)) ∧ w = w' := by
  go_enter Tryz.func32, Tryz.ntmps32
  go_wp2_with ((refine (nanS _ _).mono ?_); (rintro e w1 ⟨rfl, rfl⟩))
  all_goals (go_ret; exact ⟨by simp_all [cmpS], rfl⟩)
theorem nanK (s : Int) (w : World) : Calls Tryz.prog 54 #[.int .i64 s] w fun e w' => e = .returned (.bool false) ∧ w = w' := by
  go_enter Tryz.func54, Tryz.ntmps54
  go_wp2
  all_goals (go_ret; exact ⟨by simp, rfl⟩)
theorem cmpKnd (x y : Int) (w : World) :
    Calls Tryz.prog 35 #[.int .i64 x, .int .i64 y] w fun e w' => e = .returned (.int .i64 (Lib.compareInt x y)) ∧ w = w' := by
  go_enter Tryz.func35, Tryz.ntmps35
  go_wp2_with ((refine (nanK _ _).mono ?_); (rintro e w1 ⟨rfl, rfl⟩))
  all_goals (go_ret; refine ⟨?_, rfl⟩; unfold Lib.compareInt; simp_all; try (repeat' split) <;> omega)
def orL : List Int → Int
  | [] => 0
  | x :: r => if x = 0 then orL r else x
theorem orL_cons (x : Int) (r : List Int) : orL (x :: r) = orZ x (orL r) := rfl
theorem cmpOr (g : Nat) (xs : List Int) (n c : Nat) (w : World) (hr : Rd w (some ⟨g, 0, none⟩) (xs.map (Value.int .i64))) (hn : xs.length = n) (hl : n ≤ 10) :
    Calls Tryz.prog 34 #[.slice (some ⟨g, 0, none⟩) n c] w fun e w' => e = .returned (.int .i64 (orL xs)) ∧ w = w' := by
  subst hn
  go_enter Tryz.func34, Tryz.ntmps34
  go_wp2
  go_loop [5, 8] (fun v i => ∃ k : Nat, k ≤ xs.length ∧ i = .int .i64 k ∧ Hid (orL xs = orL (xs.drop k))) (fun _ i => xs.length - (intOf i).toNat)
  case atStart => exact ⟨0, by omega, rfl, rfl⟩
  case round =>
    obtain ⟨k, hk, rfl, H⟩ := hrel
    by_cases hlt : k < xs.length
    · obtain ⟨y, hy⟩ : ∃ y, xs[k]? = some y := ⟨_, List.getElem?_eq_getElem hlt⟩
      obtain ⟨g', o', he, hcx⟩ := hr.at_ (j := k) (u := .int .i64 y) (by rw [List.getElem?_map, hy]; rfl)
      injection he with he; injection he with he1 he2 _
      subst he1; subst he2
      rw [Nat.zero_add] at hcx
      have hd : xs.drop k = y :: xs.drop (k + 1) := drop_cons_of hy
      have H2 : Hid (orL xs = if y = 0 then orL (xs.drop (k + 1)) else y) := by show _ = _; rw [H.out, hd]; rfl
      clear H hd hy hr
      by_cases hq : y = 0
      · go_wp2
        go_round
        case rel => exact ⟨k + 1, by omega, by go_num, by show _ = _; rw [H2.out, if_pos hq]⟩
        case measure => simp [intOf]; omega
      · go_wp2
        go_ret
        exact ⟨by rw [H2.out, if_neg hq]; rfl, rfl⟩
    · have H2 : Hid (orL xs = 0) := by show _ = _; rw [H.out, List.drop_eq_nil_of_le (by omega)]; rfl
      clear H hr
      go_wp2
      go_ret
      exact ⟨by rw [H2.out]; rfl, rfl⟩
abbrev tA (t : Tm) : Value := .agg #[.int .i64 t.k, .string t.x, .string t.l, .string t.y]
def smallT (t : Tm) : Prop := t.x.size ≤ 1000000 ∧ t.l.size ≤ 1000000 ∧ t.y.size ≤ 1000000
def showP (t : Tm) : ByteArray × Int := if rightB t then (if 4096 < (textL t).length then (⟨#[]⟩, 3) else (mkS (textL t), 0)) else (⟨#[]⟩, 2)
theorem mkS_size (l : List UInt8) : (mkS l).size = l.length := by show l.toArray.size = _; rw [List.size_toArray]
theorem mkS_list (l : List UInt8) : (mkS l).toList = l := by rw [ByteArray.toList_eq]
theorem termRight' (t : Tm) (w : World) (hC : CtxT w) (hs : smallT t) : Calls Tryz.prog 12 #[tA t] w fun e w' => e = .returned (.bool (rightB t)) ∧ Below w.heap.size w w' :=
  termRight t w hC.1 (Nat.le_trans hs.1 (by omega)) (Nat.le_trans hs.2.1 (by omega)) (Nat.le_trans hs.2.2 (by omega))
theorem termText' (t : Tm) (w : World) (hC : CtxT w) (h : rightB t = true) (hs : smallT t) : Calls Tryz.prog 33 #[tA t] w fun e w' => e = .returned (.string (mkS (textL t))) ∧ Below w.heap.size w w' :=
  termText t w hC h hs.1 hs.2.1 hs.2.2
set_option maxHeartbeats 1000000 in
set_option maxRecDepth 20000 in
theorem termShow (t : Tm) (w : World) (hC : CtxT w) (hs : smallT t) :
    Calls Tryz.prog 19 #[tA t] w fun e w' => e = .returned (.tuple #[.string (showP t).1, .int .i64 (showP t).2]) ∧ Below w.heap.size w w' := by
  have hb0 : Below w.heap.size w (w.alloc (.cells #[.int .i64 t.k, .string t.x, .string t.l, .string t.y] 24)) := (Below.refl _ w).alloc (Nat.le_refl _) _
  have hR := termRight' t _ (hC.step hb0) hs
  have hT := fun W hb h => termText' t W (hC.step hb) h hs
  have HB := Lib.hid hb0
  unfold showP
  cases hr : rightB t
  · rw [hr] at hR
    clear hT
    go_enter Tryz.func19, Tryz.ntmps19
    go_wp2_with (go_at_call 12; with_reducible refine hR.mono ?_; rintro e w1 ⟨rfl, b1⟩)
    go_ret2
    exact ⟨rfl, below_tr HB.out b1⟩
  · rw [hr] at hR
    rw [if_pos rfl]
    have hsz := mkS_size (textL t)
    have hbt := hb0.block w.heap.size
    have hblk := heap_alloc_new w (.cells #[.int .i64 t.k, .string t.x, .string t.l, .string t.y] 24)
    go_enter Tryz.func19, Tryz.ntmps19
    go_wp2_with (go_at_call 12; with_reducible refine hR.mono ?_)
    rintro e w1 ⟨rfl, b1⟩
    have hbk := (b1.block w.heap.size (by simp)).trans hblk
    have c0 : w1.cell? ⟨w.heap.size, 0, none⟩ = some (.int .i64 t.k) := by rw [Lib.cell_of_heap hbk]; rfl
    have c1 : w1.cell? ⟨w.heap.size, 1, none⟩ = some (.string t.x) := by rw [Lib.cell_of_heap hbk]; rfl
    have c2 : w1.cell? ⟨w.heap.size, 2, none⟩ = some (.string t.l) := by rw [Lib.cell_of_heap hbk]; rfl
    have c3 : w1.cell? ⟨w.heap.size, 3, none⟩ = some (.string t.y) := by rw [Lib.cell_of_heap hbk]; rfl
    have hT1 := hT w1 (below_tr HB.out b1) hr
    have HB1 := Lib.hid (below_tr HB.out b1)
    clear hT hR b1 hbk hblk hbt hb0
    by_cases hl : 4096 < (textL t).length
    · go_wp2_with (go_at_call 33; with_reducible refine hT1.mono ?_; rintro e w2 ⟨rfl, b2⟩)
      go_ret2
      exact ⟨by simp, below_tr HB1.out b2⟩
    · go_wp2_with (go_at_call 33; with_reducible refine hT1.mono ?_; rintro e w2 ⟨rfl, b2⟩)
      go_ret2
      exact ⟨by simp, below_tr HB1.out b2⟩
end Go.Proofs.YtheeklkcaapkbaaGreatDoor
