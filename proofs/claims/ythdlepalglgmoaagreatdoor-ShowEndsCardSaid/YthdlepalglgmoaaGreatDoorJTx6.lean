/- How terms and triples stand, in plain words. The program's package term, walked: Show, Compare, Triples and what they call. The program's package term, walked: Compare. The program's package term, walked: Triples. -/
import Derived.Test.YthdlepalglgmoaaGreatDoorJTxMath
import Derived.Test.YthdlepalglgmoaaGreatDoorJWr4
namespace Go.Proofs.YthdlepalglgmoaaGreatDoor.Tx
open Go Go.RowKit Um Fm Lx

def orZ (a b : Int) : Int := if a = 0 then b else a
theorem orZ_right (a : Int) : orZ a 0 = a := by unfold orZ; split <;> omega
/-- A way to compare. -/
structure OrdF {α : Type} (f : α → α → Int) : Prop where
  neg : ∀ a b, f b a = -f a b
  zero : ∀ a b, f a b = 0 → a = b
  tr : ∀ a b c, f a b < 0 → f b c < 0 → f a c < 0
  rng : ∀ a b, -1 ≤ f a b ∧ f a b ≤ 1
theorem OrdF.self {α : Type} {f : α → α → Int} (h : OrdF f) (a : α) : f a a = 0 := by have := h.neg a a; omega
theorem OrdF.le {α : Type} {f : α → α → Int} (h : OrdF f) {a b c : α} (h1 : f a b ≤ 0) (h2 : f b c ≤ 0) : f a c ≤ 0 := by
  rcases Int.lt_or_eq_of_le h1 with h1 | h1
  · rcases Int.lt_or_eq_of_le h2 with h2 | h2
    · exact Int.le_of_lt (h.tr a b c h1 h2)
    · rw [← h.zero _ _ h2]; omega
  · rw [h.zero _ _ h1]; exact h2
theorem ordF_list : OrdF cmpS where
  neg := fun a b => cmpS_neg a b
  zero := fun a b h => (cmpS_zero a b).1 h
  tr := fun a b c => cmpS_tr a b c
  rng := fun a b => by unfold cmpS; split <;> (try split) <;> omega
theorem ordF_int : OrdF Lib.compareInt where
  neg := fun a b => by unfold Lib.compareInt; repeat' split
                       all_goals omega
  zero := fun a b h => (compareInt_zero a b).1 h
  tr := fun a b c => by unfold Lib.compareInt; repeat' split
                        all_goals omega
  rng := fun a b => by unfold Lib.compareInt; repeat' split
                       all_goals omega
theorem ordF_map {α β : Type} {f : β → β → Int} (h : OrdF f) (g : α → β) (hg : ∀ a b, g a = g b → a = b) : OrdF (fun a b => f (g a) (g b)) where
  neg := fun _a _b => h.neg _ _
  zero := fun a b e => hg a b (h.zero _ _ e)
  tr := fun _a _b _c => h.tr _ _ _
  rng := fun _a _b => h.rng _ _
theorem ordF_or {α β : Type} {f : α → α → Int} {g : β → β → Int} (hf : OrdF f) (hg : OrdF g) : OrdF (fun (a b : α × β) => orZ (f a.1 b.1) (g a.2 b.2)) where
  neg := fun a b => by
    have := hf.neg a.1 b.1; have := hg.neg a.2 b.2
    unfold orZ; repeat' split
    all_goals omega
  zero := fun a b e => by
    unfold orZ at e
    split at e
    · rename_i h; exact Prod.ext (hf.zero _ _ h) (hg.zero _ _ e)
    · rename_i h; exact absurd e h
  tr := fun a b c h1 h2 => by
    unfold orZ at h1 h2 ⊢
    by_cases e1 : f a.1 b.1 = 0
    · rw [if_pos e1] at h1
      have q1 := hf.zero _ _ e1
      rw [q1]
      by_cases e2 : f b.1 c.1 = 0
      · rw [if_pos e2] at h2 ⊢; exact hg.tr _ _ _ h1 h2
      · rw [if_neg e2] at h2 ⊢; exact h2
    · rw [if_neg e1] at h1
      by_cases e2 : f b.1 c.1 = 0
      · rw [← hf.zero _ _ e2, if_neg e1]; exact h1
      · rw [if_neg e2] at h2
        have h3 := hf.tr _ _ _ h1 h2
        rw [if_neg (by omega)]; exact h3
  rng := fun a b => by
    have := hf.rng a.1 b.1; have := hg.rng a.2 b.2
    unfold orZ; split <;> omega
abbrev bl (s : ByteArray) : List UInt8 := s.data.toList
/-- Two terms that are not right. -/
def cmpW (a b : Tm) : Int := orZ (Lib.compareInt a.k b.k) (orZ (cmpS (bl a.x) (bl b.x)) (orZ (cmpS (bl a.l) (bl b.l)) (cmpS (bl a.y) (bl b.y))))
theorem ordF_W : OrdF cmpW :=
  ordF_map (ordF_or ordF_int (ordF_or ordF_list (ordF_or ordF_list ordF_list))) (fun t : Tm => (t.k, bl t.x, bl t.l, bl t.y)) fun a b h => by
    obtain ⟨k, x, l, y⟩ := a; obtain ⟨k', x', l', y'⟩ := b
    simp only [Prod.mk.injEq] at h
    rw [h.1, ba_ext h.2.1, ba_ext h.2.2.1, ba_ext h.2.2.2]
/-- How two terms stand. -/
def cmpTm (a b : Tm) : Int := if rightB a && rightB b then cmpS (textL a) (textL b) else if rightB a then -1 else if rightB b then 1 else cmpW a b
theorem ordF_Tm : OrdF cmpTm where
  neg := fun a b => by
    have h1 := cmpS_neg (textL a) (textL b); have h2 := ordF_W.neg a b
    unfold cmpTm
    cases rightB a <;> cases rightB b <;> simp [h1, h2]
  zero := fun a b h => by
    unfold cmpTm at h
    cases ha : rightB a <;> cases hb : rightB b <;> rw [ha, hb] at h
    · exact ordF_W.zero a b h
    · cases h
    · cases h
    · exact text_inj ha hb ((cmpS_zero _ _).1 h)
  tr := fun a b c h1 h2 => by
    unfold cmpTm at h1 h2 ⊢
    cases ha : rightB a <;> cases hb : rightB b <;> cases hc : rightB c <;> rw [ha, hb] at h1 <;> rw [hb, hc] at h2 <;>
      simp only [Bool.and_true, Bool.and_false, if_true, Bool.false_eq_true, if_false] at h1 h2 ⊢
    · exact ordF_W.tr a b c h1 h2
    · omega
    · omega
    · omega
    · omega
    · omega
    · omega
    · exact cmpS_tr _ _ _ h1 h2
  rng := fun a b => by
    have h1 := ordF_list.rng (textL a) (textL b); have h2 := ordF_W.rng a b
    unfold cmpTm
    split
    · exact h1
    split
    · omega
    split
    · omega
    · exact h2
/-- A triple. -/
structure Tp where
  s : Tm
  p : Tm
  o : Tm
def cmpTp (a b : Tp) : Int := orZ (cmpTm a.s b.s) (orZ (cmpTm a.p b.p) (cmpTm a.o b.o))
theorem ordF_Tp : OrdF cmpTp :=
  ordF_map (ordF_or ordF_Tm (ordF_or ordF_Tm ordF_Tm)) (fun t : Tp => (t.s, t.p, t.o)) fun a b h => by
    obtain ⟨s, p, o⟩ := a; obtain ⟨s', p', o'⟩ := b
    simp only [Prod.mk.injEq] at h
    rw [h.1, h.2.1, h.2.2]
/-- A triple that may be. -/
def tripB (t : Tp) : Bool := (t.s.k == 1 || t.s.k == 2) && t.p.k == 1 && rightB t.s && rightB t.p && rightB t.o
end Go.Proofs.YthdlepalglgmoaaGreatDoor.Tx
namespace Go.Proofs.YthdlepalglgmoaaGreatDoor
open Go Go.RowKit Um Fm Tx

theorem nanS (s : ByteArray) (w : World) : Calls Tryz.prog 96 #[.string s] w fun e w' => e = .returned (.bool false) ∧ w = w' := by
  go_enter Tryz.func96, Tryz.ntmps96
  go_wp2
  all_goals (go_ret; exact ⟨by simp, rfl⟩)
theorem cmpStr (x y : ByteArray) (w : World) :
    Calls Tryz.prog 70 #[.string x, .string y] w fun e w' => e = .returned (.int .i64 (cmpS x.toList y.toList)) ∧ w = w' := by
  go_enter Tryz.func70, Tryz.ntmps70
  go_wp2_with ((refine (nanS _ _).mono ?_); (rintro e w1 ⟨rfl, rfl⟩))
  all_goals (go_ret; exact ⟨by simp_all [cmpS], rfl⟩)
theorem nanK (s : Int) (w : World) : Calls Tryz.prog 97 #[.int .i64 s] w fun e w' => e = .returned (.bool false) ∧ w = w' := by
  go_enter Tryz.func97, Tryz.ntmps97
  go_wp2
  all_goals (go_ret; exact ⟨by simp, rfl⟩)
theorem cmpKnd (x y : Int) (w : World) :
    Calls Tryz.prog 71 #[.int .i64 x, .int .i64 y] w fun e w' => e = .returned (.int .i64 (Lib.compareInt x y)) ∧ w = w' := by
  go_enter Tryz.func71, Tryz.ntmps71
  go_wp2_with ((refine (nanK _ _).mono ?_); (rintro e w1 ⟨rfl, rfl⟩))
  all_goals (go_ret; refine ⟨?_, rfl⟩; unfold Lib.compareInt; simp_all; try (repeat' split) <;> omega)
def orL : List Int → Int
  | [] => 0
  | x :: r => if x = 0 then orL r else x
theorem orL_cons (x : Int) (r : List Int) : orL (x :: r) = orZ x (orL r) := rfl
theorem cmpOr (g : Nat) (xs : List Int) (n c : Nat) (w : World) (hr : Rd w (some ⟨g, 0, none⟩) (xs.map (Value.int .i64))) (hn : xs.length = n) (hl : n ≤ 10) :
    Calls Tryz.prog 45 #[.slice (some ⟨g, 0, none⟩) n c] w fun e w' => e = .returned (.int .i64 (orL xs)) ∧ w = w' := by
  subst hn
  go_enter Tryz.func45, Tryz.ntmps45
  go_wp2
  go_loop [5, 8] (fun v i => ∃ k : Nat, k ≤ xs.length ∧ i = .int .i64 k ∧ Hid (orL xs = orL (xs.drop k))) (fun _ i => xs.length - (intOf i).toNat)
  case atStart => exact ⟨0, by omega, rfl, rfl⟩
  case round =>
    obtain ⟨k, hk, rfl, H⟩ := hrel
    by_cases hlt : k < xs.length
    · obtain ⟨y, hy⟩ : ∃ y, xs[k]? = some y := ⟨_, List.getElem?_eq_getElem hlt⟩
      obtain ⟨g', o', he, hcx⟩ := hr.at_ (j := k) (u := .int .i64 y) (by rw [List.getElem?_map, hy]; rfl)
      injection he with he; injection he with he1 he2 _
      subst he1; subst he2
      rw [Nat.zero_add] at hcx
      have hd : xs.drop k = y :: xs.drop (k + 1) := drop_cons_of hy
      have H2 : Hid (orL xs = if y = 0 then orL (xs.drop (k + 1)) else y) := by show _ = _; rw [H.out, hd]; rfl
      clear H hd hy hr
      by_cases hq : y = 0
      · go_wp2
        go_round
        case rel => exact ⟨k + 1, by omega, by go_num, by show _ = _; rw [H2.out, if_pos hq]⟩
        case measure => simp [intOf]; omega
      · go_wp2
        go_ret
        exact ⟨by rw [H2.out, if_neg hq]; rfl, rfl⟩
    · have H2 : Hid (orL xs = 0) := by show _ = _; rw [H.out, List.drop_eq_nil_of_le (by omega)]; rfl
      clear H hr
      go_wp2
      go_ret
      exact ⟨by rw [H2.out]; rfl, rfl⟩
abbrev tA (t : Tm) : Value := .agg #[.int .i64 t.k, .string t.x, .string t.l, .string t.y]
def smallT (t : Tm) : Prop := t.x.size ≤ 1000000 ∧ t.l.size ≤ 1000000 ∧ t.y.size ≤ 1000000
def showP (t : Tm) : ByteArray × Int := if rightB t then (if 4096 < (textL t).length then (⟨#[]⟩, 3) else (mkS (textL t), 0)) else (⟨#[]⟩, 2)
theorem mkS_size (l : List UInt8) : (mkS l).size = l.length := by show l.toArray.size = _; rw [List.size_toArray]
theorem mkS_list (l : List UInt8) : (mkS l).toList = l := by rw [ByteArray.toList_eq]
theorem termRight' (t : Tm) (w : World) (hC : CtxT w) (hs : smallT t) : Calls Tryz.prog 37 #[tA t] w fun e w' => e = .returned (.bool (rightB t)) ∧ Below w.heap.size w w' :=
  termRight t w hC.1 (Nat.le_trans hs.1 (by omega)) (Nat.le_trans hs.2.1 (by omega)) (Nat.le_trans hs.2.2 (by omega))
theorem termText' (t : Tm) (w : World) (hC : CtxT w) (h : rightB t = true) (hs : smallT t) : Calls Tryz.prog 51 #[tA t] w fun e w' => e = .returned (.string (mkS (textL t))) ∧ Below w.heap.size w w' :=
  termText t w hC h hs.1 hs.2.1 hs.2.2
set_option maxHeartbeats 1000000 in
set_option maxRecDepth 20000 in
theorem termShow (t : Tm) (w : World) (hC : CtxT w) (hs : smallT t) :
    Calls Tryz.prog 38 #[tA t] w fun e w' => e = .returned (.tuple #[.string (showP t).1, .int .i64 (showP t).2]) ∧ Below w.heap.size w w' := by
  have hb0 : Below w.heap.size w (w.alloc (.cells #[.int .i64 t.k, .string t.x, .string t.l, .string t.y] 24)) := (Below.refl _ w).alloc (Nat.le_refl _) _
  have hR := termRight' t _ (hC.step hb0) hs
  have hT := fun W hb h => termText' t W (hC.step hb) h hs
  have HB := Lib.hid hb0
  unfold showP
  cases hr : rightB t
  · rw [hr] at hR
    clear hT
    go_enter Tryz.func38, Tryz.ntmps38
    go_wp2_with (go_at_call 37; with_reducible refine hR.mono ?_; rintro e w1 ⟨rfl, b1⟩)
    go_ret2
    exact ⟨rfl, below_tr HB.out b1⟩
  · rw [hr] at hR
    rw [if_pos rfl]
    have hsz := mkS_size (textL t)
    have hbt := hb0.block w.heap.size
    have hblk := heap_alloc_new w (.cells #[.int .i64 t.k, .string t.x, .string t.l, .string t.y] 24)
    go_enter Tryz.func38, Tryz.ntmps38
    go_wp2_with (go_at_call 37; with_reducible refine hR.mono ?_)
    rintro e w1 ⟨rfl, b1⟩
    have hbk := (b1.block w.heap.size (by simp)).trans hblk
    have c0 : w1.cell? ⟨w.heap.size, 0, none⟩ = some (.int .i64 t.k) := by rw [Lib.cell_of_heap hbk]; rfl
    have c1 : w1.cell? ⟨w.heap.size, 1, none⟩ = some (.string t.x) := by rw [Lib.cell_of_heap hbk]; rfl
    have c2 : w1.cell? ⟨w.heap.size, 2, none⟩ = some (.string t.l) := by rw [Lib.cell_of_heap hbk]; rfl
    have c3 : w1.cell? ⟨w.heap.size, 3, none⟩ = some (.string t.y) := by rw [Lib.cell_of_heap hbk]; rfl
    have hT1 := hT w1 (below_tr HB.out b1) hr
    have HB1 := Lib.hid (below_tr HB.out b1)
    clear hT hR b1 hbk hblk hbt hb0
    by_cases hl : 4096 < (textL t).length
    · go_wp2_with (go_at_call 51; with_reducible refine hT1.mono ?_; rintro e w2 ⟨rfl, b2⟩)
      go_ret2
      exact ⟨by simp, below_tr HB1.out b2⟩
    · go_wp2_with (go_at_call 51; with_reducible refine hT1.mono ?_; rintro e w2 ⟨rfl, b2⟩)
      go_ret2
      exact ⟨by simp, below_tr HB1.out b2⟩
end Go.Proofs.YthdlepalglgmoaaGreatDoor
namespace Go.Proofs.YthdlepalglgmoaaGreatDoor
open Go Go.RowKit Um Fm Tx

theorem cmpTm_W {a b : Tm} (ha : rightB a = false) (hb : rightB b = false) : cmpTm a b = orL [Lib.compareInt a.k b.k, cmpS a.x.toList b.x.toList, cmpS a.l.toList b.l.toList, cmpS a.y.toList b.y.toList] := by
  unfold cmpTm cmpW
  rw [ha, hb, if_neg (by decide), if_neg (by decide), if_neg (by decide)]
  simp only [orL_cons, ByteArray.toList_eq]
  rw [show orL [] = 0 from rfl, orZ_right]
set_option maxHeartbeats 4000000 in
set_option maxRecDepth 100000 in
theorem termCompare (a b : Tm) (w : World) (hC : CtxT w) (ha : smallT a) (hb : smallT b) :
    Calls Tryz.prog 46 #[tA a, tA b] w fun e w' => e = .returned (.int .i64 (cmpTm a b)) ∧ Below w.heap.size w w' := by
  have hba : Below w.heap.size w (w.alloc (.cells #[.int .i64 a.k, .string a.x, .string a.l, .string a.y] 24)) := (Below.refl _ w).alloc (Nat.le_refl _) _
  have hga := heap_alloc_new w (.cells #[.int .i64 a.k, .string a.x, .string a.l, .string a.y] 24)
  have hza : (w.alloc (.cells #[.int .i64 a.k, .string a.x, .string a.l, .string a.y] 24)).heap.size = w.heap.size + 1 := by simp
  go_enter Tryz.func46, Tryz.ntmps46
  go_upto_region 1 with fail
  generalize w.alloc (.cells #[.int .i64 a.k, .string a.x, .string a.l, .string a.y] 24) = wa at *
  have hbb : Below wa.heap.size wa (wa.alloc (.cells #[.int .i64 b.k, .string b.x, .string b.l, .string b.y] 24)) := (Below.refl _ wa).alloc (Nat.le_refl _) _
  have hgb := heap_alloc_new wa (.cells #[.int .i64 b.k, .string b.x, .string b.l, .string b.y] 24)
  have hzb : (wa.alloc (.cells #[.int .i64 b.k, .string b.x, .string b.l, .string b.y] 24)).heap.size = w.heap.size + 2 := by simp [hza]
  have hga2 := below_blk hbb hga
  rw [hza] at hgb
  generalize wa.alloc (.cells #[.int .i64 b.k, .string b.x, .string b.l, .string b.y] 24) = w0 at *
  have hb0 : Below w.heap.size w w0 := below_tr hba hbb
  have hC0 := hC.step hb0
  have a0 : w0.cell? ⟨w.heap.size, 0, none⟩ = some (.int .i64 a.k) := by rw [Lib.cell_of_heap hga2]; rfl
  have a1 : w0.cell? ⟨w.heap.size, 1, none⟩ = some (.string a.x) := by rw [Lib.cell_of_heap hga2]; rfl
  have a2 : w0.cell? ⟨w.heap.size, 2, none⟩ = some (.string a.l) := by rw [Lib.cell_of_heap hga2]; rfl
  have a3 : w0.cell? ⟨w.heap.size, 3, none⟩ = some (.string a.y) := by rw [Lib.cell_of_heap hga2]; rfl
  have b0 : w0.cell? ⟨w.heap.size + 1, 0, none⟩ = some (.int .i64 b.k) := by rw [Lib.cell_of_heap hgb]; rfl
  have b1 : w0.cell? ⟨w.heap.size + 1, 1, none⟩ = some (.string b.x) := by rw [Lib.cell_of_heap hgb]; rfl
  have b2 : w0.cell? ⟨w.heap.size + 1, 2, none⟩ = some (.string b.l) := by rw [Lib.cell_of_heap hgb]; rfl
  have b3 : w0.cell? ⟨w.heap.size + 1, 3, none⟩ = some (.string b.y) := by rw [Lib.cell_of_heap hgb]; rfl
  have hsz : w.heap.size ≤ w0.heap.size := hb0.size
  have hRa := fun W hB => termRight' a W (hC0.step hB) ha
  have hRb := fun W hB => termRight' b W (hC0.step hB) hb
  have hTa := fun W hB h => termText' a W (hC0.step hB) h ha
  have hTb := fun W hB h => termText' b W (hC0.step hB) h hb
  have HB0 := Lib.hid hb0
  have HR : Hid (∀ x y, rightB a = x → rightB b = y → cmpTm a b = if x && y then cmpS (textL a) (textL b) else if x then -1 else if y then 1 else orL [Lib.compareInt a.k b.k, cmpS a.x.toList b.x.toList, cmpS a.l.toList b.l.toList, cmpS a.y.toList b.y.toList]) := by
    intro x y hx hy
    cases x <;> cases y
    · rw [cmpTm_W hx hy]; rfl
    · unfold cmpTm; rw [hx, hy]; rfl
    · unfold cmpTm; rw [hx, hy]; rfl
    · unfold cmpTm; rw [hx, hy]; rfl
  clear hga hgb hga2 hza hzb hba hbb hb0 hC hC0
  refine Rf.wp_region_pl w0.heap.size _ (Rf.Pl.quiet [0, 2] (Rf.Pl.one 1 (Rf.Pl.one 3 (Rf.Pl.quiet [4, 5] (Rf.Pl.done))))) _ (by kernel_rfl) (by kernel_rfl) (by simp only [Rf.Pl.pick, Rf.pickO, List.map_cons, List.map_nil, Rg.pickOps, List.getElem?_toArray, List.getElem?_cons_zero, List.getElem?_cons_succ, Option.getD_some]; rfl) ?_ (fun a w h => h)
  intro wd hbd hwz
  have p0 := cellL a0 hbd
  have p1 := cellL a1 hbd
  have p2 := cellL a2 hbd
  have p3 := cellL a3 hbd
  have q0 := cellL b0 hbd
  have q1 := cellL b1 hbd
  have q2 := cellL b2 hbd
  have q3 := cellL b3 hbd
  have HD := Lib.hid hbd
  clear hwz hbd
  refine Rf.pl_quiet ?_
  iterate 2 go_big_quiet_step (fail)
  refine wpQuiet_nil (Rf.pl_one ?_)
  clear p0 p1 p2 p3 q0 q1 q2 q3
  go_wp2_with (go_at_call 37; with_reducible refine (hRa _ HD.out).mono ?_; rintro e V1 ⟨rfl, k1⟩)
  have F1 := below_tr HD.out k1
  refine ⟨k1.mono HD.out.size, Rf.pl_one ?_⟩
  go_wp2_with (go_at_call 37; with_reducible refine (hRb _ F1).mono ?_; rintro e V2 ⟨rfl, k2⟩)
  have F2 := below_tr F1 k2
  refine ⟨k2.mono F1.size, Rf.pl_quiet ?_⟩
  clear k1 k2 F1 hRa hRb
  have HF2 := Lib.hid F2
  clear F2
  iterate 2 go_big_quiet_step (fail)
  refine wpQuiet_nil (Rf.pl_done ?_)
  have HTa := Lib.hid hTa
  have HTb := Lib.hid hTb
  clear hTa hTb
  cases hra : rightB a <;> cases hrb : rightB b
  · have HE := Lib.hid (HR.out _ _ hra hrb)
    clear HTa HTb
    go_upto_region 8 with fail
    refine Rf.wp_region_pl w0.heap.size _ (Rf.Pl.quiet [0, 1, 2, 3, 5, 6, 7, 8, 10, 11, 12, 13, 15, 16, 17, 18] (Rf.Pl.one 4 (Rf.Pl.one 9 (Rf.Pl.one 14 (Rf.Pl.one 19 (Rf.Pl.one 20 (Rf.Pl.one 21 (Rf.Pl.quiet [22] (Rf.Pl.done))))))))) _ (by kernel_rfl) (by kernel_rfl) (by simp only [Rf.Pl.pick, Rf.pickO, List.map_cons, List.map_nil, Rg.pickOps, List.getElem?_toArray, List.getElem?_cons_zero, List.getElem?_cons_succ, Option.getD_some]; rfl) ?_ (fun a w h => h)
    intro we hbe hwz
    have F3 := HF2.out.trans (hbe.mono HF2.out.size)
    have c0 := cellL a0 F3
    have c1 := cellL a1 F3
    have c2 := cellL a2 F3
    have c3 := cellL a3 F3
    have d0 := cellL b0 F3
    have d1 := cellL b1 F3
    have d2 := cellL b2 F3
    have d3 := cellL b3 F3
    have HF3 := Lib.hid F3
    have h1 := cmpKnd a.k b.k
    have h2 := cmpStr a.x b.x
    have h3 := cmpStr a.l b.l
    have h4 := cmpStr a.y b.y
    clear hwz hbe F3 a0 a1 a2 a3 b0 b1 b2 b3 hra hrb HR HD HF2
    generalize Lib.compareInt a.k b.k = n1 at *
    generalize cmpS a.x.toList b.x.toList = n2 at *
    generalize cmpS a.l.toList b.l.toList = n3 at *
    generalize cmpS a.y.toList b.y.toList = n4 at *
    refine Rf.pl_quiet ?_
    iterate 16 go_big_quiet_step (fail)
    refine wpQuiet_nil (Rf.pl_one ?_)
    clear c0 c1 c2 c3 d0 d1 d2 d3
    go_wp2_with (go_at_call 71; with_reducible refine (h1 _).mono ?_; rintro e V3 ⟨rfl, rfl⟩)
    refine ⟨Below.refl _ _, Rf.pl_one ?_⟩
    go_wp2_with (go_at_call 70; with_reducible refine (h2 _).mono ?_; rintro e V3 ⟨rfl, rfl⟩)
    refine ⟨Below.refl _ _, Rf.pl_one ?_⟩
    go_wp2_with (go_at_call 70; with_reducible refine (h3 _).mono ?_; rintro e V3 ⟨rfl, rfl⟩)
    refine ⟨Below.refl _ _, Rf.pl_one ?_⟩
    go_wp2_with (go_at_call 70; with_reducible refine (h4 _).mono ?_; rintro e V3 ⟨rfl, rfl⟩)
    refine ⟨Below.refl _ _, Rf.pl_one ?_⟩
    have hV := HF3.out.size
    have h5 := cmpOr we.heap.size [n1, n2, n3, n4] 4 4 (we.alloc (.cells #[.int .i64 n1, .int .i64 n2, .int .i64 n3, .int .i64 n4] 3)) (Rd.of_block (heap_alloc_new we _) rfl) rfl (by omega)
    have h6 : Below w0.heap.size we (we.alloc (.cells #[.int .i64 n1, .int .i64 n2, .int .i64 n3, .int .i64 n4] 3)) := (Below.refl _ _).alloc hV _
    have H6 := Lib.hid h6
    go_wp2_with fail
    refine ⟨H6.out, Rf.pl_one ?_⟩
    go_wp2_with (go_at_call 45; with_reducible refine h5.mono ?_; rintro e V4 ⟨rfl, rfl⟩)
    refine ⟨Below.refl _ _, Rf.pl_quiet ?_⟩
    iterate 1 go_big_quiet_step (fail)
    refine wpQuiet_nil (Rf.pl_done ?_)
    go_wp2
    go_ret
    exact ⟨by rw [HE.out]; rfl, HB0.out.trans ((HF3.out.trans H6.out).mono hsz)⟩
  · have HE := Lib.hid (HR.out _ _ hra hrb)
    go_wp2
    go_ret
    exact ⟨by rw [HE.out]; rfl, HB0.out.trans (HF2.out.mono hsz)⟩
  · have HE := Lib.hid (HR.out _ _ hra hrb)
    go_wp2
    go_ret
    exact ⟨by rw [HE.out]; rfl, HB0.out.trans (HF2.out.mono hsz)⟩
  · have HE := Lib.hid (HR.out _ _ hra hrb)
    have HTA : Hid (∀ W, Below w0.heap.size w0 W → Calls Tryz.prog 51 #[tA a] W fun e w' => e = .returned (.string (mkS (textL a))) ∧ Below W.heap.size W w') := fun W hb => HTa.out W hb hra
    have HTB : Hid (∀ W, Below w0.heap.size w0 W → Calls Tryz.prog 51 #[tA b] W fun e w' => e = .returned (.string (mkS (textL b))) ∧ Below W.heap.size W w') := fun W hb => HTb.out W hb hrb
    have h2 := cmpStr (mkS (textL a)) (mkS (textL b))
    rw [mkS_list, mkS_list] at h2
    clear HTa HTb
    go_upto_region 3 with fail
    refine Rf.wp_region_pl w0.heap.size _ (Rf.Pl.quiet [0, 2] (Rf.Pl.one 1 (Rf.Pl.one 3 (Rf.Pl.one 4 (Rf.Pl.quiet [5] (Rf.Pl.done)))))) _ (by kernel_rfl) (by kernel_rfl) (by simp only [Rf.Pl.pick, Rf.pickO, List.map_cons, List.map_nil, Rg.pickOps, List.getElem?_toArray, List.getElem?_cons_zero, List.getElem?_cons_succ, Option.getD_some]; rfl) ?_ (fun a w h => h)
    intro we hbe hwz
    have F3 := HF2.out.trans (hbe.mono HF2.out.size)
    have c0 := cellL a0 F3
    have c1 := cellL a1 F3
    have c2 := cellL a2 F3
    have c3 := cellL a3 F3
    have d0 := cellL b0 F3
    have d1 := cellL b1 F3
    have d2 := cellL b2 F3
    have d3 := cellL b3 F3
    have HF3 := Lib.hid F3
    clear hwz hbe F3 a0 a1 a2 a3 b0 b1 b2 b3 hra hrb HR HD HF2
    refine Rf.pl_quiet ?_
    iterate 2 go_big_quiet_step (fail)
    refine wpQuiet_nil (Rf.pl_one ?_)
    clear c0 c1 c2 c3 d0 d1 d2 d3
    go_wp2_with (go_at_call 51; with_reducible refine (HTA.out _ HF3.out).mono ?_; rintro e V3 ⟨rfl, k3⟩)
    have F4 := below_tr HF3.out k3
    refine ⟨k3.mono HF3.out.size, Rf.pl_one ?_⟩
    go_wp2_with (go_at_call 51; with_reducible refine (HTB.out _ F4).mono ?_; rintro e V4 ⟨rfl, k4⟩)
    have F5 := below_tr F4 k4
    refine ⟨k4.mono F4.size, Rf.pl_one ?_⟩
    have HF5 := Lib.hid F5
    clear k3 k4 F4 F5
    go_wp2_with (go_at_call 70; with_reducible refine (h2 _).mono ?_; rintro e V5 ⟨rfl, rfl⟩)
    refine ⟨Below.refl _ _, Rf.pl_quiet ?_⟩
    iterate 1 go_big_quiet_step (fail)
    refine wpQuiet_nil (Rf.pl_done ?_)
    go_wp2
    go_ret
    exact ⟨by rw [HE.out]; rfl, HB0.out.trans (HF5.out.mono hsz)⟩
end Go.Proofs.YthdlepalglgmoaaGreatDoor
namespace Go.Proofs.YthdlepalglgmoaaGreatDoor
open Go Go.RowKit Um Fm Tx

abbrev tpC (t : Tp) : Array Value := #[.int .i64 t.s.k, .string t.s.x, .string t.s.l, .string t.s.y, .int .i64 t.p.k, .string t.p.x, .string t.p.l, .string t.p.y, .int .i64 t.o.k, .string t.o.x, .string t.o.l, .string t.o.y]
abbrev tpA (t : Tp) : Value := .agg (tpC t)
def smallP (t : Tp) : Prop := smallT t.s ∧ smallT t.p ∧ smallT t.o
theorem cmpTp_or (a b : Tp) : cmpTp a b = orL [cmpTm a.s b.s, cmpTm a.p b.p, cmpTm a.o b.o] := by
  unfold cmpTp
  simp only [orL_cons]
  rw [show orL [] = 0 from rfl, orZ_right]
theorem cells_at {w : World} {g : Nat} {cs : Array Value} {T : TypeId} (h : w.heap[g]? = some (Obj.cells cs T (0, 0))) (i : Nat) {v : Value} (hv : cs[i]? = some v) : w.cell? ⟨g, i, none⟩ = some v := by
  rw [Lib.cell_of_heap h]; exact hv
set_option maxHeartbeats 4000000 in
set_option maxRecDepth 100000 in
theorem termTriples (a b : Tp) (w : World) (hC : CtxT w) (ha : smallP a) (hb : smallP b) :
    Calls Tryz.prog 33 #[tpA a, tpA b] w fun e w' => e = .returned (.int .i64 (cmpTp a b)) ∧ Below w.heap.size w w' := by
  have hba : Below w.heap.size w (w.alloc (.cells (tpC a) 29)) := (Below.refl _ w).alloc (Nat.le_refl _) _
  have hga := heap_alloc_new w (.cells (tpC a) 29)
  have hza : (w.alloc (.cells (tpC a) 29)).heap.size = w.heap.size + 1 := by simp
  go_enter Tryz.func33, Tryz.ntmps33
  go_upto_region 1 with fail
  change Code.wp _ _ _ _ ((w.alloc (.cells (tpC a) 29)).alloc (.cells (tpC b) 29))
  generalize w.alloc (.cells (tpC a) 29) = wa at *
  have hbb : Below wa.heap.size wa (wa.alloc (.cells (tpC b) 29)) := (Below.refl _ wa).alloc (Nat.le_refl _) _
  have hgb := heap_alloc_new wa (.cells (tpC b) 29)
  have hga2 := below_blk hbb hga
  rw [hza] at hgb
  generalize wa.alloc (.cells (tpC b) 29) = w0 at *
  have hb0 : Below w.heap.size w w0 := below_tr hba hbb
  have hC0 := hC.step hb0
  have hsz : w.heap.size ≤ w0.heap.size := hb0.size
  have h1 := fun W hB => termCompare a.s b.s W (hC0.step hB) ha.1 hb.1
  have h2 := fun W hB => termCompare a.p b.p W (hC0.step hB) ha.2.1 hb.2.1
  have h3 := fun W hB => termCompare a.o b.o W (hC0.step hB) ha.2.2 hb.2.2
  have HE := Lib.hid (cmpTp_or a b)
  have HB0 := Lib.hid hb0
  clear hza hba hbb hb0 hC hC0
  refine Rf.wp_region_pl w0.heap.size _ (Rf.Pl.quiet [0, 1, 2, 3, 5, 6, 7, 8, 10, 11, 12, 13] (Rf.Pl.one 4 (Rf.Pl.one 9 (Rf.Pl.one 14 (Rf.Pl.one 15 (Rf.Pl.one 16 (Rf.Pl.quiet [17] (Rf.Pl.done)))))))) _ (by kernel_rfl) (by kernel_rfl) (by simp only [Rf.Pl.pick, Rf.pickO, List.map_cons, List.map_nil, Rg.pickOps, List.getElem?_toArray, List.getElem?_cons_zero, List.getElem?_cons_succ, Option.getD_some]; rfl) ?_ (fun a w h => h)
  intro wd hbd hwz
  have p0 := cellL (cells_at hga2 0 rfl) hbd
  have p1 := cellL (cells_at hga2 1 rfl) hbd
  have p2 := cellL (cells_at hga2 2 rfl) hbd
  have p3 := cellL (cells_at hga2 3 rfl) hbd
  have p4 := cellL (cells_at hga2 4 rfl) hbd
  have p5 := cellL (cells_at hga2 5 rfl) hbd
  have p6 := cellL (cells_at hga2 6 rfl) hbd
  have p7 := cellL (cells_at hga2 7 rfl) hbd
  have p8 := cellL (cells_at hga2 8 rfl) hbd
  have p9 := cellL (cells_at hga2 9 rfl) hbd
  have p10 := cellL (cells_at hga2 10 rfl) hbd
  have p11 := cellL (cells_at hga2 11 rfl) hbd
  have q0 := cellL (cells_at hgb 0 rfl) hbd
  have q1 := cellL (cells_at hgb 1 rfl) hbd
  have q2 := cellL (cells_at hgb 2 rfl) hbd
  have q3 := cellL (cells_at hgb 3 rfl) hbd
  have q4 := cellL (cells_at hgb 4 rfl) hbd
  have q5 := cellL (cells_at hgb 5 rfl) hbd
  have q6 := cellL (cells_at hgb 6 rfl) hbd
  have q7 := cellL (cells_at hgb 7 rfl) hbd
  have q8 := cellL (cells_at hgb 8 rfl) hbd
  have q9 := cellL (cells_at hgb 9 rfl) hbd
  have q10 := cellL (cells_at hgb 10 rfl) hbd
  have q11 := cellL (cells_at hgb 11 rfl) hbd
  have HD := Lib.hid hbd
  clear hwz hbd hga hga2 hgb
  generalize cmpTm a.s b.s = n1 at *
  generalize cmpTm a.p b.p = n2 at *
  generalize cmpTm a.o b.o = n3 at *
  refine Rf.pl_quiet ?_
  iterate 12 go_big_quiet_step (fail)
  refine wpQuiet_nil (Rf.pl_one ?_)
  clear p0 p1 p2 p3 p4 p5 p6 p7 p8 p9 p10 p11 q0 q1 q2 q3 q4 q5 q6 q7 q8 q9 q10 q11
  go_wp2_with (go_at_call 46; with_reducible refine (h1 _ HD.out).mono ?_; rintro e V1 ⟨rfl, k1⟩)
  have F1 := below_tr HD.out k1
  refine ⟨k1.mono HD.out.size, Rf.pl_one ?_⟩
  go_wp2_with (go_at_call 46; with_reducible refine (h2 _ F1).mono ?_; rintro e V2 ⟨rfl, k2⟩)
  have F2 := below_tr F1 k2
  refine ⟨k2.mono F1.size, Rf.pl_one ?_⟩
  go_wp2_with (go_at_call 46; with_reducible refine (h3 _ F2).mono ?_; rintro e V3 ⟨rfl, k3⟩)
  have F3 := below_tr F2 k3
  refine ⟨k3.mono F2.size, Rf.pl_one ?_⟩
  have hV := F3.size
  have h5 := cmpOr V3.heap.size [n1, n2, n3] 3 3 (V3.alloc (.cells #[.int .i64 n1, .int .i64 n2, .int .i64 n3] 3)) (Rd.of_block (heap_alloc_new V3 _) rfl) rfl (by omega)
  have H6 := Lib.hid ((Below.refl w0.heap.size V3).alloc hV (.cells #[.int .i64 n1, .int .i64 n2, .int .i64 n3] 3))
  have HF3 := Lib.hid F3
  clear k1 k2 k3 F1 F2 F3 h1 h2 h3
  go_wp2_with fail
  refine ⟨H6.out, Rf.pl_one ?_⟩
  go_wp2_with (go_at_call 45; with_reducible refine h5.mono ?_; rintro e V4 ⟨rfl, rfl⟩)
  refine ⟨Below.refl _ _, Rf.pl_quiet ?_⟩
  iterate 1 go_big_quiet_step (fail)
  refine wpQuiet_nil (Rf.pl_done ?_)
  go_wp2
  go_ret
  exact ⟨by rw [HE.out]; rfl, HB0.out.trans ((HF3.out.trans H6.out).mono hsz)⟩
end Go.Proofs.YthdlepalglgmoaaGreatDoor
