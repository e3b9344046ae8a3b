/- The answer for lines: fail. The answer for lines: take. The answer for lines: node. The answer for lines: object, end. -/
import Derived.Test.YtffpgandgajihaaGreatDoorJLn1
import Derived.Test.YtffpgandgajihaaGreatDoorJLex8
import Derived.Great.Walk
namespace Go.Proofs.YtffpgandgajihaaGreatDoor
open Go Go.RowKit Um Fm Lx Tx
/-- Where the answer's reader is stuck, once it fails. -/
def badZ (z : Int) (n : Nat) (r : List LTok) : Int := if 0 ≤ z then z else placeP n r
theorem RkAt.plain {w : World} {b : Nat} {ts : List LTok} {k n : Nat} {z : Int} (h : RkAt w b ts k n z) : ∃ (A : Option Addr) (c : Nat), RdL 3 (fun cs t => cs = tokC t) w A ts ∧
    w.cell? ⟨b, 0, none⟩ = some (.slice A ts.length c) ∧ w.cell? ⟨b, 1, none⟩ = some (.int .i64 k) ∧ w.cell? ⟨b, 2, none⟩ = some (.int .i64 n) ∧ w.cell? ⟨b, 3, none⟩ = some (.int .i64 z) := by
  obtain ⟨A, c, hb, _, hR⟩ := h
  exact ⟨A, c, hR, by simp [World.cell?, hb], by simp [World.cell?, hb], by simp [World.cell?, hb], by simp [World.cell?, hb]⟩
set_option maxHeartbeats 2000000 in
theorem rkFail (ts : List LTok) (k n b : Nat) (z : Int) (w : World) (h : RkAt w b ts k n z) :
    Calls Tryz.prog 109 #[.pointer (some ⟨b, 0, none⟩)] w fun e w' => e = .returned (.tuple #[]) ∧ RkAt w' b ts k n (badZ z n (ts.drop k)) ∧ w.grownBy w' (some b) := by
  obtain ⟨A, c, hR, h0, h1, h2, h3⟩ := h.plain
  have hf := h.fz 3
  have H := Lib.hid h
  by_cases hz : 0 ≤ z
  · have hv : Hid (badZ z n (ts.drop k) = z) := if_pos hz
    have hd : decide (0 ≤ z) = true := decide_eq_true hz
    clear h hR
    go_enter Tryz.func109, Tryz.ntmps109
    go_wp2
    refine bodyPost_ret (v := .tuple #[]) (by simp [results, Tryz.results109, go_sem]) rfl ?_
    exact ⟨rfl, by rw [hv.out]; exact H.out, gr_of_below (Below.refl _ _)⟩
  · have hv : Hid (badZ z n (ts.drop k) = placeP n (ts.drop k)) := if_neg hz
    have hd : decide (0 ≤ z) = false := decide_eq_false hz
    clear h hR
    go_enter Tryz.func109, Tryz.ntmps109
    go_wp2
    have HB := Lib.hid (H.out.setBad n)
    have hG := only_set (Below.refl w.heap.size w) H.out.lt 3 (.int .i64 n)
    have HG := Lib.hid hG
    clear h0 h1 h2 h3 hf hG hd
    generalize w.setCell ⟨b, 3, none⟩ (.int .i64 n) = W at *
    obtain ⟨A1, c1, hR1, h0, h1, _, _⟩ := HB.out.cells
    clear hR1
    refine wp_region_quiet_below (by kernel_rfl) (by kernel_rfl) ?_; (repeat (any_goals (go_big_quiet_step (fail)))); all_goals (refine wpQuiet_nil ?_; intro _ hw9; obtain ⟨⟨d9, os9⟩, hw8⟩ := hw9; subst hw8)
    clear h0 h1
    have kq := below_regrown W d9 os9
    generalize Sort.grow (redrawn W d9) os9 = W1 at *
    have HB1 := Lib.hid (HB.out.below kq)
    by_cases hk : k < ts.length
    · have hd : decide (k < ts.length) = true := decide_eq_true hk
      go_wp2
      refine Rn.wp_region_st5 W1.heap.size 14 _ [(0, [0, 1, 2, 3, 4, 5, 6, 7, 8, 9, 10, 11, 12, 13]), (2, [14])] _ (by kernel_rfl) (by kernel_rfl) (by simp only [List.map_cons, List.map_nil, Rg.pickOps, List.getElem?_toArray, List.getElem?_cons_zero, List.getElem?_cons_succ, Option.getD_some]; rfl) ?_ (fun a w h => h)
      intro wd hbd hwz
      obtain ⟨A2, c2, hR2, g0, g1, _, _⟩ := HB1.out.plain
      obtain ⟨g, o, rfl, _, _, g3⟩ := tok_at hR2 (List.getElem?_eq_getElem hk)
      have h0 := cellL g0 hbd
      have h1 := cellL g1 hbd
      have e3 := cellL g3 hbd
      have hfz := (HB1.out.below hbd).fz 3
      have HBd := Lib.hid (HB1.out.below hbd)
      have Hgr := Lib.hid ((HG.out.trans (gr_of_below kq)).trans (gr_of_below hbd))
      obtain ⟨_, _, _, _, _, _, k3⟩ := HBd.out.plain
      clear hwz hbd hR2 g0 g1 g3
      refine Rn.st_quiet ?_
      iterate 14 go_big_quiet_step (fail)
      refine wpQuiet_nil (Rn.st_free ?_)
      go_wp2
      refine Rn.st_done ?_
      ((try simp only [Exit.inBlock, Exit.then]); refine Go.Great.bodyPost_end0 rfl rfl ?_)
      refine ⟨rfl, ?_, ?_⟩
      · rw [hv.out, List.drop_eq_getElem_cons hk]
        exact HBd.out.setBad _
      · exact Hgr.out.trans (only_set (Below.refl _ _) HBd.out.lt 3 _)
    · have hd : decide (k < ts.length) = false := decide_eq_false hk
      go_wp2
      ((try simp only [Exit.inBlock, Exit.then]); refine Go.Great.bodyPost_end0 rfl rfl ?_)
      refine ⟨rfl, ?_, ?_⟩
      · rw [hv.out, List.drop_eq_nil_of_le (by omega)]
        exact HB1.out
      · exact HG.out.trans (gr_of_below kq)
end Go.Proofs.YtffpgandgajihaaGreatDoor
namespace Go.Proofs.YtffpgandgajihaaGreatDoor
open Go Go.RowKit Um Fm Lx Tx
/-- The answer's reader and the plain one: where it is, and where it is stuck. -/
def badOf : Option Nat → Int
  | none => -1
  | some p => p
def RsAt (w : World) (b : Nat) (ts : List LTok) (n : Nat) (s : Ls) : Prop := ∃ k, s.r = ts.drop k ∧ k ≤ ts.length ∧ RkAt w b ts k n (badOf s.bad)
set_option maxHeartbeats 2000000 in
theorem rkTake (ts : List LTok) (n b : Nat) (s : Ls) (kd : Nat) (hkd : 0 < kd) (hts : ts.length ≤ 1000000) (w : World) (h : RsAt w b ts n s) :
    Calls Tryz.prog 106 #[.pointer (some ⟨b, 0, none⟩), .int .i64 kd] w fun e w' => e = .returned (.string (mustP [kd] n s).1.x) ∧ RsAt w' b ts n (mustP [kd] n s).2 ∧ w.grownBy w' (some b) := by
  obtain ⟨k, hr, hkl, h⟩ := h
  have hK := fun W (h : RkAt W b ts k n (badOf s.bad)) => rkKind ts k n b (badOf s.bad) W h
  have hF := fun W (h : RkAt W b ts k n (badOf s.bad)) => rkFail ts k n b (badOf s.bad) W h
  obtain ⟨A, c, hR, h0, h1, h2, h3⟩ := h.plain
  have H := Lib.hid h
  clear h hR
  cases hb : s.bad with
  | some p =>
    have hd : decide (0 ≤ badOf s.bad) = true := decide_eq_true (by rw [hb]; show (0 : Int) ≤ (p : Int); omega)
    have hz : badZ (badOf s.bad) n (ts.drop k) = badOf s.bad := if_pos (of_decide_eq_true hd)
    have hm : Hid (mustP [kd] n s = (tok0, s)) := mustP_bad hb
    have Hr := Lib.hid hr
    rw [hz] at hF
    clear hz hr hb
    go_enter Tryz.func106, Tryz.ntmps106
    go_wp2_with (go_at_call 109; refine (hF _ H.out).mono ?_; rintro e w1 ⟨rfl, hR1, hG1⟩)
    go_ret
    rw [hm.out]
    exact ⟨rfl, ⟨k, Hr.out, hkl, hR1⟩, hG1⟩
  | none =>
    have hd : decide (0 ≤ badOf s.bad) = false := decide_eq_false (by rw [hb]; decide)
    by_cases hq : headK (ts.drop k) = kd
    · have hq1 : ((headK (ts.drop k) : Int) == (kd : Int)) = true := by simp [hq]
      go_enter Tryz.func106, Tryz.ntmps106
      go_wp2_with (go_at_call 104; refine (hK _ H.out).mono ?_; rintro e w1 ⟨rfl, hB1⟩; have H1 := Lib.hid (H.out.below hB1); obtain ⟨A1, c1, hR1, k0, k1, k2, k3⟩ := H1.out.plain; have f1 := H1.out.fz 1; clear hR1 h0 h1 h2 h3)
      have hk : k < ts.length := by
        rcases Nat.lt_or_ge k ts.length with h | h
        · exact h
        · rw [List.drop_eq_nil_of_le h] at hq; exact absurd hq (by show ¬ 0 = kd; omega)
      have hm : Hid (mustP [kd] n s = (ts[k], ⟨ts.drop (k + 1), none⟩)) := by
        show _ = _
        unfold mustP
        rw [hb]
        dsimp only
        rw [hr, List.drop_eq_getElem_cons hk] at *
        dsimp only
        rw [if_pos (by simpa [headK] using hq)]
      have hW : (k : Int) + 1 = ((k + 1 : Nat) : Int) := by omega
      have HS := Lib.hid (H1.out.setAt (k' := k + 1) hW)
      have HG := Lib.hid ((gr_of_below hB1).trans (only_set (Below.refl _ _) H1.out.lt 1 (.int .i64 ((k : Int) + 1))))
      clear k0 k1 k2 k3 f1
      generalize w1.setCell ⟨b, 1, none⟩ (.int .i64 ((k : Int) + 1)) = W at *
      obtain ⟨A1, c1, hR1, k0, k1, _, _⟩ := HS.out.cells
      obtain ⟨g, o, rfl, _, e1, _⟩ := tok_at hR1 (List.getElem?_eq_getElem hk)
      have e2 : ∀ (d : Nat) (os : Array Obj), (Sort.grow (redrawn W d) os).cell? ⟨g, o + k * 3 + 1, none⟩ = some (.string ts[k].x) := fun d os => cell_regrown e1 d os
      have hs1 : wrap64 (((k + 1 : Nat) : Int) - 1) = (k : Int) := by rw [show ((k + 1 : Nat) : Int) - 1 = (k : Int) by omega]; exact IntWalk.wrap64_in _ ⟨by omega, by omega⟩
      clear hR1 e1 hW
      refine wp_region_quiet_below (by kernel_rfl) (by kernel_rfl) ?_; (repeat (any_goals (go_big_quiet_step (fail)))); all_goals (refine wpQuiet_nil ?_; intro _ hw9; obtain ⟨⟨d9, os9⟩, hw8⟩ := hw9; subst hw8)
      clear k0 k1 e2
      have kq := below_regrown W d9 os9
      generalize Sort.grow (redrawn W d9) os9 = W2 at *
      go_wp2
      go_ret
      rw [hm.out]
      exact ⟨rfl, ⟨k + 1, rfl, hk, by have := HS.out.below kq; rw [hb] at this; exact this⟩, HG.out.trans (gr_of_below kq)⟩
    · have hq1 : ((headK (ts.drop k) : Int) == (kd : Int)) = false := by simp; omega
      have hz : badZ (badOf s.bad) n (ts.drop k) = (placeP n (ts.drop k) : Nat) := if_neg (of_decide_eq_false hd)
      have hm : Hid (mustP [kd] n s = (tok0, ⟨s.r, some (placeP n s.r)⟩)) := by
        show _ = _
        unfold mustP
        rw [hb]
        dsimp only
        rw [hr]
        cases hx : ts.drop k with
        | nil => rfl
        | cons t r => rw [hx] at hq; dsimp only; rw [if_neg (by simpa [headK] using hq)]; rfl
      have Hr := Lib.hid hr
      rw [hz] at hF
      clear hz hr hb
      go_enter Tryz.func106, Tryz.ntmps106
      go_wp2_with (first | (go_at_call 104; refine (hK _ H.out).mono ?_; rintro e w1 ⟨rfl, hB1⟩) | (go_at_call 109; refine (hF _ (H.out.below hB1)).mono ?_; rintro e w2 ⟨rfl, hR1, hG1⟩))
      go_ret
      rw [hm.out]
      exact ⟨rfl, ⟨k, Hr.out, hkl, by rw [Hr.out]; exact hR1⟩, (gr_of_below hB1).trans hG1⟩
end Go.Proofs.YtffpgandgajihaaGreatDoor
namespace Go.Proofs.YtffpgandgajihaaGreatDoor
open Go Go.RowKit Um Fm Lx Tx
set_option maxHeartbeats 2000000 in
theorem rsKind (ts : List LTok) (n b : Nat) (s : Ls) (w : World) (h : RsAt w b ts n s) :
    Calls Tryz.prog 104 #[.pointer (some ⟨b, 0, none⟩)] w fun e w' => e = .returned (.int .i64 (headK s.r)) ∧ Below w.heap.size w w' := by
  obtain ⟨k, hr, _, h⟩ := h
  rw [hr]
  exact rkKind ts k n b _ w h
theorem RsAt.below {w w' : World} {b n : Nat} {ts : List LTok} {s : Ls} (h : RsAt w b ts n s) (hB : Below w.heap.size w w') : RsAt w' b ts n s := by
  obtain ⟨k, hr, hk, h⟩ := h
  exact ⟨k, hr, hk, h.below hB⟩
theorem RsAt.other {w : World} {b n : Nat} {ts : List LTok} {s : Ls} (h : RsAt w b ts n s) {tb : Nat} (ht : b < tb) (i : Nat) (v : Value) : RsAt (w.setCell ⟨tb, i, none⟩ v) b ts n s := by
  obtain ⟨k, hr, hk, h⟩ := h
  exact ⟨k, hr, hk, h.other ht i v⟩
theorem RsAt.lt {w : World} {b n : Nat} {ts : List LTok} {s : Ls} (h : RsAt w b ts n s) : b < w.heap.size := by
  obtain ⟨_, _, _, h⟩ := h
  exact h.lt
theorem zT.grown {w V V' : World} {b : Nat} (h : zT w V) (hg : V.grownBy V' (some b)) (hb : b < w.heap.size) : zT w V' := by
  have hlt : w.heap.size < V.heap.size := (Array.getElem?_eq_some_iff.1 h).1
  show V'.heap[w.heap.size]? = _
  rw [hg.block _ hlt (by intro e; cases e; omega)]
  exact h
set_option maxHeartbeats 2000000 in
theorem rsNode (ts : List LTok) (n b : Nat) (s : Ls) (hts : ts.length ≤ 1000000) (w : World) (h : RsAt w b ts n s) :
    Calls Tryz.prog 105 #[.pointer (some ⟨b, 0, none⟩)] w fun e w' => e = .returned (tA (nodeR n s).1) ∧ RsAt w' b ts n (nodeR n s).2 ∧ w.grownBy w' (some b) := by
  have hK := fun W hW => rsKind ts n b s W hW
  have hT := fun kd (hkd : 0 < kd) W (hW : RsAt W b ts n s) => rkTake ts n b s kd hkd hts W hW
  have H := Lib.hid h
  have hlt := h.lt
  by_cases hq : headK s.r = 2
  · have hm : Hid (nodeR n s = (⟨2, (mustP [2] n s).1.x, ⟨#[]⟩, ⟨#[]⟩⟩, (mustP [2] n s).2)) := by show _ = _; unfold nodeR; rw [if_pos hq]
    simp only [hq] at hK
    have hT2 := hT 2 (by omega)
    clear hT h hq
    go_enter Tryz.func105, Tryz.ntmps105
    go_wp2_with (first | (go_at_call 104; refine (hK _ (H.out.below ((Below.refl _ _).alloc (Nat.le_refl _) _))).mono ?_; rintro e w1 ⟨rfl, hB1⟩; have H1 := Lib.hid ((H.out.below ((Below.refl _ _).alloc (Nat.le_refl _) _)).below hB1); have Z1 := Lib.hid ((zT.new w).step hB1); have G1 := Lib.hid ((gr_of_below ((Below.refl w.heap.size w).alloc (Nat.le_refl _) (.cells #[.int .i64 0, .string ⟨#[]⟩, .string ⟨#[]⟩, .string ⟨#[]⟩] 35))).trans (gr_of_below (b := b) hB1)); clear hB1) | (go_at_call 106; refine (hT2 _ H1.out).mono ?_; rintro e w2 ⟨rfl, hR2, hG2⟩; have Z2 := Z1.out.grown hG2 hlt; obtain ⟨d0, d1, d2, d3, f0⟩ := Z2.d; have HR2 := Lib.hid hR2; have HG2 := Lib.hid (G1.out.trans hG2); clear hR2 hG2 Z2))
    refine bodyPost_ret (v := tA ⟨2, (mustP [2] n s).1.x, ⟨#[]⟩, ⟨#[]⟩⟩) (by simp [results, Tryz.results105, go_sem, d0, d1, d2, d3]) rfl ?_
    rw [hm.out]
    refine ⟨rfl, ?_, ?_⟩
    · exact (((HR2.out.other hlt _ _).other hlt _ _).other hlt _ _).other hlt _ _
    · exact gr_set (gr_set (gr_set (gr_set HG2.out (Nat.le_refl _) _ _) (Nat.le_refl _) _ _) (Nat.le_refl _) _ _) (Nat.le_refl _) _ _
  · have hm : Hid (nodeR n s = (⟨1, (mustP [1] n s).1.x, ⟨#[]⟩, ⟨#[]⟩⟩, (mustP [1] n s).2)) := by show _ = _; unfold nodeR; rw [if_neg hq]
    have hq1 : ((headK s.r : Int) == 2) = false := by simp; omega
    have hT2 := hT 1 (by omega)
    clear hT h hq
    go_enter Tryz.func105, Tryz.ntmps105
    go_wp2_with (first | (go_at_call 104; refine (hK _ (H.out.below ((Below.refl _ _).alloc (Nat.le_refl _) _))).mono ?_; rintro e w1 ⟨rfl, hB1⟩; have H1 := Lib.hid ((H.out.below ((Below.refl _ _).alloc (Nat.le_refl _) _)).below hB1); have Z1 := Lib.hid ((zT.new w).step hB1); have G1 := Lib.hid ((gr_of_below ((Below.refl w.heap.size w).alloc (Nat.le_refl _) (.cells #[.int .i64 0, .string ⟨#[]⟩, .string ⟨#[]⟩, .string ⟨#[]⟩] 35))).trans (gr_of_below (b := b) hB1)); clear hB1) | (go_at_call 106; refine (hT2 _ H1.out).mono ?_; rintro e w2 ⟨rfl, hR2, hG2⟩; have Z2 := Z1.out.grown hG2 hlt; obtain ⟨d0, d1, d2, d3, f0⟩ := Z2.d; have HR2 := Lib.hid hR2; have HG2 := Lib.hid (G1.out.trans hG2); clear hR2 hG2 Z2))
    refine bodyPost_ret (v := tA ⟨1, (mustP [1] n s).1.x, ⟨#[]⟩, ⟨#[]⟩⟩) (by simp [results, Tryz.results105, go_sem, d0, d1, d2, d3]) rfl ?_
    rw [hm.out]
    refine ⟨rfl, ?_, ?_⟩
    · exact (((HR2.out.other hlt _ _).other hlt _ _).other hlt _ _).other hlt _ _
    · exact gr_set (gr_set (gr_set (gr_set HG2.out (Nat.le_refl _) _ _) (Nat.le_refl _) _ _) (Nat.le_refl _) _ _) (Nat.le_refl _) _ _
end Go.Proofs.YtffpgandgajihaaGreatDoor
namespace Go.Proofs.YtffpgandgajihaaGreatDoor
open Go Go.RowKit Um Fm Lx Tx
/-- The texts of a line's tokens are no longer than the line. -/
def TokOk (ts : List LTok) : Prop := ts.length ≤ 1000000 ∧ ∀ t ∈ ts, t.x.size ≤ 1000000 ∧ t.k ≠ 0
theorem RsAt.mem {w : World} {b n : Nat} {ts : List LTok} {s : Ls} (h : RsAt w b ts n s) : ∀ t ∈ s.r, t ∈ ts := by
  obtain ⟨k, hr, _, _⟩ := h
  intro t ht
  rw [hr] at ht
  exact List.mem_of_mem_drop ht
theorem mustP_size {ts : List LTok} (ho : TokOk ts) {ks : List Nat} {n : Nat} {s : Ls} (hs : ∀ t ∈ s.r, t ∈ ts) : (mustP ks n s).1.x.size ≤ 1000000 := by
  unfold mustP
  split
  · show (0 : Nat) ≤ 1000000; decide
  · split
    · show (0 : Nat) ≤ 1000000; decide
    · next t r hr =>
      split
      · exact (ho.2 t (hs t (by rw [hr]; exact List.mem_cons_self))).1
      · show (0 : Nat) ≤ 1000000; decide
set_option maxHeartbeats 4000000 in
set_option maxRecDepth 20000 in
theorem rsObject (ts : List LTok) (n b : Nat) (s : Ls) (ho : TokOk ts) (w : World) (h : RsAt w b ts n s) :
    Calls Tryz.prog 64 #[.pointer (some ⟨b, 0, none⟩)] w fun e w' => e = .returned (tA (objR n s).1) ∧ RsAt w' b ts n (objR n s).2 ∧ w.grownBy w' (some b) := by
  have hts := ho.1
  have hK := fun (s : Ls) W hW => rsKind ts n b s W hW
  have hT := fun (s : Ls) kd (hkd : 0 < kd) W (hW : RsAt W b ts n s) => rkTake ts n b s kd hkd hts W hW
  have hN := fun W (hW : RsAt W b ts n s) => rsNode ts n b s hts W hW
  have H := Lib.hid h
  have hlt := h.lt
  have hk0 := hK s
  by_cases hq : headK s.r = 3
  · have ht3 := hT s 3 (by omega)
    have hk1 := hK (mustP [3] n s).2
    simp only [hq] at hk0
    by_cases hp4 : headK (mustP [3] n s).2.r = 4
    · have hm : Hid (objR n s = (⟨3, (mustP [3] n s).1.x, lowS (mustP [4] n (mustP [3] n s).2).1.x, ⟨#[]⟩⟩, (mustP [4] n (mustP [3] n s).2).2)) := by show _ = _; unfold objR; rw [if_pos hq]; dsimp only; rw [if_pos hp4]
      simp only [hp4] at hk1
      have ht4 := hT (mustP [3] n s).2 4 (by omega)
      have htg := fun (hx : (mustP [4] n (mustP [3] n s).2).1.x.size ≤ 1000000) W => r08Tagged (mustP [3] n s).1.x (mustP [4] n (mustP [3] n s).2).1.x W hx
      have Ho := Lib.hid ho
      clear hK hT hN h hq hp4 ho
      go_enter Tryz.func64, Tryz.ntmps64
      go_wp2_with fail
      refine (hk0 _ (H.out.below ((Below.refl _ _).alloc (Nat.le_refl _) _))).mono ?_
      rintro e w1 ⟨rfl, hB1⟩
      have H1 := Lib.hid ((H.out.below ((Below.refl _ _).alloc (Nat.le_refl _) _)).below hB1)
      have Z1 := Lib.hid ((zT.new w).step hB1)
      have G1 := Lib.hid ((gr_of_below ((Below.refl w.heap.size w).alloc (Nat.le_refl _) (.cells #[.int .i64 0, .string ⟨#[]⟩, .string ⟨#[]⟩, .string ⟨#[]⟩] 35))).trans (gr_of_below (b := b) hB1))
      clear hB1
      go_wp2_with fail
      refine (ht3 _ H1.out).mono ?_
      rintro e w2 ⟨rfl, hR2, hG2⟩
      have H2 := Lib.hid hR2
      have Z2 := Lib.hid (Z1.out.grown hG2 hlt)
      have G2 := Lib.hid (G1.out.trans hG2)
      clear hR2 hG2
      go_wp2_with fail
      refine (hk1 _ H2.out).mono ?_
      rintro e w3 ⟨rfl, hB3⟩
      have H3 := Lib.hid (H2.out.below hB3)
      have Z3 := Lib.hid (Z2.out.step hB3)
      have G3 := Lib.hid (G2.out.trans (gr_of_below (b := b) hB3))
      obtain ⟨d0, d1, d2, d3, f0⟩ := Z3.out.d
      clear hB3
      go_wp2_with fail
      refine (ht4 _ H3.out).mono ?_
      rintro e w4 ⟨rfl, hR4, hG4⟩
      have htg := htg (mustP_size Ho.out H3.out.mem)
      have H4 := Lib.hid hR4
      have Z4 := Lib.hid (Z3.out.grown hG4 hlt)
      have G4 := Lib.hid (G3.out.trans hG4)
      clear hR4 hG4
      go_wp2_with fail
      refine (htg _).mono ?_
      rintro e w5 ⟨rfl, hB5⟩
      have H5 := Lib.hid (H4.out.below hB5)
      have G5 := Lib.hid (G4.out.trans (gr_of_below (b := b) hB5))
      obtain ⟨d0, d1, d2, d3, f0⟩ := (Z4.out.step hB5).d
      clear hB5
      go_wp2
      refine bodyPost_ret (v := tA ⟨3, (mustP [3] n s).1.x, lowS (mustP [4] n (mustP [3] n s).2).1.x, ⟨#[]⟩⟩) (by simp [results, Tryz.results64, go_sem, d0, d1, d2, d3]) rfl ?_
      rw [hm.out]
      refine ⟨rfl, ?_, ?_⟩
      · exact (((H5.out.other hlt _ _).other hlt _ _).other hlt _ _).other hlt _ _
      · exact gr_set (gr_set (gr_set (gr_set G5.out (Nat.le_refl _) _ _) (Nat.le_refl _) _ _) (Nat.le_refl _) _ _) (Nat.le_refl _) _ _
    · by_cases hp5 : headK (mustP [3] n s).2.r = 5
      · have hm : Hid (objR n s = (typedT (mustP [3] n s).1.x (mustP [1] n (mustP [5] n (mustP [3] n s).2).2).1.x, (mustP [1] n (mustP [5] n (mustP [3] n s).2).2).2)) := by show _ = _; unfold objR; rw [if_pos hq]; dsimp only; rw [if_neg hp4, if_pos hp5]
        simp only [hp5] at hk1
        have ht4 := hT (mustP [3] n s).2 5 (by omega)
        have ht5 := hT (mustP [5] n (mustP [3] n s).2).2 1 (by omega)
        clear hK hT hN h hq hp4 hp5 ho
        go_enter Tryz.func64, Tryz.ntmps64
        go_wp2_with fail
        refine (hk0 _ (H.out.below ((Below.refl _ _).alloc (Nat.le_refl _) _))).mono ?_
        rintro e w1 ⟨rfl, hB1⟩
        have H1 := Lib.hid ((H.out.below ((Below.refl _ _).alloc (Nat.le_refl _) _)).below hB1)
        have Z1 := Lib.hid ((zT.new w).step hB1)
        have G1 := Lib.hid ((gr_of_below ((Below.refl w.heap.size w).alloc (Nat.le_refl _) (.cells #[.int .i64 0, .string ⟨#[]⟩, .string ⟨#[]⟩, .string ⟨#[]⟩] 35))).trans (gr_of_below (b := b) hB1))
        clear hB1
        go_wp2_with fail
        refine (ht3 _ H1.out).mono ?_
        rintro e w2 ⟨rfl, hR2, hG2⟩
        have H2 := Lib.hid hR2
        have Z2 := Lib.hid (Z1.out.grown hG2 hlt)
        have G2 := Lib.hid (G1.out.trans hG2)
        clear hR2 hG2
        go_wp2_with fail
        refine (hk1 _ H2.out).mono ?_
        rintro e w3 ⟨rfl, hB3⟩
        have H3 := Lib.hid (H2.out.below hB3)
        have Z3 := Lib.hid (Z2.out.step hB3)
        have G3 := Lib.hid (G2.out.trans (gr_of_below (b := b) hB3))
        obtain ⟨d0, d1, d2, d3, f0⟩ := Z3.out.d
        clear hB3
        go_wp2_with fail
        refine (ht4 _ H3.out).mono ?_
        rintro e w4 ⟨rfl, hR4, hG4⟩
        have H4 := Lib.hid hR4
        have Z4 := Lib.hid (Z3.out.grown hG4 hlt)
        have G4 := Lib.hid (G3.out.trans hG4)
        clear hR4 hG4
        go_wp2_with fail
        refine (ht5 _ H4.out).mono ?_
        rintro e w5 ⟨rfl, hR5, hG5⟩
        have H5 := Lib.hid hR5
        have Z5 := Lib.hid (Z4.out.grown hG5 hlt)
        have G5 := Lib.hid (G4.out.trans hG5)
        clear hR5 hG5
        go_wp2_with fail
        refine (r08Typed _ _ _).mono ?_
        rintro e w6 ⟨rfl, hB6⟩
        have H6 := Lib.hid (H5.out.below hB6)
        have G6 := Lib.hid (G5.out.trans (gr_of_below (b := b) hB6))
        obtain ⟨d0, d1, d2, d3, f0⟩ := (Z5.out.step hB6).d
        clear hB6
        go_wp2
        refine bodyPost_ret (v := tA (typedT (mustP [3] n s).1.x (mustP [1] n (mustP [5] n (mustP [3] n s).2).2).1.x)) (by simp [results, Tryz.results64, go_sem, d0, d1, d2, d3]) rfl ?_
        rw [hm.out]
        refine ⟨rfl, ?_, ?_⟩
        · exact (((H6.out.other hlt _ _).other hlt _ _).other hlt _ _).other hlt _ _
        · exact gr_set (gr_set (gr_set (gr_set G6.out (Nat.le_refl _) _ _) (Nat.le_refl _) _ _) (Nat.le_refl _) _ _) (Nat.le_refl _) _ _
      · have hm : Hid (objR n s = (⟨3, (mustP [3] n s).1.x, ⟨#[]⟩, ⟨#[]⟩⟩, (mustP [3] n s).2)) := by show _ = _; unfold objR; rw [if_pos hq]; dsimp only; rw [if_neg hp4, if_neg hp5]
        have hq4 : ((headK (mustP [3] n s).2.r : Int) == 4) = false := by simp; omega
        have hq5 : ((headK (mustP [3] n s).2.r : Int) == 5) = false := by simp; omega
        clear hK hT hN h hq hp4 hp5 ho
        go_enter Tryz.func64, Tryz.ntmps64
        go_wp2_with fail
        refine (hk0 _ (H.out.below ((Below.refl _ _).alloc (Nat.le_refl _) _))).mono ?_
        rintro e w1 ⟨rfl, hB1⟩
        have H1 := Lib.hid ((H.out.below ((Below.refl _ _).alloc (Nat.le_refl _) _)).below hB1)
        have Z1 := Lib.hid ((zT.new w).step hB1)
        have G1 := Lib.hid ((gr_of_below ((Below.refl w.heap.size w).alloc (Nat.le_refl _) (.cells #[.int .i64 0, .string ⟨#[]⟩, .string ⟨#[]⟩, .string ⟨#[]⟩] 35))).trans (gr_of_below (b := b) hB1))
        clear hB1
        go_wp2_with fail
        refine (ht3 _ H1.out).mono ?_
        rintro e w2 ⟨rfl, hR2, hG2⟩
        have H2 := Lib.hid hR2
        have Z2 := Lib.hid (Z1.out.grown hG2 hlt)
        have G2 := Lib.hid (G1.out.trans hG2)
        clear hR2 hG2
        go_wp2_with fail
        refine (hk1 _ H2.out).mono ?_
        rintro e w3 ⟨rfl, hB3⟩
        have H3 := Lib.hid (H2.out.below hB3)
        have Z3 := Lib.hid (Z2.out.step hB3)
        have G3 := Lib.hid (G2.out.trans (gr_of_below (b := b) hB3))
        obtain ⟨d0, d1, d2, d3, f0⟩ := Z3.out.d
        clear hB3
        go_wp2
        refine bodyPost_ret (v := tA ⟨3, (mustP [3] n s).1.x, ⟨#[]⟩, ⟨#[]⟩⟩) (by simp [results, Tryz.results64, go_sem, d0, d1, d2, d3]) rfl ?_
        rw [hm.out]
        refine ⟨rfl, ?_, ?_⟩
        · exact (((H3.out.other hlt _ _).other hlt _ _).other hlt _ _).other hlt _ _
        · exact gr_set (gr_set (gr_set (gr_set G3.out (Nat.le_refl _) _ _) (Nat.le_refl _) _ _) (Nat.le_refl _) _ _) (Nat.le_refl _) _ _
  · have hm : Hid (objR n s = nodeR n s) := by show _ = _; unfold objR; rw [if_neg hq]
    have hq1 : ((headK s.r : Int) == 3) = false := by simp; omega
    clear hK hT h hq
    go_enter Tryz.func64, Tryz.ntmps64
    go_wp2_with fail
    refine (hk0 _ (H.out.below ((Below.refl _ _).alloc (Nat.le_refl _) _))).mono ?_
    rintro e w1 ⟨rfl, hB1⟩
    have H1 := Lib.hid ((H.out.below ((Below.refl _ _).alloc (Nat.le_refl _) _)).below hB1)
    have Z1 := Lib.hid ((zT.new w).step hB1)
    have G1 := Lib.hid ((gr_of_below ((Below.refl w.heap.size w).alloc (Nat.le_refl _) (.cells #[.int .i64 0, .string ⟨#[]⟩, .string ⟨#[]⟩, .string ⟨#[]⟩] 35))).trans (gr_of_below (b := b) hB1))
    clear hB1
    go_wp2_with fail
    refine (hN _ H1.out).mono ?_
    rintro e w2 ⟨rfl, hR2, hG2⟩
    have H2 := Lib.hid hR2
    have G2 := Lib.hid (G1.out.trans hG2)
    obtain ⟨d0, d1, d2, d3, f0⟩ := (Z1.out.grown hG2 hlt).d
    clear hR2 hG2
    go_wp2
    refine bodyPost_ret (v := tA (nodeR n s).1) (by simp [results, Tryz.results64, go_sem, d0, d1, d2, d3]) rfl ?_
    rw [hm.out]
    refine ⟨rfl, ?_, ?_⟩
    · exact (((H2.out.other hlt _ _).other hlt _ _).other hlt _ _).other hlt _ _
    · exact gr_set (gr_set (gr_set (gr_set G2.out (Nat.le_refl _) _ _) (Nat.le_refl _) _ _) (Nat.le_refl _) _ _) (Nat.le_refl _) _ _
end Go.Proofs.YtffpgandgajihaaGreatDoor
