/- CheckSmall: the closed law returns true. -/
import Derived.Test.YtefjhehgpkljcaaGreatDoorJLaw24t
import Derived.Test.YtefjhehgpkljcaaGreatDoorJLaw24o
namespace Go.Proofs.YtefjhehgpkljcaaGreatDoor
open Go Go.RowKit Um Fm Mt

/-- A small query in a block. -/
def QSt (W0 : World) (Bq : Nat) (wx : World) : Prop := Below W0.heap.size W0 wx ∧ ∃ (q : Qy 2) (a1 a2 a3 a4 : Option Addr) (c1 c2 c3 c4 : Nat), BoxQ 2 wx Bq q a1 a2 a3 a4 c1 c2 c3 c4 ∧ szQu q
theorem BoxQ.set_lim {n : Nat} {w : World} {B : Nat} {q : Qy n} {a1 a2 a3 a4 : Option Addr} {c1 c2 c3 c4 : Nat} (h : BoxQ n w B q a1 a2 a3 a4 c1 c2 c3 c4) (l : Int) :
    BoxQ n (w.setCell ⟨B, 6, none⟩ (.int .i64 l)) B { q with lim := l } a1 a2 a3 a4 c1 c2 c3 c4 :=
  ⟨by rw [heap_setCell_same _ _ _ _ _ _ h.row]; rfl, h.le1, h.le2, h.le3, h.le4, RdL.cm h.r1 CM.woSet (fun _ _ _ h => h), RdL.cm h.r2 CM.woSet (fun _ _ _ h => h), RdEs.cm h.r3 CM.woSet, RdL.cm h.r4 CM.woSet (fun _ _ _ h => h)⟩
theorem BoxQ.set_ask {n : Nat} {w : World} {B : Nat} {q : Qy n} {a1 a2 a3 a4 : Option Addr} {c1 c2 c3 c4 : Nat} (h : BoxQ n w B q a1 a2 a3 a4 c1 c2 c3 c4) (l : Bool) :
    BoxQ n (w.setCell ⟨B, 0, none⟩ (.bool l)) B { q with ask := l } a1 a2 a3 a4 c1 c2 c3 c4 :=
  ⟨by rw [heap_setCell_same _ _ _ _ _ _ h.row]; rfl, h.le1, h.le2, h.le3, h.le4, RdL.cm h.r1 CM.woSet (fun _ _ _ h => h), RdL.cm h.r2 CM.woSet (fun _ _ _ h => h), RdEs.cm h.r3 CM.woSet, RdL.cm h.r4 CM.woSet (fun _ _ _ h => h)⟩
theorem szQu.set {n : Nat} {q : Qy n} (h : szQu q) (a : Bool) (l : Int) : szQu { q with ask := a, lim := l } := h
theorem szQu_vars {n : Nat} {q : Qy n} (h : szQu q) {l : List ByteArray} (h1 : l.length ≤ 1048576) (h2 : ∀ x ∈ l, x.size ≤ 1048576) : szQu { q with vars := l } := ⟨h1, h.2.1, h.2.2.1, h.2.2.2.1, h2, h.2.2.2.2.2.1, h.2.2.2.2.2.2.1, h.2.2.2.2.2.2.2⟩
theorem szQu_pats {n : Nat} {q : Qy n} (h : szQu q) {l : List Pat} (h1 : l.length ≤ 1048576) (h2 : ∀ x ∈ l, szPu x) : szQu { q with pats := l } := ⟨h.1, h1, h.2.2.1, h.2.2.2.1, h.2.2.2.2.1, h2, h.2.2.2.2.2.2.1, h.2.2.2.2.2.2.2⟩
theorem szQu_fils {n : Nat} {q : Qy n} (h : szQu q) {l : List (ExT n)} (h1 : l.length ≤ 1048576) (h2 : ∀ x ∈ l, szU n x) : szQu { q with fils := l } := ⟨h.1, h.2.1, h1, h.2.2.2.1, h.2.2.2.2.1, h.2.2.2.2.2.1, h2, h.2.2.2.2.2.2.2⟩
theorem szQu_ord {n : Nat} {q : Qy n} (h : szQu q) {l : List Ky} (h1 : l.length ≤ 1048576) (h2 : ∀ x ∈ l, x.v.size ≤ 1048576) : szQu { q with ord := l } := ⟨h.1, h.2.1, h.2.2.1, h1, h.2.2.2.2.1, h.2.2.2.2.2.1, h.2.2.2.2.2.2.1, h2⟩
theorem RdL.take {α : Type} {sz : Nat} {R : List Value → α → Prop} {w : World} {A : Option Addr} {l : List α} (h : RdL sz R w A l) (k : Nat) : RdL sz R w A (l.take k) := by
  obtain ⟨xs, hr, ha⟩ := h
  exact ⟨xs.take (k * sz), hr.take _, ha.take k⟩
/-- A list of names in a block. -/
def Names4 (w : World) (B : Nat) : Prop := ∀ i, i < 4 → ∃ s : ByteArray, s.size ≤ 1048576 ∧ w.cell? ⟨B, i, none⟩ = some (.string s)
theorem Names4.later {w w' : World} {B : Nat} (h : Names4 w B) (hb : Below w.heap.size w w') : Names4 w' B := fun i hi => by
  obtain ⟨s, h1, h2⟩ := h i hi
  exact ⟨s, h1, cell_on h2 hb⟩
theorem szTu_zero : szTu zTm := ⟨by decide, by decide, by decide⟩
theorem Names4.rest {w : World} {B : Nat} (h : Names4 w B) (k : Nat) (hk : k ≤ 4) : ∃ l : List ByteArray, l.length = 4 - k ∧ Rd w (some ⟨B, k, none⟩) (l.map Value.string) := by
  have step : ∀ m, m ≤ 4 - k → ∃ l : List ByteArray, l.length = m ∧ ∀ j u, (l.map Value.string)[j]? = some u → w.cell? ⟨B, k + j, none⟩ = some u := by
    intro m
    induction m with
    | zero => exact fun _ => ⟨[], rfl, fun j u hu => by simp at hu⟩
    | succ m ih =>
      intro hm
      obtain ⟨l, h1, h2⟩ := ih (by omega)
      obtain ⟨s, _, h3⟩ := h (k + m) (by omega)
      refine ⟨l ++ [s], by simp [h1], fun j u hu => ?_⟩
      rw [List.map_append] at hu
      by_cases hj : j < m
      · rw [List.getElem?_append_left (by simp; omega)] at hu
        exact h2 j u hu
      · rw [List.getElem?_append_right (by simp; omega)] at hu
        have hj2 : j - (l.map Value.string).length = 0 := by
          have := (List.getElem?_eq_some_iff.1 hu).1
          simp at this ⊢; omega
        rw [hj2] at hu
        simp at hu
        have : j = m := by simp at hj2; omega
        subst this hu; exact h3
  obtain ⟨l, h1, h2⟩ := step (4 - k) (Nat.le_refl _)
  exact ⟨l, h1, .inr ⟨B, k, rfl, h2⟩⟩
theorem rdl_wo {α : Type} {sz : Nat} {R R' : List Value → α → Prop} {B : Nat} {w : World} {A : Option Addr} {l : List α} (h : RdL sz R w A l) (hA : ∀ a, A = some a → a.block ≠ B) (hm : ∀ cs e, e ∈ l → R cs e → R' cs e) : RdL sz R' (wo (hB B) w) A l := by
  obtain ⟨xs, hr, ha⟩ := h
  refine ⟨xs, ?_, ha.mono hm⟩
  rcases hr with h0 | ⟨g, o, rfl, hc⟩
  · exact .inl h0
  · exact .inr ⟨g, o, rfl, fun j u hu => wo_cellB.2 ⟨hc j u hu, hA ⟨g, o, none⟩ rfl⟩⟩
theorem rd_woB {B : Nat} {w : World} {A : Option Addr} {xs : List Value} (hr : Rd w A xs) (hA : ∀ a, A = some a → a.block ≠ B) : Rd (wo (hB B) w) A xs := by
  rcases hr with h0 | ⟨g, o, rfl, hc⟩
  · exact .inl h0
  · exact .inr ⟨g, o, rfl, fun j u hu => wo_cellB.2 ⟨hc j u hu, hA ⟨g, o, none⟩ rfl⟩⟩
theorem leafE (n : Nat) (w : World) (s : ByteArray) : RdE (n + 1) w [.int .i64 1, .string s, .int .i64 0, .string ⟨#[]⟩, .string ⟨#[]⟩, .string ⟨#[]⟩, .slice none 0 0] ((1, s, zTm, []) : ExT (n + 1)) := ⟨none, 0, rfl, Nat.le_refl _, RdL.nil _ _ _ _⟩
set_option maxRecDepth 100000 in
set_option maxHeartbeats 16000000 in
theorem lawCheckSmall (w : World) (hC : Ctx w) : Calls Tryz.prog 5 #[] w fun e w' => e = .returned (.bool true) ∧ Below w.heap.size w w' := by
  obtain ⟨W, hW⟩ : ∃ W : World, w.alloc (.cells #[.string ⟨#[120]⟩, .string ⟨#[121]⟩, .string ⟨#[122]⟩, .string ⟨#[119]⟩] 9) = W := ⟨_, rfl⟩
  have hB0 : Below w.heap.size w W := by rw [← hW]; exact (by repeat (first | exact Below.refl _ _ | assumption | exact (Below.refl _ _).alloc (Nat.le_refl _) _ | refine below_tr ?_ (by assumption) | refine below_alloc ?_ | refine below_tr ?_ (below_regrown _ _ _)))
  have hNm : Names4 W w.heap.size := fun i hi => by
    have hh : W.heap[w.heap.size]? = some (.cells #[.string ⟨#[120]⟩, .string ⟨#[121]⟩, .string ⟨#[122]⟩, .string ⟨#[119]⟩] 9 (0, 0)) := by rw [← hW]; exact heap_alloc_new _ _
    match i, hi with
    | 0, _ => exact ⟨⟨#[120]⟩, by decide, by rw [World.cell?, hh]; rfl⟩
    | 1, _ => exact ⟨⟨#[121]⟩, by decide, by rw [World.cell?, hh]; rfl⟩
    | 2, _ => exact ⟨⟨#[122]⟩, by decide, by rw [World.cell?, hh]; rfl⟩
    | 3, _ => exact ⟨⟨#[119]⟩, by decide, by rw [World.cell?, hh]; rfl⟩
    | n + 4, h => omega
  have HNm := Lib.hid hNm
  have HC := Lib.hid hC
  have HB0 := Lib.hid hB0
  have HW := Lib.hid hW
  clear hW hB0 hNm hC
  go_enter Tryz.func5, Tryz.ntmps5
  go_wp2
  simp only [HW.out]
  go_loopw [2] (fun i wr => ∃ k : Nat, k ≤ 2048 ∧ i = .int .i64 k ∧ Below W.heap.size W wr) (fun i _ => (2048 - intOf i).toNat)
  case atStart => exact ⟨0, by omega, rfl, Below.refl _ _⟩
  case round =>
    obtain ⟨k, hk, rfl, hB⟩ := hrel
    by_cases hlt : (k : Int) < 2048
    · have HNr := Lib.hid (HNm.out.later hB)
      have HBr := Lib.hid hB
      clear hB
      have hbl : w.heap.size < wr.heap.size := by obtain ⟨s, _, h⟩ := HNr.out 0 (by omega); exact cell_lt h
      obtain ⟨x1, nx1, lx1⟩ : ∃ x : Nat, (k : Int) % 4 = x ∧ x < 4 := ⟨((k : Int) % 4).toNat, by omega, by omega⟩
      have Nx1 := Lib.hid nx1
      clear nx1
      obtain ⟨x2, nx2, lx2⟩ : ∃ x : Nat, (k : Int) / 4 % 3 = x ∧ x < 3 := ⟨((k : Int) / 4 % 3).toNat, by omega, by omega⟩
      have Nx2 := Lib.hid nx2
      clear nx2
      obtain ⟨x3, nx3, lx3⟩ : ∃ x : Nat, (k : Int) / 16 % 4 = x ∧ x < 4 := ⟨((k : Int) / 16 % 4).toNat, by omega, by omega⟩
      have Nx3 := Lib.hid nx3
      clear nx3
      obtain ⟨x4, nx4, lx4⟩ : ∃ x : Nat, (k : Int) % 3 = x ∧ x < 3 := ⟨((k : Int) % 3).toNat, by omega, by omega⟩
      have Nx4 := Lib.hid nx4
      clear nx4
      obtain ⟨x5, nx5, lx5⟩ : ∃ x : Nat, (k : Int) / 8 % 4 = x ∧ x < 4 := ⟨((k : Int) / 8 % 4).toNat, by omega, by omega⟩
      have Nx5 := Lib.hid nx5
      clear nx5
      obtain ⟨x6, nx6, lx6⟩ : ∃ x : Nat, (k : Int) / 32 % 4 = x ∧ x < 4 := ⟨((k : Int) / 32 % 4).toNat, by omega, by omega⟩
      have Nx6 := Lib.hid nx6
      clear nx6
      obtain ⟨x7, nx7, lx7⟩ : ∃ x : Nat, (k : Int) / 128 % 4 = x ∧ x < 4 := ⟨((k : Int) / 128 % 4).toNat, by omega, by omega⟩
      have Nx7 := Lib.hid nx7
      clear nx7
      obtain ⟨x8, nx8, lx8⟩ : ∃ x : Nat, (k : Int) / 3 % 4 = x ∧ x < 4 := ⟨((k : Int) / 3 % 4).toNat, by omega, by omega⟩
      have Nx8 := Lib.hid nx8
      clear nx8
      obtain ⟨x9, nx9, lx9⟩ : ∃ x : Nat, (k : Int) / 64 % 4 = x ∧ x < 4 := ⟨((k : Int) / 64 % 4).toNat, by omega, by omega⟩
      have Nx9 := Lib.hid nx9
      clear nx9
      obtain ⟨y1, ny1, ly1⟩ : ∃ x : Nat, (k : Int) / 2 % 4 = x ∧ x < 4 := ⟨((k : Int) / 2 % 4).toNat, by omega, by omega⟩
      have Ny1 := Lib.hid ny1
      clear ny1
      obtain ⟨y2, ny2, ly2⟩ : ∃ x : Nat, (k : Int) / 5 % 3 = x ∧ x < 3 := ⟨((k : Int) / 5 % 3).toNat, by omega, by omega⟩
      have Ny2 := Lib.hid ny2
      clear ny2
      obtain ⟨y3, ny3, ly3⟩ : ∃ x : Nat, (k : Int) / 9 % 4 = x ∧ x < 4 := ⟨((k : Int) / 9 % 4).toNat, by omega, by omega⟩
      have Ny3 := Lib.hid ny3
      clear ny3
      have hq0 : QSt wr wr.heap.size (wr.alloc (.cells #[.bool false, .bool false, .slice none 0 0, .slice none 0 0, .slice none 0 0, .slice none 0 0, .int .i64 (-1), .int .i64 0] 40)) :=
        ⟨(Below.refl _ _).alloc (Nat.le_refl _) _, ⟨false, false, [], [], [], [], -1, 0⟩, none, none, none, none, 0, 0, 0, 0, ⟨heap_alloc_new _ _, Nat.le_refl _, Nat.le_refl _, Nat.le_refl _, Nat.le_refl _, RdL.nil _ _ _ _, RdL.nil _ _ _ _, RdL.nil _ _ _ _, RdL.nil _ _ _ _⟩,
          ⟨by decide, by decide, by decide, by decide, (by intro x hx; cases hx), (by intro x hx; cases hx), (by intro x hx; cases hx), (by intro x hx; cases hx)⟩⟩
      go_upto_region 7 with (fail)
      obtain ⟨V0, hV⟩ : ∃ V : World, wr.alloc (.cells #[.bool false, .bool false, .slice none 0 0, .slice none 0 0, .slice none 0 0, .slice none 0 0, .int .i64 (-1), .int .i64 0] 40) = V := ⟨_, rfl⟩
      simp only [hV]
      rw [hV] at hq0
      clear hV
      obtain ⟨hBq, q, a1, a2, a3, a4, c1, c2, c3, c4, hbox, hzq⟩ := hq0
      have Hbox := Lib.hid hbox
      have Hzq := Lib.hid hzq
      have HBq := Lib.hid hBq
      clear hbox hzq hBq
      obtain ⟨s1, z1, t1⟩ := (HNr.out.later HBq.out) x1 (by omega)
      obtain ⟨s2, z2, t2⟩ := (HNr.out.later HBq.out) x2 (by omega)
      obtain ⟨s3, z3, t3⟩ := (HNr.out.later HBq.out) x3 (by omega)
      have nx1 := Nx1.out
      have nx2 := Nx2.out
      have nx3 := Nx3.out
      have nx4 := Nx4.out
      go_cut [] from 10 to 39 (fun wx => QSt wr wr.heap.size wx)
      case first =>
        rename_i hJ hM
        refine Rl.wp_region_st V0.heap.size 30 _ [(true, [0, 1, 2, 3, 4, 7, 8, 9, 10, 11, 12, 16, 17, 18, 19, 20, 21, 26, 27]), (false, [5]), (false, [6]), (false, [13]), (true, [14]), (false, [15]), (false, [22]), (false, [23]), (true, [24]), (false, [25]), (true, [28, 29])] _ (by kernel_rfl) (by kernel_rfl) rfl (by simp only [List.map_cons, List.map_nil, Rg.pickOps, List.getElem?_toArray, List.getElem?_cons_zero, List.getElem?_cons_succ, Option.getD_some]; rfl) ?_ (fun a w h => h)
        intro wd hbd hwz
        have u1 := cellL t1 hbd
        have u2 := cellL t2 hbd
        have u3 := cellL t3 hbd
        have Hbd := Lib.hid hbd
        have hle := hbd.size
        clear hbd hwz t1 t2 t3
        refine Rl.st_quiet ?_
        iterate 19 go_big_quiet_step (fail)
        refine wpQuiet_nil (Rl.st_one ?_)
        go_wp2_with (refine (l24Free _ _).mono ?_; rintro e w1 ⟨rfl, b1⟩)
        refine ⟨b1.mono hle, Rl.st_one ?_⟩
        go_wp2_with (refine (l24Free _ _).mono ?_; rintro e w2 ⟨rfl, b2⟩)
        have B2 := below_tr b1 b2
        refine ⟨b2.mono (Nat.le_trans hle b1.size), Rl.st_one ?_⟩
        go_wp2_with (refine (l24Free _ _).mono ?_; rintro e w3 ⟨rfl, b3⟩)
        have B3 := below_tr B2 b3
        refine ⟨b3.mono (Nat.le_trans hle B2.size), Rl.st_quiet ?_⟩
        iterate 1 go_big_quiet_step (fail)
        refine wpQuiet_nil (Rl.st_one ?_)
        go_wp2_with (refine (l24Free _ _).mono ?_; rintro e w4 ⟨rfl, b4⟩)
        have B4 := below_tr B3 b4
        refine ⟨b4.mono (Nat.le_trans hle B3.size), Rl.st_one ?_⟩
        go_wp2_with (refine (l24Free _ _).mono ?_; rintro e w5 ⟨rfl, b5⟩)
        have B5 := below_tr B4 b5
        refine ⟨b5.mono (Nat.le_trans hle B4.size), Rl.st_one ?_⟩
        go_wp2_with (refine (l24Free _ _).mono ?_; rintro e w6 ⟨rfl, b6⟩)
        have B6 := below_tr B5 b6
        refine ⟨b6.mono (Nat.le_trans hle B5.size), Rl.st_quiet ?_⟩
        iterate 1 go_big_quiet_step (fail)
        refine wpQuiet_nil (Rl.st_one ?_)
        have BV := below_tr Hbd.out B6
        clear b1 b2 b3 b4 b5 b6 B2 B3 B4 B5 B6 u1 u2 u3 hle
        have hle6 := BV.size
        go_wp2_with fail
        refine ⟨(Below.refl _ _).alloc hle6 _, Rl.st_quiet ?_⟩
        iterate 2 go_big_quiet_step (fail)
        refine wpQuiet_nil (Rl.st_last ?_)
        have hal : Below w6.heap.size w6 (w6.alloc (.cells #[.string s1, .int .i64 0, .string ⟨#[]⟩, .string ⟨#[]⟩, .string ⟨#[]⟩, .string ⟨#[120]⟩, .int .i64 0, .string ⟨#[]⟩, .string ⟨#[]⟩, .string ⟨#[]⟩, .string s2, .int .i64 0, .string ⟨#[]⟩, .string ⟨#[]⟩, .string ⟨#[]⟩, .string ⟨#[121]⟩, .int .i64 0, .string ⟨#[]⟩, .string ⟨#[]⟩, .string ⟨#[]⟩, .string s3, .int .i64 0, .string ⟨#[]⟩, .string ⟨#[]⟩, .string ⟨#[]⟩, .string ⟨#[121]⟩, .int .i64 0, .string ⟨#[]⟩, .string ⟨#[]⟩, .string ⟨#[]⟩] 58)) := (by repeat (first | exact Below.refl _ _ | assumption | exact (Below.refl _ _).alloc (Nat.le_refl _) _ | refine below_tr ?_ (by assumption) | refine below_alloc ?_ | refine below_tr ?_ (below_regrown _ _ _)))
        have hrd : RdPat (w6.alloc (.cells #[.string s1, .int .i64 0, .string ⟨#[]⟩, .string ⟨#[]⟩, .string ⟨#[]⟩, .string ⟨#[120]⟩, .int .i64 0, .string ⟨#[]⟩, .string ⟨#[]⟩, .string ⟨#[]⟩, .string s2, .int .i64 0, .string ⟨#[]⟩, .string ⟨#[]⟩, .string ⟨#[]⟩, .string ⟨#[121]⟩, .int .i64 0, .string ⟨#[]⟩, .string ⟨#[]⟩, .string ⟨#[]⟩, .string s3, .int .i64 0, .string ⟨#[]⟩, .string ⟨#[]⟩, .string ⟨#[]⟩, .string ⟨#[121]⟩, .int .i64 0, .string ⟨#[]⟩, .string ⟨#[]⟩, .string ⟨#[]⟩] 58)) (some ⟨w6.heap.size, 0, none⟩) [(⟨⟨s1, zTm⟩, ⟨sx, zTm⟩, ⟨s2, zTm⟩⟩ : Pat), ⟨⟨sy, zTm⟩, ⟨s3, zTm⟩, ⟨sy, zTm⟩⟩] :=
          ⟨_, Rd.of_block (heap_alloc_new w6 (.cells #[.string s1, .int .i64 0, .string ⟨#[]⟩, .string ⟨#[]⟩, .string ⟨#[]⟩, .string ⟨#[120]⟩, .int .i64 0, .string ⟨#[]⟩, .string ⟨#[]⟩, .string ⟨#[]⟩, .string s2, .int .i64 0, .string ⟨#[]⟩, .string ⟨#[]⟩, .string ⟨#[]⟩, .string ⟨#[121]⟩, .int .i64 0, .string ⟨#[]⟩, .string ⟨#[]⟩, .string ⟨#[]⟩, .string s3, .int .i64 0, .string ⟨#[]⟩, .string ⟨#[]⟩, .string ⟨#[]⟩, .string ⟨#[121]⟩, .int .i64 0, .string ⟨#[]⟩, .string ⟨#[]⟩, .string ⟨#[]⟩] 58)) rfl, ⟨_, _, rfl, rfl, rfl, ⟨_, _, rfl, rfl, rfl, rfl⟩⟩⟩
        obtain ⟨V7, hV7⟩ : ∃ V, V = w6.alloc (.cells #[.string s1, .int .i64 0, .string ⟨#[]⟩, .string ⟨#[]⟩, .string ⟨#[]⟩, .string ⟨#[120]⟩, .int .i64 0, .string ⟨#[]⟩, .string ⟨#[]⟩, .string ⟨#[]⟩, .string s2, .int .i64 0, .string ⟨#[]⟩, .string ⟨#[]⟩, .string ⟨#[]⟩, .string ⟨#[121]⟩, .int .i64 0, .string ⟨#[]⟩, .string ⟨#[]⟩, .string ⟨#[]⟩, .string s3, .int .i64 0, .string ⟨#[]⟩, .string ⟨#[]⟩, .string ⟨#[]⟩, .string ⟨#[121]⟩, .int .i64 0, .string ⟨#[]⟩, .string ⟨#[]⟩, .string ⟨#[]⟩] 58) := ⟨_, rfl⟩
        rw [← hV7] at hal hrd
        simp only [← hV7]
        have BV7 := below_tr BV hal
        have hbx := Hbox.out.later BV7
        have hne : w6.heap.size ≠ wr.heap.size := by have := hbx; have := (Array.getElem?_eq_some_iff.1 Hbox.out.row).1; omega
        have hrd2 : RdPat (wo (hB wr.heap.size) V7) (some ⟨w6.heap.size, 0, none⟩) _ := rdl_wo hrd (fun a h => by cases h; exact hne) (fun _ _ _ h => h)
        have hset := hbx.set_pats (l := List.take x4 _) (c := 2) (by rw [List.length_take]; simp; omega) (RdL.take hrd2 x4)
        have hln : (List.take x4 [(⟨⟨s1, zTm⟩, ⟨sx, zTm⟩, ⟨s2, zTm⟩⟩ : Pat), ⟨⟨sy, zTm⟩, ⟨s3, zTm⟩, ⟨sy, zTm⟩⟩]).length = x4 := by rw [List.length_take]; simp; omega
        rw [hln] at hset
        have c6 := hbx.cell 3 (.slice a2 q.pats.length c2) rfl
        have fz := hbx.fr 3
        have hwz7 : wr.heap.size ≤ V7.heap.size := Nat.le_trans HBq.out.size BV7.size
        have HF := Lib.hid ((HBq.out.trans (BV7.mono HBq.out.size)).setCell (p := ⟨wr.heap.size, 3, none⟩) (Nat.le_refl _) (.slice (some ⟨w6.heap.size, 0, none⟩) x4 2))
        have hzz := szQu_pats (l := List.take x4 [(⟨⟨s1, zTm⟩, ⟨sx, zTm⟩, ⟨s2, zTm⟩⟩ : Pat), ⟨⟨sy, zTm⟩, ⟨s3, zTm⟩, ⟨sy, zTm⟩⟩]) Hzq.out (by rw [hln]; omega) (fun x hx => by
          have hx := List.mem_of_mem_take hx
          have hy : sy.size ≤ 1048576 := by decide
          have hx2 : sx.size ≤ 1048576 := by decide
          simp only [List.mem_cons, List.not_mem_nil, or_false] at hx
          rcases hx with rfl | rfl
          · exact ⟨⟨z1, szTu_zero⟩, ⟨hx2, szTu_zero⟩, ⟨z2, szTu_zero⟩⟩
          · exact ⟨⟨hy, szTu_zero⟩, ⟨z3, szTu_zero⟩, ⟨hy, szTu_zero⟩⟩)
        clear hV7 hbx hrd hrd2 hal BV BV7
        go_wp2
        refine Met.intro (hJ _ _ ?_)
        (repeat apply Exists.intro)
        exact ⟨⟨HF.out, _, _, _, _, _, _, _, _, _, hset, hzz⟩, rfl⟩
      have hqK := hcut
      obtain ⟨V1, hV1⟩ : ∃ V : World, V = wc := ⟨_, rfl⟩
      subst hV1
      clear hcut t1 t2 t3 z1 z2 z3 nx1 nx2 nx3 nx4
      obtain ⟨hBq, q, a1, a2, a3, a4, c1, c2, c3, c4, hbox, hzq⟩ := hqK
      have Hbox := Lib.hid hbox
      have Hzq := Lib.hid hzq
      have HBq := Lib.hid hBq
      clear hbox hzq hBq
      go_upto_region 8 with (fail)
      obtain ⟨s1, z1, t1⟩ := (HNr.out.later HBq.out) x5 (by omega)
      obtain ⟨s2, z2, t2⟩ := (HNr.out.later HBq.out) x6 (by omega)
      obtain ⟨s3, z3, t3⟩ := (HNr.out.later HBq.out) x7 (by omega)
      have nx5 := Nx5.out
      have nx6 := Nx6.out
      have nx7 := Nx7.out
      have nx8 := Nx8.out
      go_cut [] from 40 to 63 (fun wx => QSt wr wr.heap.size wx)
      case first =>
        rename_i hJ hM
        refine Rl.wp_region_st V1.heap.size 24 _ [(true, [0, 1, 2, 3, 4, 5, 6, 7, 8, 9, 10, 11, 12, 13, 14, 15, 16, 17, 19, 20, 21]), (false, [18]), (true, [22, 23])] _ (by kernel_rfl) (by kernel_rfl) rfl (by simp only [List.map_cons, List.map_nil, Rg.pickOps, List.getElem?_toArray, List.getElem?_cons_zero, List.getElem?_cons_succ, Option.getD_some]; rfl) ?_ (fun a w h => h)
        intro wd hbd hwz
        have u1 := cellL t1 hbd
        have u2 := cellL t2 hbd
        have u3 := cellL t3 hbd
        have Hbd := Lib.hid hbd
        have hle := hbd.size
        clear hbd hwz t1 t2 t3
        refine Rl.st_quiet ?_
        iterate 21 go_big_quiet_step (fail)
        refine wpQuiet_nil (Rl.st_one ?_)
        have BV := Hbd.out
        clear u1 u2 u3
        go_wp2_with fail
        refine ⟨(Below.refl _ _).alloc hle _, Rl.st_quiet ?_⟩
        iterate 2 go_big_quiet_step (fail)
        refine wpQuiet_nil (Rl.st_last ?_)
        have hal : Below wd.heap.size wd (wd.alloc (.cells #[.string s1, .string s2, .string s3] 9)) := (by repeat (first | exact Below.refl _ _ | assumption | exact (Below.refl _ _).alloc (Nat.le_refl _) _ | refine below_tr ?_ (by assumption) | refine below_alloc ?_ | refine below_tr ?_ (below_regrown _ _ _)))
        have hrd : RdStr (wd.alloc (.cells #[.string s1, .string s2, .string s3] 9)) (some ⟨wd.heap.size, 0, none⟩) [s1, s2, s3] :=
          ⟨_, Rd.of_block (heap_alloc_new wd (.cells #[.string s1, .string s2, .string s3] 9)) rfl, ⟨[.string s1], _, rfl, rfl, rfl, ⟨[.string s2], _, rfl, rfl, rfl, ⟨[.string s3], _, rfl, rfl, rfl, rfl⟩⟩⟩⟩
        obtain ⟨V7, hV7⟩ : ∃ V, V = wd.alloc (.cells #[.string s1, .string s2, .string s3] 9) := ⟨_, rfl⟩
        rw [← hV7] at hal hrd
        simp only [← hV7]
        have BV7 := below_tr BV hal
        have hbx := Hbox.out.later BV7
        have hne : wd.heap.size ≠ wr.heap.size := by have := hbx; have := (Array.getElem?_eq_some_iff.1 Hbox.out.row).1; omega
        have hrd2 : RdStr (wo (hB wr.heap.size) V7) (some ⟨wd.heap.size, 0, none⟩) _ := rdl_wo hrd (fun a h => by cases h; exact hne) (fun _ _ _ h => h)
        have hset := hbx.set_vars (l := List.take x8 _) (c := 3) (by rw [List.length_take]; simp; omega) (RdL.take hrd2 x8)
        have hln : (List.take x8 [s1, s2, s3]).length = x8 := by rw [List.length_take]; simp; omega
        rw [hln] at hset
        have c6 := hbx.cell 2 (.slice a1 q.vars.length c1) rfl
        have fz := hbx.fr 2
        have hwz7 : wr.heap.size ≤ V7.heap.size := Nat.le_trans HBq.out.size BV7.size
        have HF := Lib.hid ((HBq.out.trans (BV7.mono HBq.out.size)).setCell (p := ⟨wr.heap.size, 2, none⟩) (Nat.le_refl _) (.slice (some ⟨wd.heap.size, 0, none⟩) x8 3))
        have hzz := szQu_vars (l := List.take x8 [s1, s2, s3]) Hzq.out (by rw [hln]; omega) (fun x hx => by
          have hx := List.mem_of_mem_take hx
          simp only [List.mem_cons, List.not_mem_nil, or_false] at hx
          rcases hx with rfl | rfl | rfl <;> assumption)
        clear hV7 hbx hrd hrd2 hal BV BV7
        go_wp2
        refine Met.intro (hJ _ _ ?_)
        (repeat apply Exists.intro)
        exact ⟨⟨HF.out, _, _, _, _, _, _, _, _, _, hset, hzz⟩, rfl⟩
      have hqK := hcut
      obtain ⟨V2, hV2⟩ : ∃ V : World, V = wc := ⟨_, rfl⟩
      subst hV2
      clear hcut t1 t2 t3 z1 z2 z3 nx5 nx6 nx7 nx8
      obtain ⟨hBq, q, a1, a2, a3, a4, c1, c2, c3, c4, hbox, hzq⟩ := hqK
      have Hbox := Lib.hid hbox
      have Hzq := Lib.hid hzq
      have HBq := Lib.hid hBq
      clear hbox hzq hBq
      go_upto_region 9 with (fail)
      obtain ⟨s1, z1, t1⟩ := (HNr.out.later HBq.out) x9 (by omega)
      obtain ⟨s2, z2, t2⟩ := (HNr.out.later HBq.out) y1 (by omega)
      have nx9 := Nx9.out
      have ny1 := Ny1.out
      have ny2 := Ny2.out
      go_cut [] from 64 to 83 (fun wx => QSt wr wr.heap.size wx)
      case first =>
        rename_i hJ hM
        refine Rl.wp_region_st V2.heap.size 20 _ [(true, [0, 1, 2, 3, 4, 5, 6, 7, 8, 9, 10, 11, 12, 13, 15, 16, 17]), (false, [14]), (true, [18, 19])] _ (by kernel_rfl) (by kernel_rfl) rfl (by simp only [List.map_cons, List.map_nil, Rg.pickOps, List.getElem?_toArray, List.getElem?_cons_zero, List.getElem?_cons_succ, Option.getD_some]; rfl) ?_ (fun a w h => h)
        intro wd hbd hwz
        have u1 := cellL t1 hbd
        have u2 := cellL t2 hbd
        have Hbd := Lib.hid hbd
        have hle := hbd.size
        clear hbd hwz t1 t2
        refine Rl.st_quiet ?_
        iterate 17 go_big_quiet_step (fail)
        refine wpQuiet_nil (Rl.st_one ?_)
        have BV := Hbd.out
        clear u1 u2
        go_wp2_with fail
        refine ⟨(Below.refl _ _).alloc hle _, Rl.st_quiet ?_⟩
        iterate 2 go_big_quiet_step (fail)
        refine wpQuiet_nil (Rl.st_last ?_)
        have hal : Below wd.heap.size wd (wd.alloc (.cells #[.string s1, .bool false, .string s2, .bool true] 60)) := (by repeat (first | exact Below.refl _ _ | assumption | exact (Below.refl _ _).alloc (Nat.le_refl _) _ | refine below_tr ?_ (by assumption) | refine below_alloc ?_ | refine below_tr ?_ (below_regrown _ _ _)))
        have hrd : RdKey (wd.alloc (.cells #[.string s1, .bool false, .string s2, .bool true] 60)) (some ⟨wd.heap.size, 0, none⟩) [(⟨s1, false⟩ : Ky), ⟨s2, true⟩] :=
          ⟨_, Rd.of_block (heap_alloc_new wd (.cells #[.string s1, .bool false, .string s2, .bool true] 60)) rfl, ⟨[.string s1, .bool false], _, rfl, rfl, rfl, ⟨[.string s2, .bool true], _, rfl, rfl, rfl, rfl⟩⟩⟩
        obtain ⟨V7, hV7⟩ : ∃ V, V = wd.alloc (.cells #[.string s1, .bool false, .string s2, .bool true] 60) := ⟨_, rfl⟩
        rw [← hV7] at hal hrd
        simp only [← hV7]
        have BV7 := below_tr BV hal
        have hbx := Hbox.out.later BV7
        have hne : wd.heap.size ≠ wr.heap.size := by have := hbx; have := (Array.getElem?_eq_some_iff.1 Hbox.out.row).1; omega
        have hrd2 : RdKey (wo (hB wr.heap.size) V7) (some ⟨wd.heap.size, 0, none⟩) _ := rdl_wo hrd (fun a h => by cases h; exact hne) (fun _ _ _ h => h)
        have hset := hbx.set_ord (l := List.take y2 _) (c := 2) (by rw [List.length_take]; simp; omega) (RdL.take hrd2 y2)
        have hln : (List.take y2 [(⟨s1, false⟩ : Ky), ⟨s2, true⟩]).length = y2 := by rw [List.length_take]; simp; omega
        rw [hln] at hset
        have c6 := hbx.cell 5 (.slice a4 q.ord.length c4) rfl
        have fz := hbx.fr 5
        have hwz7 : wr.heap.size ≤ V7.heap.size := Nat.le_trans HBq.out.size BV7.size
        have HF := Lib.hid ((HBq.out.trans (BV7.mono HBq.out.size)).setCell (p := ⟨wr.heap.size, 5, none⟩) (Nat.le_refl _) (.slice (some ⟨wd.heap.size, 0, none⟩) y2 2))
        have hzz := szQu_ord (l := List.take y2 [(⟨s1, false⟩ : Ky), ⟨s2, true⟩]) Hzq.out (by rw [hln]; omega) (fun x hx => by
          have hx := List.mem_of_mem_take hx
          simp only [List.mem_cons, List.not_mem_nil, or_false] at hx
          rcases hx with rfl | rfl <;> assumption)
        clear hV7 hbx hrd hrd2 hal BV BV7
        go_wp2
        refine Met.intro (hJ _ _ ?_)
        (repeat apply Exists.intro)
        exact ⟨⟨HF.out, _, _, _, _, _, _, _, _, _, hset, hzz⟩, rfl⟩
      have hqK := hcut
      obtain ⟨V3, hV3⟩ : ∃ V : World, V = wc := ⟨_, rfl⟩
      subst hV3
      have HqK := Lib.hid hqK
      clear hcut t1 t2 z1 z2 nx9 ny1 ny2
      obtain ⟨hBq, q, a1, a2, a3, a4, c1, c2, c3, c4, hbox, hzq⟩ := hqK
      have Hbox := Lib.hid hbox
      have Hzq := Lib.hid hzq
      have HBq := Lib.hid hBq
      clear hbox hzq hBq
      obtain ⟨s1, z1, t1⟩ := (HNr.out.later HBq.out) x3 (by omega)
      obtain ⟨s2, z2, t2⟩ := (HNr.out.later HBq.out) y3 (by omega)
      have nx3 := Nx3.out
      have ny3 := Ny3.out
      go_upto_if 86 with (fail)
      go_cut [] from 84 to 106 (fun wx => QSt wr wr.heap.size wx)
      case first =>
        rename_i hJ hM
        by_cases h7 : (k : Int) % 7 = 3
        case neg =>
          have h7' : ((k : Int) % 7 == 3) = false := by simpa using h7
          clear h7 t1 t2
          go_wp2
          refine Met.intro (hJ _ _ ?_)
          (repeat apply Exists.intro)
          exact ⟨HqK.out, rfl⟩
        go_upto_region 11 with (fail)
        refine Rl.wp_region_st V3.heap.size 19 _ [(true, [0, 1, 2, 3, 4, 5, 8, 9, 10, 11, 12, 13]), (false, [6]), (false, [7]), (false, [14]), (false, [15]), (true, [16]), (false, [17]), (true, [18])] _ (by kernel_rfl) (by kernel_rfl) rfl (by simp only [List.map_cons, List.map_nil, Rg.pickOps, List.getElem?_toArray, List.getElem?_cons_zero, List.getElem?_cons_succ, Option.getD_some]; rfl) ?_ (fun a w h => h)
        intro wd hbd hwz
        have u1 := cellL t1 hbd
        have u2 := cellL t2 hbd
        have Hbd := Lib.hid hbd
        have hle := hbd.size
        clear hbd hwz t1 t2 h7
        refine Rl.st_quiet ?_
        iterate 12 go_big_quiet_step (fail)
        refine wpQuiet_nil (Rl.st_one ?_)
        go_wp2_with (refine (l24Leaf _ _).mono ?_; rintro e w1 ⟨rfl, b1⟩)
        refine ⟨b1.mono hle, Rl.st_one ?_⟩
        go_wp2_with (refine (l24Leaf _ _).mono ?_; rintro e w2 ⟨rfl, b2⟩)
        have B2 := below_tr b1 b2
        refine ⟨b2.mono (Nat.le_trans hle b1.size), Rl.st_one ?_⟩
        go_wp2_with (refine (l24Leaf _ _).mono ?_; rintro e w3 ⟨rfl, b3⟩)
        have B3 := below_tr B2 b3
        refine ⟨b3.mono (Nat.le_trans hle B2.size), Rl.st_one ?_⟩
        have BV := below_tr Hbd.out B3
        clear b1 b2 b3 B2 B3 u1 u2 hle
        have hle3 := BV.size
        go_wp2_with fail
        have hal : Below w3.heap.size w3 (w3.alloc (.cells #[.int .i64 1, .string ⟨#[120]⟩, .int .i64 0, .string ⟨#[]⟩, .string ⟨#[]⟩, .string ⟨#[]⟩, .slice none 0 0, .int .i64 1, .string s2, .int .i64 0, .string ⟨#[]⟩, .string ⟨#[]⟩, .string ⟨#[]⟩, .slice none 0 0] 31)) := (by repeat (first | exact Below.refl _ _ | assumption | exact (Below.refl _ _).alloc (Nat.le_refl _) _ | refine below_tr ?_ (by assumption) | refine below_alloc ?_ | refine below_tr ?_ (below_regrown _ _ _)))
        have hrk : Rd (w3.alloc (.cells #[.int .i64 1, .string ⟨#[120]⟩, .int .i64 0, .string ⟨#[]⟩, .string ⟨#[]⟩, .string ⟨#[]⟩, .slice none 0 0, .int .i64 1, .string s2, .int .i64 0, .string ⟨#[]⟩, .string ⟨#[]⟩, .string ⟨#[]⟩, .slice none 0 0] 31)) (some ⟨w3.heap.size, 0, none⟩) [.int .i64 1, .string ⟨#[120]⟩, .int .i64 0, .string ⟨#[]⟩, .string ⟨#[]⟩, .string ⟨#[]⟩, .slice none 0 0, .int .i64 1, .string s2, .int .i64 0, .string ⟨#[]⟩, .string ⟨#[]⟩, .string ⟨#[]⟩, .slice none 0 0] := Rd.of_block (heap_alloc_new w3 (.cells #[.int .i64 1, .string ⟨#[120]⟩, .int .i64 0, .string ⟨#[]⟩, .string ⟨#[]⟩, .string ⟨#[]⟩, .slice none 0 0, .int .i64 1, .string s2, .int .i64 0, .string ⟨#[]⟩, .string ⟨#[]⟩, .string ⟨#[]⟩, .slice none 0 0] 31)) rfl
        have hsz7 : (w3.alloc (.cells #[.int .i64 1, .string ⟨#[120]⟩, .int .i64 0, .string ⟨#[]⟩, .string ⟨#[]⟩, .string ⟨#[]⟩, .slice none 0 0, .int .i64 1, .string s2, .int .i64 0, .string ⟨#[]⟩, .string ⟨#[]⟩, .string ⟨#[]⟩, .slice none 0 0] 31)).heap.size = w3.heap.size + 1 := by simp
        refine ⟨(Below.refl _ _).alloc hle3 _, Rl.st_quiet ?_⟩
        obtain ⟨V7, hV7⟩ : ∃ V, V = w3.alloc (.cells #[.int .i64 1, .string ⟨#[120]⟩, .int .i64 0, .string ⟨#[]⟩, .string ⟨#[]⟩, .string ⟨#[]⟩, .slice none 0 0, .int .i64 1, .string s2, .int .i64 0, .string ⟨#[]⟩, .string ⟨#[]⟩, .string ⟨#[]⟩, .slice none 0 0] 31) := ⟨_, rfl⟩
        rw [← hV7] at hal hrk hsz7
        simp only [← hV7]
        have BV7 := below_tr BV hal
        have HsV7 := Lib.hid hsz7
        have hle7 := BV7.size
        clear hV7 hsz7
        iterate 1 go_big_quiet_step (fail)
        refine wpQuiet_nil (Rl.st_one ?_)
        go_wp2_with fail
        refine ⟨(Below.refl _ _).alloc hle7 _, Rl.st_quiet ?_⟩
        iterate 1 go_big_quiet_step (fail)
        refine wpQuiet_nil (Rl.st_last ?_)
        have hal8 : Below V7.heap.size V7 (V7.alloc (.cells #[.int .i64 1, .string s1, .int .i64 0, .string ⟨#[]⟩, .string ⟨#[]⟩, .string ⟨#[]⟩, .slice none 0 0, .int .i64 6, .string ⟨#[]⟩, .int .i64 0, .string ⟨#[]⟩, .string ⟨#[]⟩, .string ⟨#[]⟩, .slice (some ⟨w3.heap.size, 0, none⟩) 2 2] 31)) := (by repeat (first | exact Below.refl _ _ | assumption | exact (Below.refl _ _).alloc (Nat.le_refl _) _ | refine below_tr ?_ (by assumption) | refine below_alloc ?_ | refine below_tr ?_ (below_regrown _ _ _)))
        have hrf : Rd (V7.alloc (.cells #[.int .i64 1, .string s1, .int .i64 0, .string ⟨#[]⟩, .string ⟨#[]⟩, .string ⟨#[]⟩, .slice none 0 0, .int .i64 6, .string ⟨#[]⟩, .int .i64 0, .string ⟨#[]⟩, .string ⟨#[]⟩, .string ⟨#[]⟩, .slice (some ⟨w3.heap.size, 0, none⟩) 2 2] 31)) (some ⟨V7.heap.size, 0, none⟩) [.int .i64 1, .string s1, .int .i64 0, .string ⟨#[]⟩, .string ⟨#[]⟩, .string ⟨#[]⟩, .slice none 0 0, .int .i64 6, .string ⟨#[]⟩, .int .i64 0, .string ⟨#[]⟩, .string ⟨#[]⟩, .string ⟨#[]⟩, .slice (some ⟨w3.heap.size, 0, none⟩) 2 2] := Rd.of_block (heap_alloc_new V7 (.cells #[.int .i64 1, .string s1, .int .i64 0, .string ⟨#[]⟩, .string ⟨#[]⟩, .string ⟨#[]⟩, .slice none 0 0, .int .i64 6, .string ⟨#[]⟩, .int .i64 0, .string ⟨#[]⟩, .string ⟨#[]⟩, .string ⟨#[]⟩, .slice (some ⟨w3.heap.size, 0, none⟩) 2 2] 31)) rfl
        obtain ⟨V8, hV8⟩ : ∃ V, V = V7.alloc (.cells #[.int .i64 1, .string s1, .int .i64 0, .string ⟨#[]⟩, .string ⟨#[]⟩, .string ⟨#[]⟩, .slice none 0 0, .int .i64 6, .string ⟨#[]⟩, .int .i64 0, .string ⟨#[]⟩, .string ⟨#[]⟩, .string ⟨#[]⟩, .slice (some ⟨w3.heap.size, 0, none⟩) 2 2] 31) := ⟨_, rfl⟩
        rw [← hV8] at hal8 hrf
        simp only [← hV8]
        have BV8 := below_tr BV7 hal8
        have hbx := Hbox.out.later BV8
        have hbq := (Array.getElem?_eq_some_iff.1 Hbox.out.row).1
        have hrk2 := rd_woB (B := wr.heap.size) (hrk.later hal8) (fun a h => by cases h; simp; omega)
        have hrf2 := rd_woB (B := wr.heap.size) hrf (fun a h => by cases h; simp; omega)
        have hK : RdEs 1 (wo (hB wr.heap.size) V8) (some ⟨w3.heap.size, 0, none⟩) [((1, sx, zTm, []) : ExT 1), ((1, s2, zTm, []) : ExT 1)] := ⟨_, hrk2, ⟨[.int .i64 1, .string ⟨#[120]⟩, .int .i64 0, .string ⟨#[]⟩, .string ⟨#[]⟩, .string ⟨#[]⟩, .slice none 0 0], _, rfl, rfl, leafE 0 _ _, ⟨[.int .i64 1, .string s2, .int .i64 0, .string ⟨#[]⟩, .string ⟨#[]⟩, .string ⟨#[]⟩, .slice none 0 0], _, rfl, rfl, leafE 0 _ _, rfl⟩⟩⟩
        have hF : RdEs 2 (wo (hB wr.heap.size) V8) (some ⟨V7.heap.size, 0, none⟩) [((1, s1, zTm, []) : ExT 2), ((6, ⟨#[]⟩, zTm, [((1, sx, zTm, []) : ExT 1), ((1, s2, zTm, []) : ExT 1)]) : ExT 2)] := ⟨_, hrf2, ⟨[.int .i64 1, .string s1, .int .i64 0, .string ⟨#[]⟩, .string ⟨#[]⟩, .string ⟨#[]⟩, .slice none 0 0], _, rfl, rfl, leafE 1 _ _, ⟨[.int .i64 6, .string ⟨#[]⟩, .int .i64 0, .string ⟨#[]⟩, .string ⟨#[]⟩, .string ⟨#[]⟩, .slice (some ⟨w3.heap.size, 0, none⟩) 2 2], _, rfl, rfl, ⟨some ⟨w3.heap.size, 0, none⟩, 2, rfl, Nat.le_refl _, hK⟩, rfl⟩⟩⟩
        have hset := hbx.set_fils (l := [((1, s1, zTm, []) : ExT 2), ((6, ⟨#[]⟩, zTm, [((1, sx, zTm, []) : ExT 1), ((1, s2, zTm, []) : ExT 1)]) : ExT 2)]) (c := 2) (show 2 ≤ 2 by decide) hF
        have c6 := hbx.cell 4 (.slice a3 q.fils.length c3) rfl
        have fz := hbx.fr 4
        have hwz8 : wr.heap.size ≤ V8.heap.size := Nat.le_trans HBq.out.size BV8.size
        have HF := Lib.hid ((HBq.out.trans (BV8.mono HBq.out.size)).setCell (p := ⟨wr.heap.size, 4, none⟩) (Nat.le_refl _) (.slice (some ⟨V7.heap.size, 0, none⟩) 2 2))
        have hzz := szQu_fils (l := [((1, s1, zTm, []) : ExT 2), ((6, ⟨#[]⟩, zTm, [((1, sx, zTm, []) : ExT 1), ((1, s2, zTm, []) : ExT 1)]) : ExT 2)]) Hzq.out (show 2 ≤ 1048576 by decide) (fun x hx => by
          have h0 : (⟨#[]⟩ : ByteArray).size ≤ 1048576 := by decide
          have hx2 : sx.size ≤ 1048576 := by decide
          rcases List.mem_cons.1 hx with rfl | hx
          · exact ⟨z1, szTu_zero, by decide, fun y hy => by cases hy⟩
          rcases List.mem_cons.1 hx with rfl | hx
          · refine ⟨h0, szTu_zero, (show 2 ≤ 1048576 by decide), fun y hy => ?_⟩
            rcases List.mem_cons.1 hy with rfl | hy
            · exact ⟨hx2, szTu_zero, by decide, fun y hy => by cases hy⟩
            rcases List.mem_cons.1 hy with rfl | hy
            · exact ⟨z2, szTu_zero, by decide, fun y hy => by cases hy⟩
            · cases hy
          · cases hx)
        clear hV8 hbx hrk hrf hrk2 hrf2 hK hF hal hal8 BV BV7 BV8 hbq
        go_wp2
        refine Met.intro (hJ _ _ ?_)
        (repeat apply Exists.intro)
        exact ⟨⟨HF.out, _, _, _, _, _, _, _, _, _, hset, hzz⟩, rfl⟩
      have hqK := hcut
      obtain ⟨V4, hV4⟩ : ∃ V : World, V = wc := ⟨_, rfl⟩
      subst hV4
      have HqK := Lib.hid hqK
      clear hcut  t1 t2 z1 z2 nx3 ny3
      obtain ⟨hBq, q, a1, a2, a3, a4, c1, c2, c3, c4, hbox, hzq⟩ := hqK
      have Hbox := Lib.hid hbox
      have Hzq := Lib.hid hzq
      have HBq := Lib.hid hBq
      clear hbox hzq hBq
      go_upto_if 108 with (fail)
      go_cut [] from 106 to 112 (fun wx => QSt wr wr.heap.size wx)
      case first =>
        rename_i hJ hM
        by_cases h7 : (k : Int) % 13 = 5
        case neg =>
          have h7' : ((k : Int) % 13 == 5) = false := by simpa using h7
          clear h7
          go_wp2
          refine Met.intro (hJ _ _ ?_)
          (repeat apply Exists.intro)
          exact ⟨HqK.out, rfl⟩
        have c6 := Hbox.out.cell 6 (.int .i64 q.lim) rfl
        have fz := Hbox.out.fr 6
        have nx4 := Nx4.out
        have hset := Hbox.out.set_lim (-1 - (x4 : Int))
        have HF := Lib.hid (HBq.out.setCell (p := ⟨wr.heap.size, 6, none⟩) (Nat.le_refl _) (.int .i64 (-1 - (x4 : Int))))
        go_wp2
        refine Met.intro (hJ _ _ ?_)
        (repeat apply Exists.intro)
        exact ⟨⟨HF.out, _, _, _, _, _, _, _, _, _, hset, Hzq.out⟩, rfl⟩
      have hqK := hcut
      obtain ⟨V5, hV5⟩ : ∃ V : World, V = wc := ⟨_, rfl⟩
      subst hV5
      have HqK := Lib.hid hqK
      clear hcut  
      obtain ⟨hBq, q, a1, a2, a3, a4, c1, c2, c3, c4, hbox, hzq⟩ := hqK
      have Hbox := Lib.hid hbox
      have Hzq := Lib.hid hzq
      have HBq := Lib.hid hBq
      clear hbox hzq hBq
      go_upto_if 115 with (fail)
      go_cut [] from 113 to 116 (fun wx => QSt wr wr.heap.size wx)
      case first =>
        rename_i hJ hM
        by_cases h7 : (k : Int) % 11 = 4
        case neg =>
          have h7' : ((k : Int) % 11 == 4) = false := by simpa using h7
          clear h7
          go_wp2
          refine Met.intro (hJ _ _ ?_)
          (repeat apply Exists.intro)
          exact ⟨HqK.out, rfl⟩
        have c6 := Hbox.out.cell 0 (.bool q.ask) rfl
        have fz := Hbox.out.fr 0
        skip
        have hset := Hbox.out.set_ask true
        have HF := Lib.hid (HBq.out.setCell (p := ⟨wr.heap.size, 0, none⟩) (Nat.le_refl _) (.bool true))
        go_wp2
        refine Met.intro (hJ _ _ ?_)
        (repeat apply Exists.intro)
        exact ⟨⟨HF.out, _, _, _, _, _, _, _, _, _, hset, Hzq.out⟩, rfl⟩
      have hqK := hcut
      obtain ⟨V6, hV6⟩ : ∃ V : World, V = wc := ⟨_, rfl⟩
      subst hV6
      clear hcut  
      obtain ⟨hBq, q, a1, a2, a3, a4, c1, c2, c3, c4, hbox, hzq⟩ := hqK
      have Hbox := Lib.hid hbox
      have Hzq := Lib.hid hzq
      have HBq := Lib.hid hBq
      clear hbox hzq hBq
      have nx1 := Nx1.out
      have hx1 : x1 = 0 ∨ x1 = 1 ∨ x1 = 2 ∨ x1 = 3 := by omega
      have hNV := HNr.out.later HBq.out
      have HNV := Lib.hid hNV
      clear hNV
      go_upto_region 16 with (fail)
      go_cut [123] from 117 to 122 (fun s wx => s = .bool false ∧ Below wr.heap.size wr wx)
      case first =>
        rename_i hJ hM
        refine Rf.wp_region_pl V6.heap.size _ (Rf.Pl.quiet [0, 1, 2, 3, 4] (Rf.Pl.one 5 (Rf.Pl.quiet [6] (Rf.Pl.done)))) _ (by kernel_rfl) (by kernel_rfl) (by simp only [Rf.Pl.pick, Rf.pickO, List.map_cons, List.map_nil, Rg.pickOps, List.getElem?_toArray, List.getElem?_cons_zero, List.getElem?_cons_succ, Option.getD_some]; rfl) ?_ (fun a w h => h)
        intro wd hbd hwz
        have p0 := cellL (Hbox.out.cell 0 (.bool q.ask) rfl) hbd
        have p1 := cellL (Hbox.out.cell 1 (.bool q.dist) rfl) hbd
        have p2 := cellL (Hbox.out.cell 2 (.slice a1 q.vars.length c1) rfl) hbd
        have p3 := cellL (Hbox.out.cell 3 (.slice a2 q.pats.length c2) rfl) hbd
        have p4 := cellL (Hbox.out.cell 4 (.slice a3 q.fils.length c3) rfl) hbd
        have p5 := cellL (Hbox.out.cell 5 (.slice a4 q.ord.length c4) rfl) hbd
        have p6 := cellL (Hbox.out.cell 6 (.int .i64 q.lim) rfl) hbd
        have p7 := cellL (Hbox.out.cell 7 (.int .i64 q.off) rfl) hbd
        have Hbd := Lib.hid hbd
        have hle := hbd.size
        have hbx := Hbox.out.later hbd
        have hNd := HNV.out.later hbd
        have hBd := HBr.out.trans (((HBq.out).trans (hbd.mono HBq.out.size)).mono HBr.out.size)
        have hCd := HC.out.step (below_tr HB0.out hBd)
        clear hbd hwz
        rcases hx1 with hx | hx | hx | hx
        · subst hx
          obtain ⟨l, hlen, hrl⟩ := hNd.rest 0 (by omega)
          have hT := lawCheckTells 2 q a1 a2 a3 a4 c1 c2 c3 c4 l (some ⟨w.heap.size, 0, none⟩) 4 wd hCd Hzq.out hbx.rdq hrl (by omega)
          rw [hlen] at hT
          clear hbx hNd hBd hCd hrl hlen
          refine Rf.pl_quiet ?_
          iterate 5 go_big_quiet_step (fail)
          refine wpQuiet_nil (Rf.pl_one ?_)
          go_wp2_with (refine hT.mono ?_; rintro e w9 ⟨rfl, b9⟩)
          refine ⟨b9.mono hle, Rf.pl_quiet ?_⟩
          iterate 1 go_big_quiet_step (fail)
          refine wpQuiet_nil (Rf.pl_done ?_)
          refine hM _ _ (Met.intro (hJ _ _ ?_))
          (repeat apply Exists.intro)
          exact ⟨⟨rfl, HBq.out.trans ((below_tr Hbd.out b9).mono HBq.out.size)⟩, rfl⟩
        · subst hx
          obtain ⟨l, hlen, hrl⟩ := hNd.rest 1 (by omega)
          have hT := lawCheckTells 2 q a1 a2 a3 a4 c1 c2 c3 c4 l (some ⟨w.heap.size, 1, none⟩) 3 wd hCd Hzq.out hbx.rdq hrl (by omega)
          rw [hlen] at hT
          clear hbx hNd hBd hCd hrl hlen
          refine Rf.pl_quiet ?_
          iterate 5 go_big_quiet_step (fail)
          refine wpQuiet_nil (Rf.pl_one ?_)
          go_wp2_with (refine hT.mono ?_; rintro e w9 ⟨rfl, b9⟩)
          refine ⟨b9.mono hle, Rf.pl_quiet ?_⟩
          iterate 1 go_big_quiet_step (fail)
          refine wpQuiet_nil (Rf.pl_done ?_)
          refine hM _ _ (Met.intro (hJ _ _ ?_))
          (repeat apply Exists.intro)
          exact ⟨⟨rfl, HBq.out.trans ((below_tr Hbd.out b9).mono HBq.out.size)⟩, rfl⟩
        · subst hx
          obtain ⟨l, hlen, hrl⟩ := hNd.rest 2 (by omega)
          have hT := lawCheckTells 2 q a1 a2 a3 a4 c1 c2 c3 c4 l (some ⟨w.heap.size, 2, none⟩) 2 wd hCd Hzq.out hbx.rdq hrl (by omega)
          rw [hlen] at hT
          clear hbx hNd hBd hCd hrl hlen
          refine Rf.pl_quiet ?_
          iterate 5 go_big_quiet_step (fail)
          refine wpQuiet_nil (Rf.pl_one ?_)
          go_wp2_with (refine hT.mono ?_; rintro e w9 ⟨rfl, b9⟩)
          refine ⟨b9.mono hle, Rf.pl_quiet ?_⟩
          iterate 1 go_big_quiet_step (fail)
          refine wpQuiet_nil (Rf.pl_done ?_)
          refine hM _ _ (Met.intro (hJ _ _ ?_))
          (repeat apply Exists.intro)
          exact ⟨⟨rfl, HBq.out.trans ((below_tr Hbd.out b9).mono HBq.out.size)⟩, rfl⟩
        · subst hx
          obtain ⟨l, hlen, hrl⟩ := hNd.rest 3 (by omega)
          have hT := lawCheckTells 2 q a1 a2 a3 a4 c1 c2 c3 c4 l (some ⟨w.heap.size, 3, none⟩) 1 wd hCd Hzq.out hbx.rdq hrl (by omega)
          rw [hlen] at hT
          clear hbx hNd hBd hCd hrl hlen
          refine Rf.pl_quiet ?_
          iterate 5 go_big_quiet_step (fail)
          refine wpQuiet_nil (Rf.pl_one ?_)
          go_wp2_with (refine hT.mono ?_; rintro e w9 ⟨rfl, b9⟩)
          refine ⟨b9.mono hle, Rf.pl_quiet ?_⟩
          iterate 1 go_big_quiet_step (fail)
          refine wpQuiet_nil (Rf.pl_done ?_)
          refine hM _ _ (Met.intro (hJ _ _ ?_))
          (repeat apply Exists.intro)
          exact ⟨⟨rfl, HBq.out.trans ((below_tr Hbd.out b9).mono HBq.out.size)⟩, rfl⟩
      obtain ⟨rfl, hbb⟩ := hcut
      have HF := Lib.hid (HBr.out.trans (hbb.mono HBr.out.size))
      clear hbb nx1
      go_wp2
      go_roundw
      case rel => exact ⟨k + 1, by omega, by go_num, HF.out⟩
      case measure => simp [intOf]; omega
    · have hBw := HB0.out.trans (hB.mono HB0.out.size)
      have hT := lawCheckTells 0 ⟨false, false, [], [], [], [], 0, 0⟩ none none none none 0 0 0 0 [] none 0 wr (HC.out.step hBw)
        ⟨by decide, by decide, by decide, by decide, (by intro x hx; cases hx), (by intro x hx; cases hx), (by intro x hx; cases hx), (by intro x hx; cases hx)⟩
        ⟨none, none, none, none, 0, 0, 0, 0, rfl, ⟨by decide, by decide, by decide, by decide⟩, Rd.nil _ _, RdL.nil _ _ _ _, RdL.nil _ _ _ _, RdL.nil _ _ _ _⟩ (Rd.nil _ _) (by decide)
      have HBw := Lib.hid hBw
      clear hBw hB
      go_wp2_with fail
      refine hT.mono ?_
      rintro e w1 ⟨rfl, b1⟩
      have hA := law24Awake w1 (HC.out.step (below_tr HBw.out b1))
      clear hT
      go_wp2_with (refine hA.mono ?_; rintro e w2 ⟨rfl, b2⟩)
      go_ret
      exact ⟨rfl, below_tr (below_tr HBw.out b1) b2⟩
end Go.Proofs.YtefjhehgpkljcaaGreatDoor
