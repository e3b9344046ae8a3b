/- The program's package query, walked: every at conditions. -/
import Derived.Test.YtafaanegkoolgaaGreatDoorJQEvery
namespace Go.Proofs.YtafaanegkoolgaaGreatDoor
open Go Go.RowKit Go.Shelf Um Fm
attribute [local go_sem] Oper.semAt_some

set_option maxHeartbeats 1000000 in
theorem every1Expr (G : FuncId) (eg : ∀ args W, (callFunc G args).run Tryz.prog W = .ok (.enter G args) W) (n : Nat) (x : ExT n) (cs : List Value) (b : Bool) (k : Nat) (w : World) (hc : w.cell? ⟨k, 0, none⟩ = some (.func (.func G) #[] #[])) (hr : RdE n w cs x)
    (h : ∀ W, Below w.heap.size w W → Calls Tryz.prog G #[.agg cs.toArray] W fun e w' => e = .returned (.bool b) ∧ Below W.heap.size W w') :
    Calls Tryz.prog 128 #[.agg cs.toArray, .pointer (some ⟨k, 0, none⟩)] w fun e w' => e = .returned (.bool (!b)) ∧ Below w.heap.size w w' := by
  obtain ⟨k', s, t, A, m, c, rfl, _⟩ := rd_spell hr
  have hB0 : Below w.heap.size w (w.alloc (.cells #[.int .i64 k', .string s, .int .i64 t.k, .string t.x, .string t.l, .string t.y, .slice A m c] 38)) := (by repeat (first | exact Below.refl _ _ | assumption | exact (Below.refl _ _).alloc (Nat.le_refl _) _ | refine below_tr ?_ (by assumption) | refine below_alloc ?_ | refine below_tr ?_ (below_regrown _ _ _)))
  have hk := cell_lt hc
  have hk2 : k < w.heap.size := hk
  have hq := h _ hB0
  clear h hr
  go_enter Tryz.func128, Tryz.ntmps128
  go_wp2_with (go_at_fn G; refine hq.mono ?_; rintro e w2 ⟨rfl, hb2⟩)
  go_ret
  exact ⟨rfl, below_tr hB0 hb2⟩
set_option maxHeartbeats 1000000 in
theorem everyExpr (G : FuncId) (eg : ∀ args W, (callFunc G args).run Tryz.prog W = .ok (.enter G args) W) (n : Nat) (p : ExT n → Bool) (l : List (ExT n)) (A : Option Addr) (c : Nat) (w : World) (hl : l.length ≤ 1000) (hr : RdEs n w A l)
    (hS : ∀ x ∈ l, FnSays G #[] n p w x) :
    Calls Tryz.prog 58 #[.func (.func G) #[] #[], .slice A l.length c] w fun e w' => e = .returned (.bool (l.all p)) ∧ Below w.heap.size w w' := by
  obtain ⟨W1, hW1⟩ : ∃ W, w.alloc (.cells #[.func (.func G) #[] #[]] 39) = W := ⟨_, rfl⟩
  have hB0 : Below w.heap.size w W1 := by rw [← hW1]; exact (by repeat (first | exact Below.refl _ _ | assumption | exact (Below.refl _ _).alloc (Nat.le_refl _) _ | refine below_tr ?_ (by assumption) | refine below_alloc ?_ | refine below_tr ?_ (below_regrown _ _ _)))
  have hcell : W1.cell? ⟨w.heap.size, 0, none⟩ = some (.func (.func G) #[] #[]) := by rw [← hW1, World.cell?, heap_alloc_new]; rfl
  have hh := hasExpr 128 #[.pointer (some ⟨w.heap.size, 0, none⟩)] (enters_of Tryz.func128 (by kernel_rfl) rfl) n (fun x => !p x) l A c W1 (by omega) (RdEs.later hr hB0) (fun x hx cs W hW hrx => every1Expr G eg n x cs (p x) w.heap.size W (cell_on hcell hW) hrx fun W' hW' => hS x hx cs W' (below_tr (below_tr hB0 hW) hW') (hrx.cm (CM.of_below hW')))
  rw [← any_not]
  subst hW1
  clear hr hS hcell
  go_enter Tryz.func58, Tryz.ntmps58
  go_wp2_with (go_at_call 127; refine hh.mono ?_; rintro e w2 ⟨rfl, hb2⟩)
  go_ret
  exact ⟨rfl, below_tr hB0 hb2⟩
theorem everyExprs (n : Nat) (l : List (ExT n)) (A : Option Addr) (c : Nat) (w : World) (hC : Ctx w) (hl : l.length ≤ 1000) (hr : RdEs n w A l) (hz : ∀ x ∈ l, szX n x) :
    Calls Tryz.prog 58 #[.func (.func 15) #[] #[], .slice A l.length c] w fun e w' => e = .returned (.bool (l.all (exprB n))) ∧ Below w.heap.size w w' :=
  everyExpr 15 (enters_of Tryz.func15 (by kernel_rfl) rfl) n (exprB n) l A c w hl hr fun x hx cs W hW hrx => qExpr n x cs W (hC.step hW) hrx (hz x hx)
theorem everyPats (l : List Pat) (A : Option Addr) (c : Nat) (w : World) (hC : Ctx w) (hl : l.length ≤ 1000) (hr : RdPat w A l) (hz : ∀ x ∈ l, szP x) :
    Calls Tryz.prog 56 #[.func (.func 57) #[] #[], .slice A l.length c] w fun e w' => e = .returned (.bool (l.all patB)) ∧ Below w.heap.size w w' :=
  everyPat 57 (enters_of Tryz.func57 (by kernel_rfl) rfl) patB l A c w hl hr fun x hx W hW => qPattern x W (hC.step hW) (hz x hx)
theorem everyNames (l : List ByteArray) (A : Option Addr) (c : Nat) (w : World) (hl : l.length ≤ 1000) (hr : RdStr w A l) (hz : ∀ x ∈ l, x.size ≤ 281474976710656) :
    Calls Tryz.prog 59 #[.func (.func 54) #[] #[], .slice A l.length c] w fun e w' => e = .returned (.bool (l.all nameB)) ∧ Below w.heap.size w w' :=
  everyStr 54 (enters_of Tryz.func54 (by kernel_rfl) rfl) nameB l A c w hl hr fun x hx W _ => qName x W (hz x hx)
theorem qKey (y : Ky) (w : World) (hz : y.v.size ≤ 281474976710656) : Calls Tryz.prog 53 #[.agg #[.string y.v, .bool y.d]] w fun e w' => e = .returned (.bool (nameB y.v)) ∧ Below w.heap.size w w' := by
  have hB0 : Below w.heap.size w (w.alloc (.cells #[.string y.v, .bool y.d] 66)) := (by repeat (first | exact Below.refl _ _ | assumption | exact (Below.refl _ _).alloc (Nat.le_refl _) _ | refine below_tr ?_ (by assumption) | refine below_alloc ?_ | refine below_tr ?_ (below_regrown _ _ _)))
  have hN := qName y.v (w.alloc (.cells #[.string y.v, .bool y.d] 66)) hz
  clear hz
  generalize nameB y.v = q at *
  go_enter Tryz.func53, Tryz.ntmps53
  go_wp2_with (go_at_call 54; refine hN.mono ?_; rintro e w2 ⟨rfl, hb2⟩)
  go_ret
  exact ⟨rfl, below_tr hB0 hb2⟩
theorem everyKeys (l : List Ky) (A : Option Addr) (c : Nat) (w : World) (hl : l.length ≤ 1000) (hr : RdKey w A l) (hz : ∀ x ∈ l, x.v.size ≤ 281474976710656) :
    Calls Tryz.prog 60 #[.func (.func 53) #[] #[], .slice A l.length c] w fun e w' => e = .returned (.bool (l.all fun y => nameB y.v)) ∧ Below w.heap.size w w' :=
  everyKey 53 (enters_of Tryz.func53 (by kernel_rfl) rfl) (fun y => nameB y.v) l A c w hl hr fun x hx W _ => qKey x W (hz x hx)
def numB (n : Int) : Bool := decide (0 ≤ n ∧ n ≤ 1099511627776)
theorem qNum (n : Int) (w : World) : Calls Tryz.prog 55 #[.int .i64 n] w fun e w' => e = .returned (.bool (numB n)) ∧ w = w' := by
  unfold numB
  by_cases h1 : 0 ≤ n
  · by_cases h2 : n ≤ 1099511627776
    · go_enter Tryz.func55, Tryz.ntmps55
      go_wp2
      go_ret
      exact ⟨by simp; omega, rfl⟩
    · go_enter Tryz.func55, Tryz.ntmps55
      go_wp2
      go_ret
      exact ⟨by simp; omega, rfl⟩
  · go_enter Tryz.func55, Tryz.ntmps55
    go_wp2
    go_ret
    exact ⟨by simp; omega, rfl⟩
end Go.Proofs.YtafaanegkoolgaaGreatDoor
