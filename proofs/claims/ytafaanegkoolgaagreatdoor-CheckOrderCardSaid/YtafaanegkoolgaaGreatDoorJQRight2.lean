/- The program's package query, walked: every at conditions. The program's package query, walked: Right. The program's package query, walked: Right, the third guard. -/
import Derived.Test.YtafaanegkoolgaaGreatDoorJQEvery
namespace Go.Proofs.YtafaanegkoolgaaGreatDoor
open Go Go.RowKit Go.Shelf Um Fm
attribute [local go_sem] Oper.semAt_some

set_option maxHeartbeats 1000000 in
theorem every1Expr (G : FuncId) (eg : ∀ args W, (callFunc G args).run Tryz.prog W = .ok (.enter G args) W) (n : Nat) (x : ExT n) (cs : List Value) (b : Bool) (k : Nat) (w : World) (hc : w.cell? ⟨k, 0, none⟩ = some (.func (.func G) #[] #[])) (hr : RdE n w cs x)
    (h : ∀ W, Below w.heap.size w W → Calls Tryz.prog G #[.agg cs.toArray] W fun e w' => e = .returned (.bool b) ∧ Below W.heap.size W w') :
    Calls Tryz.prog 128 #[.agg cs.toArray, .pointer (some ⟨k, 0, none⟩)] w fun e w' => e = .returned (.bool (!b)) ∧ Below w.heap.size w w' := by
  obtain ⟨k', s, t, A, m, c, rfl, _⟩ := rd_spell hr
  have hB0 : Below w.heap.size w (w.alloc (.cells #[.int .i64 k', .string s, .int .i64 t.k, .string t.x, .string t.l, .string t.y, .slice A m c] 38)) := (by repeat (first | exact Below.refl _ _ | assumption | exact (Below.refl _ _).alloc (Nat.le_refl _) _ | refine below_tr ?_ (by assumption) | refine below_alloc ?_ | refine below_tr ?_ (below_regrown _ _ _)))
  have hk := cell_lt hc
  have hk2 : k < w.heap.size := hk
  have hq := h _ hB0
  clear h hr
  go_enter Tryz.func128, Tryz.ntmps128
  go_wp2_with (go_at_fn G; refine hq.mono ?_; rintro e w2 ⟨rfl, hb2⟩)
  go_ret
  exact ⟨rfl, below_tr hB0 hb2⟩
set_option maxHeartbeats 1000000 in
theorem everyExpr (G : FuncId) (eg : ∀ args W, (callFunc G args).run Tryz.prog W = .ok (.enter G args) W) (n : Nat) (p : ExT n → Bool) (l : List (ExT n)) (A : Option Addr) (c : Nat) (w : World) (hl : l.length ≤ 1000) (hr : RdEs n w A l)
    (hS : ∀ x ∈ l, FnSays G #[] n p w x) :
    Calls Tryz.prog 58 #[.func (.func G) #[] #[], .slice A l.length c] w fun e w' => e = .returned (.bool (l.all p)) ∧ Below w.heap.size w w' := by
  obtain ⟨W1, hW1⟩ : ∃ W, w.alloc (.cells #[.func (.func G) #[] #[]] 39) = W := ⟨_, rfl⟩
  have hB0 : Below w.heap.size w W1 := by rw [← hW1]; exact (by repeat (first | exact Below.refl _ _ | assumption | exact (Below.refl _ _).alloc (Nat.le_refl _) _ | refine below_tr ?_ (by assumption) | refine below_alloc ?_ | refine below_tr ?_ (below_regrown _ _ _)))
  have hcell : W1.cell? ⟨w.heap.size, 0, none⟩ = some (.func (.func G) #[] #[]) := by rw [← hW1, World.cell?, heap_alloc_new]; rfl
  have hh := hasExpr 128 #[.pointer (some ⟨w.heap.size, 0, none⟩)] (enters_of Tryz.func128 (by kernel_rfl) rfl) n (fun x => !p x) l A c W1 (by omega) (RdEs.later hr hB0) (fun x hx cs W hW hrx => every1Expr G eg n x cs (p x) w.heap.size W (cell_on hcell hW) hrx fun W' hW' => hS x hx cs W' (below_tr (below_tr hB0 hW) hW') (hrx.cm (CM.of_below hW')))
  rw [← any_not]
  subst hW1
  clear hr hS hcell
  go_enter Tryz.func58, Tryz.ntmps58
  go_wp2_with (go_at_call 127; refine hh.mono ?_; rintro e w2 ⟨rfl, hb2⟩)
  go_ret
  exact ⟨rfl, below_tr hB0 hb2⟩
theorem everyExprs (n : Nat) (l : List (ExT n)) (A : Option Addr) (c : Nat) (w : World) (hC : Ctx w) (hl : l.length ≤ 1000) (hr : RdEs n w A l) (hz : ∀ x ∈ l, szX n x) :
    Calls Tryz.prog 58 #[.func (.func 15) #[] #[], .slice A l.length c] w fun e w' => e = .returned (.bool (l.all (exprB n))) ∧ Below w.heap.size w w' :=
  everyExpr 15 (enters_of Tryz.func15 (by kernel_rfl) rfl) n (exprB n) l A c w hl hr fun x hx cs W hW hrx => qExpr n x cs W (hC.step hW) hrx (hz x hx)
theorem everyPats (l : List Pat) (A : Option Addr) (c : Nat) (w : World) (hC : Ctx w) (hl : l.length ≤ 1000) (hr : RdPat w A l) (hz : ∀ x ∈ l, szP x) :
    Calls Tryz.prog 56 #[.func (.func 57) #[] #[], .slice A l.length c] w fun e w' => e = .returned (.bool (l.all patB)) ∧ Below w.heap.size w w' :=
  everyPat 57 (enters_of Tryz.func57 (by kernel_rfl) rfl) patB l A c w hl hr fun x hx W hW => qPattern x W (hC.step hW) (hz x hx)
theorem everyNames (l : List ByteArray) (A : Option Addr) (c : Nat) (w : World) (hl : l.length ≤ 1000) (hr : RdStr w A l) (hz : ∀ x ∈ l, x.size ≤ 281474976710656) :
    Calls Tryz.prog 59 #[.func (.func 54) #[] #[], .slice A l.length c] w fun e w' => e = .returned (.bool (l.all nameB)) ∧ Below w.heap.size w w' :=
  everyStr 54 (enters_of Tryz.func54 (by kernel_rfl) rfl) nameB l A c w hl hr fun x hx W _ => qName x W (hz x hx)
theorem qKey (y : Ky) (w : World) (hz : y.v.size ≤ 281474976710656) : Calls Tryz.prog 53 #[.agg #[.string y.v, .bool y.d]] w fun e w' => e = .returned (.bool (nameB y.v)) ∧ Below w.heap.size w w' := by
  have hB0 : Below w.heap.size w (w.alloc (.cells #[.string y.v, .bool y.d] 66)) := (by repeat (first | exact Below.refl _ _ | assumption | exact (Below.refl _ _).alloc (Nat.le_refl _) _ | refine below_tr ?_ (by assumption) | refine below_alloc ?_ | refine below_tr ?_ (below_regrown _ _ _)))
  have hN := qName y.v (w.alloc (.cells #[.string y.v, .bool y.d] 66)) hz
  clear hz
  generalize nameB y.v = q at *
  go_enter Tryz.func53, Tryz.ntmps53
  go_wp2_with (go_at_call 54; refine hN.mono ?_; rintro e w2 ⟨rfl, hb2⟩)
  go_ret
  exact ⟨rfl, below_tr hB0 hb2⟩
theorem everyKeys (l : List Ky) (A : Option Addr) (c : Nat) (w : World) (hl : l.length ≤ 1000) (hr : RdKey w A l) (hz : ∀ x ∈ l, x.v.size ≤ 281474976710656) :
    Calls Tryz.prog 60 #[.func (.func 53) #[] #[], .slice A l.length c] w fun e w' => e = .returned (.bool (l.all fun y => nameB y.v)) ∧ Below w.heap.size w w' :=
  everyKey 53 (enters_of Tryz.func53 (by kernel_rfl) rfl) (fun y => nameB y.v) l A c w hl hr fun x hx W _ => qKey x W (hz x hx)
def numB (n : Int) : Bool := decide (0 ≤ n ∧ n ≤ 1099511627776)
theorem qNum (n : Int) (w : World) : Calls Tryz.prog 55 #[.int .i64 n] w fun e w' => e = .returned (.bool (numB n)) ∧ w = w' := by
  unfold numB
  by_cases h1 : 0 ≤ n
  · by_cases h2 : n ≤ 1099511627776
    · go_enter Tryz.func55, Tryz.ntmps55
      go_wp2
      go_ret
      exact ⟨by simp; omega, rfl⟩
    · go_enter Tryz.func55, Tryz.ntmps55
      go_wp2
      go_ret
      exact ⟨by simp; omega, rfl⟩
  · go_enter Tryz.func55, Tryz.ntmps55
    go_wp2
    go_ret
    exact ⟨by simp; omega, rfl⟩
end Go.Proofs.YtafaanegkoolgaaGreatDoor
namespace Go.Proofs.YtafaanegkoolgaaGreatDoor
open Go Go.RowKit Go.Shelf Um Fm
attribute [local go_sem] Oper.semAt_some

/-- A query: ask, distinct, names, patterns, filters, keys, limit, offset. -/
structure Qy (n : Nat) where
  ask : Bool
  dist : Bool
  vars : List ByteArray
  pats : List Pat
  fils : List (ExT n)
  ord : List Ky
  lim : Int
  off : Int
def fitQ (np nf nv nk : Nat) : Bool := decide (np ≤ 6 ∧ nf ≤ 6 ∧ nv ≤ 12 ∧ nk ≤ 4)
def numsQ (lim off : Int) : Bool := numB off && (decide (lim = -1) || numB lim)
def askQ (ask dist : Bool) (nv nk : Nat) (lim off : Int) : Bool := !(ask && (dist || decide ((nv : Int) + nk + off > 0) || decide (lim ≠ -1)))
def rightQ {n : Nat} (q : Qy n) : Bool :=
  fitQ q.pats.length q.fils.length q.vars.length q.ord.length && numsQ q.lim q.off && askQ q.ask q.dist q.vars.length q.ord.length q.lim q.off &&
    (q.pats.all patB && q.fils.all (exprB n) && q.vars.all nameB && q.ord.all fun y => nameB y.v)
set_option maxRecDepth 100000 in
set_option maxHeartbeats 4000000 in
theorem qRightFit (ask dist : Bool) (np nf nv nk : Nat) (lim off : Int) (a1 a2 a3 a4 : Option Addr) (c1 c2 c3 c4 : Nat) (w : World) (h : fitQ np nf nv nk = false) (hb : np ≤ 4611686018427387904 ∧ nf ≤ 4611686018427387904 ∧ nv ≤ 4611686018427387904 ∧ nk ≤ 4611686018427387904) :
    Calls Tryz.prog 13 #[.agg #[.bool ask, .bool dist, .slice a1 nv c1, .slice a2 np c2, .slice a3 nf c3, .slice a4 nk c4, .int .i64 lim, .int .i64 off]] w fun e w' => e = .returned (.bool false) ∧ Below w.heap.size w w' := by
  have hB0 : Below w.heap.size w (w.alloc (.cells #[.bool ask, .bool dist, .slice a1 nv c1, .slice a2 np c2, .slice a3 nf c3, .slice a4 nk c4, .int .i64 lim, .int .i64 off] 27)) := (by repeat (first | exact Below.refl _ _ | assumption | exact (Below.refl _ _).alloc (Nat.le_refl _) _ | refine below_tr ?_ (by assumption) | refine below_alloc ?_ | refine below_tr ?_ (below_regrown _ _ _)))
  obtain ⟨hb1, hb2, hb3, hb4⟩ := hb
  by_cases h1 : (np : Int) ≤ 6
  · by_cases h2 : (nf : Int) ≤ 6
    · by_cases h3 : (nv : Int) ≤ 12
      · have h4 : 4 < (nk : Int) := by
          simp [fitQ] at h
          have := h (by omega) (by omega) (by omega)
          omega
        clear h
        go_enter Tryz.func13, Tryz.ntmps13
        go_wp2
        go_ret
        exact ⟨rfl, hB0⟩
      · clear h
        go_enter Tryz.func13, Tryz.ntmps13
        go_wp2
        go_ret
        exact ⟨rfl, hB0⟩
    · clear h
      go_enter Tryz.func13, Tryz.ntmps13
      go_wp2
      go_ret
      exact ⟨rfl, hB0⟩
  · clear h
    go_enter Tryz.func13, Tryz.ntmps13
    go_wp2
    go_ret
    exact ⟨rfl, hB0⟩
set_option maxRecDepth 100000 in
set_option maxHeartbeats 4000000 in
theorem qRightNum (ask dist : Bool) (np nf nv nk : Nat) (lim off : Int) (a1 a2 a3 a4 : Option Addr) (c1 c2 c3 c4 : Nat) (w : World) (h : fitQ np nf nv nk = true) (hn : numsQ lim off = false) :
    Calls Tryz.prog 13 #[.agg #[.bool ask, .bool dist, .slice a1 nv c1, .slice a2 np c2, .slice a3 nf c3, .slice a4 nk c4, .int .i64 lim, .int .i64 off]] w fun e w' => e = .returned (.bool false) ∧ Below w.heap.size w w' := by
  have hB0 : Below w.heap.size w (w.alloc (.cells #[.bool ask, .bool dist, .slice a1 nv c1, .slice a2 np c2, .slice a3 nf c3, .slice a4 nk c4, .int .i64 lim, .int .i64 off] 27)) := (by repeat (first | exact Below.refl _ _ | assumption | exact (Below.refl _ _).alloc (Nat.le_refl _) _ | refine below_tr ?_ (by assumption) | refine below_alloc ?_ | refine below_tr ?_ (below_regrown _ _ _)))
  obtain ⟨h1, h2, h3, h4⟩ : (np : Int) ≤ 6 ∧ (nf : Int) ≤ 6 ∧ (nv : Int) ≤ 12 ∧ (nk : Int) ≤ 4 := by
    simp [fitQ] at h
    omega
  clear h
  have hN := fun W => qNum off W
  have hM := fun W => qNum lim W
  unfold numsQ at hn
  generalize numB off = q1 at *
  generalize numB lim = q2 at *
  cases q1
  · clear hn hM
    go_enter Tryz.func13, Tryz.ntmps13
    go_wp2_with (go_at_call 55; first | (refine (hN _).mono ?_; rintro e w' ⟨rfl, rfl⟩) | (refine (hM _).mono ?_; rintro e w' ⟨rfl, rfl⟩))
    go_ret
    exact ⟨rfl, hB0⟩
  · have hq2 : lim ≠ -1 ∧ q2 = false := by
      cases q2 <;> simp_all
    obtain ⟨hl, rfl⟩ := hq2
    clear hn
    go_enter Tryz.func13, Tryz.ntmps13
    go_wp2_with (go_at_call 55; first | (refine (hN _).mono ?_; rintro e w' ⟨rfl, rfl⟩) | (refine (hM _).mono ?_; rintro e w' ⟨rfl, rfl⟩))
    go_ret
    exact ⟨rfl, hB0⟩
end Go.Proofs.YtafaanegkoolgaaGreatDoor
namespace Go.Proofs.YtafaanegkoolgaaGreatDoor
open Go Go.RowKit Go.Shelf Um Fm
attribute [local go_sem] Oper.semAt_some
set_option maxRecDepth 100000 in
set_option maxHeartbeats 4000000 in
theorem qRightAsk (ask dist : Bool) (np nf nv nk : Nat) (lim off : Int) (a1 a2 a3 a4 : Option Addr) (c1 c2 c3 c4 : Nat) (w : World) (h : fitQ np nf nv nk = true) (hn : numsQ lim off = true) (ha : askQ ask dist nv nk lim off = false) :
    Calls Tryz.prog 13 #[.agg #[.bool ask, .bool dist, .slice a1 nv c1, .slice a2 np c2, .slice a3 nf c3, .slice a4 nk c4, .int .i64 lim, .int .i64 off]] w fun e w' => e = .returned (.bool false) ∧ Below w.heap.size w w' := by
  have hB0 : Below w.heap.size w (w.alloc (.cells #[.bool ask, .bool dist, .slice a1 nv c1, .slice a2 np c2, .slice a3 nf c3, .slice a4 nk c4, .int .i64 lim, .int .i64 off] 27)) := (by repeat (first | exact Below.refl _ _ | assumption | exact (Below.refl _ _).alloc (Nat.le_refl _) _ | refine below_tr ?_ (by assumption) | refine below_alloc ?_ | refine below_tr ?_ (below_regrown _ _ _)))
  obtain ⟨h1, h2, h3, h4⟩ : (np : Int) ≤ 6 ∧ (nf : Int) ≤ 6 ∧ (nv : Int) ≤ 12 ∧ (nk : Int) ≤ 4 := by
    simp [fitQ] at h
    omega
  clear h
  have hN := fun W => qNum off W
  have hM := fun W => qNum lim W
  unfold numsQ at hn
  obtain ⟨h5, h6⟩ : 0 ≤ off ∧ off ≤ 1099511627776 := by
    simp [numB] at hn
    omega
  have hn1 : numB off = true := by simp [numB, h5, h6]
  have hn2 : lim = -1 ∨ (lim ≠ -1 ∧ numB lim = true) := by
    rw [hn1] at hn
    by_cases e : lim = -1
    · exact .inl e
    · exact .inr ⟨e, by simpa [e] using hn⟩
  rw [hn1] at hN
  clear hn hn1
  obtain ⟨rfl, hd⟩ : ask = true ∧ (dist = true ∨ 0 < (nv : Int) + nk + off ∨ lim ≠ -1) := by
    cases ask <;> simp [askQ] at ha
    refine ⟨rfl, ?_⟩
    by_cases e : dist = true
    · exact .inl e
    · by_cases e2 : lim = -1
      · right; left; simp_all
      · exact .inr (.inr e2)
  clear ha
  rcases hn2 with rfl | ⟨hl, hl2⟩
  · clear hM
    cases dist
    · have hs : 0 < (nv : Int) + nk + off := by simpa using hd
      clear hd
      go_enter Tryz.func13, Tryz.ntmps13
      go_wp2_with (go_at_call 55; first | (refine (hN _).mono ?_; rintro e w' ⟨rfl, rfl⟩) | (refine (hM _).mono ?_; rintro e w' ⟨rfl, rfl⟩))
      go_ret
      exact ⟨rfl, hB0⟩
    · clear hd
      go_enter Tryz.func13, Tryz.ntmps13
      go_wp2_with (go_at_call 55; first | (refine (hN _).mono ?_; rintro e w' ⟨rfl, rfl⟩) | (refine (hM _).mono ?_; rintro e w' ⟨rfl, rfl⟩))
      go_ret
      exact ⟨rfl, hB0⟩
  · rw [hl2] at hM
    clear hl2 hd
    cases dist
    · by_cases hs : 0 < (nv : Int) + nk + off
      · go_enter Tryz.func13, Tryz.ntmps13
        go_wp2_with (go_at_call 55; first | (refine (hN _).mono ?_; rintro e w' ⟨rfl, rfl⟩) | (refine (hM _).mono ?_; rintro e w' ⟨rfl, rfl⟩))
        go_ret
        exact ⟨rfl, hB0⟩
      · go_enter Tryz.func13, Tryz.ntmps13
        go_wp2_with (go_at_call 55; first | (refine (hN _).mono ?_; rintro e w' ⟨rfl, rfl⟩) | (refine (hM _).mono ?_; rintro e w' ⟨rfl, rfl⟩))
        · go_ret
          exact ⟨rfl, hB0⟩
        · have hx : (nv : Int) + nk + off ≤ 0 ∧ (lim != -1) = false := by assumption
          exact absurd hx.2 (by simp [hl])
    · go_enter Tryz.func13, Tryz.ntmps13
      go_wp2_with (go_at_call 55; first | (refine (hN _).mono ?_; rintro e w' ⟨rfl, rfl⟩) | (refine (hM _).mono ?_; rintro e w' ⟨rfl, rfl⟩))
      go_ret
      exact ⟨rfl, hB0⟩
end Go.Proofs.YtafaanegkoolgaaGreatDoor
