/- The program's package query, walked: every at conditions. The program's package query, walked: Right. The program's package query, walked: Right, the third guard. The program's package query, walked: Right, behind its guards; whole. The program's package query, walked: Right, whole. Layer 22's law, walked: how great queries are. Queries whose texts, lists are small. -/
import Derived.Test.YtefjhehgpkljcaaGreatDoorJQEvery
namespace Go.Proofs.YtefjhehgpkljcaaGreatDoor
open Go Go.RowKit Go.Shelf Um Fm
attribute [local go_sem] Oper.semAt_some

set_option maxHeartbeats 1000000 in
theorem every1Expr (G : FuncId) (eg : ∀ args W, (callFunc G args).run Tryz.prog W = .ok (.enter G args) W) (n : Nat) (x : ExT n) (cs : List Value) (b : Bool) (k : Nat) (w : World) (hc : w.cell? ⟨k, 0, none⟩ = some (.func (.func G) #[] #[])) (hr : RdE n w cs x)
    (h : ∀ W, Below w.heap.size w W → Calls Tryz.prog G #[.agg cs.toArray] W fun e w' => e = .returned (.bool b) ∧ Below W.heap.size W w') :
    Calls Tryz.prog 163 #[.agg cs.toArray, .pointer (some ⟨k, 0, none⟩)] w fun e w' => e = .returned (.bool (!b)) ∧ Below w.heap.size w w' := by
  obtain ⟨k', s, t, A, m, c, rfl, _⟩ := rd_spell hr
  have hB0 : Below w.heap.size w (w.alloc (.cells #[.int .i64 k', .string s, .int .i64 t.k, .string t.x, .string t.l, .string t.y, .slice A m c] 31)) := (by repeat (first | exact Below.refl _ _ | assumption | exact (Below.refl _ _).alloc (Nat.le_refl _) _ | refine below_tr ?_ (by assumption) | refine below_alloc ?_ | refine below_tr ?_ (below_regrown _ _ _)))
  have hk := cell_lt hc
  have hk2 : k < w.heap.size := hk
  have hq := h _ hB0
  clear h hr
  go_enter Tryz.func163, Tryz.ntmps163
  go_wp2_with (go_at_fn G; refine hq.mono ?_; rintro e w2 ⟨rfl, hb2⟩)
  go_ret
  exact ⟨rfl, below_tr hB0 hb2⟩
set_option maxHeartbeats 1000000 in
theorem everyExpr (G : FuncId) (eg : ∀ args W, (callFunc G args).run Tryz.prog W = .ok (.enter G args) W) (n : Nat) (p : ExT n → Bool) (l : List (ExT n)) (A : Option Addr) (c : Nat) (w : World) (hl : l.length ≤ 1000) (hr : RdEs n w A l)
    (hS : ∀ x ∈ l, FnSays G #[] n p w x) :
    Calls Tryz.prog 117 #[.func (.func G) #[] #[], .slice A l.length c] w fun e w' => e = .returned (.bool (l.all p)) ∧ Below w.heap.size w w' := by
  obtain ⟨W1, hW1⟩ : ∃ W, w.alloc (.cells #[.func (.func G) #[] #[]] 127) = W := ⟨_, rfl⟩
  have hB0 : Below w.heap.size w W1 := by rw [← hW1]; exact (by repeat (first | exact Below.refl _ _ | assumption | exact (Below.refl _ _).alloc (Nat.le_refl _) _ | refine below_tr ?_ (by assumption) | refine below_alloc ?_ | refine below_tr ?_ (below_regrown _ _ _)))
  have hcell : W1.cell? ⟨w.heap.size, 0, none⟩ = some (.func (.func G) #[] #[]) := by rw [← hW1, World.cell?, heap_alloc_new]; rfl
  have hh := hasExpr 163 #[.pointer (some ⟨w.heap.size, 0, none⟩)] (enters_of Tryz.func163 (by kernel_rfl) rfl) n (fun x => !p x) l A c W1 (by omega) (RdEs.later hr hB0) (fun x hx cs W hW hrx => every1Expr G eg n x cs (p x) w.heap.size W (cell_on hcell hW) hrx fun W' hW' => hS x hx cs W' (below_tr (below_tr hB0 hW) hW') (hrx.cm (CM.of_below hW')))
  rw [← any_not]
  subst hW1
  clear hr hS hcell
  go_enter Tryz.func117, Tryz.ntmps117
  go_wp2_with (go_at_call 101; refine hh.mono ?_; rintro e w2 ⟨rfl, hb2⟩)
  go_ret
  exact ⟨rfl, below_tr hB0 hb2⟩
theorem everyExprs (n : Nat) (l : List (ExT n)) (A : Option Addr) (c : Nat) (w : World) (hC : Ctx w) (hl : l.length ≤ 1000) (hr : RdEs n w A l) (hz : ∀ x ∈ l, szX n x) :
    Calls Tryz.prog 117 #[.func (.func 118) #[] #[], .slice A l.length c] w fun e w' => e = .returned (.bool (l.all (exprB n))) ∧ Below w.heap.size w w' :=
  everyExpr 118 (enters_of Tryz.func118 (by kernel_rfl) rfl) n (exprB n) l A c w hl hr fun x hx cs W hW hrx => qExpr n x cs W (hC.step hW) hrx (hz x hx)
theorem everyPats (l : List Pat) (A : Option Addr) (c : Nat) (w : World) (hC : Ctx w) (hl : l.length ≤ 1000) (hr : RdPat w A l) (hz : ∀ x ∈ l, szP x) :
    Calls Tryz.prog 115 #[.func (.func 116) #[] #[], .slice A l.length c] w fun e w' => e = .returned (.bool (l.all patB)) ∧ Below w.heap.size w w' :=
  everyPat 116 (enters_of Tryz.func116 (by kernel_rfl) rfl) patB l A c w hl hr fun x hx W hW => qPattern x W (hC.step hW) (hz x hx)
theorem everyNames (l : List ByteArray) (A : Option Addr) (c : Nat) (w : World) (hl : l.length ≤ 1000) (hr : RdStr w A l) (hz : ∀ x ∈ l, x.size ≤ 281474976710656) :
    Calls Tryz.prog 119 #[.func (.func 113) #[] #[], .slice A l.length c] w fun e w' => e = .returned (.bool (l.all nameB)) ∧ Below w.heap.size w w' :=
  everyStr 113 (enters_of Tryz.func113 (by kernel_rfl) rfl) nameB l A c w hl hr fun x hx W _ => qName x W (hz x hx)
theorem qKey (y : Ky) (w : World) (hz : y.v.size ≤ 281474976710656) : Calls Tryz.prog 112 #[.agg #[.string y.v, .bool y.d]] w fun e w' => e = .returned (.bool (nameB y.v)) ∧ Below w.heap.size w w' := by
  have hB0 : Below w.heap.size w (w.alloc (.cells #[.string y.v, .bool y.d] 60)) := (by repeat (first | exact Below.refl _ _ | assumption | exact (Below.refl _ _).alloc (Nat.le_refl _) _ | refine below_tr ?_ (by assumption) | refine below_alloc ?_ | refine below_tr ?_ (below_regrown _ _ _)))
  have hN := qName y.v (w.alloc (.cells #[.string y.v, .bool y.d] 60)) hz
  clear hz
  generalize nameB y.v = q at *
  go_enter Tryz.func112, Tryz.ntmps112
  go_wp2_with (go_at_call 113; refine hN.mono ?_; rintro e w2 ⟨rfl, hb2⟩)
  go_ret
  exact ⟨rfl, below_tr hB0 hb2⟩
theorem everyKeys (l : List Ky) (A : Option Addr) (c : Nat) (w : World) (hl : l.length ≤ 1000) (hr : RdKey w A l) (hz : ∀ x ∈ l, x.v.size ≤ 281474976710656) :
    Calls Tryz.prog 120 #[.func (.func 112) #[] #[], .slice A l.length c] w fun e w' => e = .returned (.bool (l.all fun y => nameB y.v)) ∧ Below w.heap.size w w' :=
  everyKey 112 (enters_of Tryz.func112 (by kernel_rfl) rfl) (fun y => nameB y.v) l A c w hl hr fun x hx W _ => qKey x W (hz x hx)
def numB (n : Int) : Bool := decide (0 ≤ n ∧ n ≤ 1099511627776)
theorem qNum (n : Int) (w : World) : Calls Tryz.prog 114 #[.int .i64 n] w fun e w' => e = .returned (.bool (numB n)) ∧ w = w' := by
  unfold numB
  by_cases h1 : 0 ≤ n
  · by_cases h2 : n ≤ 1099511627776
    · go_enter Tryz.func114, Tryz.ntmps114
      go_wp2
      go_ret
      exact ⟨by simp; omega, rfl⟩
    · go_enter Tryz.func114, Tryz.ntmps114
      go_wp2
      go_ret
      exact ⟨by simp; omega, rfl⟩
  · go_enter Tryz.func114, Tryz.ntmps114
    go_wp2
    go_ret
    exact ⟨by simp; omega, rfl⟩
end Go.Proofs.YtefjhehgpkljcaaGreatDoor
namespace Go.Proofs.YtefjhehgpkljcaaGreatDoor
open Go Go.RowKit Go.Shelf Um Fm
attribute [local go_sem] Oper.semAt_some

/-- A query: ask, distinct, names, patterns, filters, keys, limit, offset. -/
structure Qy (n : Nat) where
  ask : Bool
  dist : Bool
  vars : List ByteArray
  pats : List Pat
  fils : List (ExT n)
  ord : List Ky
  lim : Int
  off : Int
def fitQ (np nf nv nk : Nat) : Bool := decide (np ≤ 6 ∧ nf ≤ 6 ∧ nv ≤ 12 ∧ nk ≤ 4)
def numsQ (lim off : Int) : Bool := numB off && (decide (lim = -1) || numB lim)
def askQ (ask dist : Bool) (nv nk : Nat) (lim off : Int) : Bool := !(ask && (dist || decide ((nv : Int) + nk + off > 0) || decide (lim ≠ -1)))
def rightQ {n : Nat} (q : Qy n) : Bool :=
  fitQ q.pats.length q.fils.length q.vars.length q.ord.length && numsQ q.lim q.off && askQ q.ask q.dist q.vars.length q.ord.length q.lim q.off &&
    (q.pats.all patB && q.fils.all (exprB n) && q.vars.all nameB && q.ord.all fun y => nameB y.v)
set_option maxRecDepth 100000 in
set_option maxHeartbeats 4000000 in
theorem qRightFit (ask dist : Bool) (np nf nv nk : Nat) (lim off : Int) (a1 a2 a3 a4 : Option Addr) (c1 c2 c3 c4 : Nat) (w : World) (h : fitQ np nf nv nk = false) (hb : np ≤ 4611686018427387904 ∧ nf ≤ 4611686018427387904 ∧ nv ≤ 4611686018427387904 ∧ nk ≤ 4611686018427387904) :
    Calls Tryz.prog 67 #[.agg #[.bool ask, .bool dist, .slice a1 nv c1, .slice a2 np c2, .slice a3 nf c3, .slice a4 nk c4, .int .i64 lim, .int .i64 off]] w fun e w' => e = .returned (.bool false) ∧ Below w.heap.size w w' := by
  have hB0 : Below w.heap.size w (w.alloc (.cells #[.bool ask, .bool dist, .slice a1 nv c1, .slice a2 np c2, .slice a3 nf c3, .slice a4 nk c4, .int .i64 lim, .int .i64 off] 40)) := (by repeat (first | exact Below.refl _ _ | assumption | exact (Below.refl _ _).alloc (Nat.le_refl _) _ | refine below_tr ?_ (by assumption) | refine below_alloc ?_ | refine below_tr ?_ (below_regrown _ _ _)))
  obtain ⟨hb1, hb2, hb3, hb4⟩ := hb
  by_cases h1 : (np : Int) ≤ 6
  · by_cases h2 : (nf : Int) ≤ 6
    · by_cases h3 : (nv : Int) ≤ 12
      · have h4 : 4 < (nk : Int) := by
          simp [fitQ] at h
          have := h (by omega) (by omega) (by omega)
          omega
        clear h
        go_enter Tryz.func67, Tryz.ntmps67
        go_wp2
        go_ret
        exact ⟨rfl, hB0⟩
      · clear h
        go_enter Tryz.func67, Tryz.ntmps67
        go_wp2
        go_ret
        exact ⟨rfl, hB0⟩
    · clear h
      go_enter Tryz.func67, Tryz.ntmps67
      go_wp2
      go_ret
      exact ⟨rfl, hB0⟩
  · clear h
    go_enter Tryz.func67, Tryz.ntmps67
    go_wp2
    go_ret
    exact ⟨rfl, hB0⟩
set_option maxRecDepth 100000 in
set_option maxHeartbeats 4000000 in
theorem qRightNum (ask dist : Bool) (np nf nv nk : Nat) (lim off : Int) (a1 a2 a3 a4 : Option Addr) (c1 c2 c3 c4 : Nat) (w : World) (h : fitQ np nf nv nk = true) (hn : numsQ lim off = false) :
    Calls Tryz.prog 67 #[.agg #[.bool ask, .bool dist, .slice a1 nv c1, .slice a2 np c2, .slice a3 nf c3, .slice a4 nk c4, .int .i64 lim, .int .i64 off]] w fun e w' => e = .returned (.bool false) ∧ Below w.heap.size w w' := by
  have hB0 : Below w.heap.size w (w.alloc (.cells #[.bool ask, .bool dist, .slice a1 nv c1, .slice a2 np c2, .slice a3 nf c3, .slice a4 nk c4, .int .i64 lim, .int .i64 off] 40)) := (by repeat (first | exact Below.refl _ _ | assumption | exact (Below.refl _ _).alloc (Nat.le_refl _) _ | refine below_tr ?_ (by assumption) | refine below_alloc ?_ | refine below_tr ?_ (below_regrown _ _ _)))
  obtain ⟨h1, h2, h3, h4⟩ : (np : Int) ≤ 6 ∧ (nf : Int) ≤ 6 ∧ (nv : Int) ≤ 12 ∧ (nk : Int) ≤ 4 := by
    simp [fitQ] at h
    omega
  clear h
  have hN := fun W => qNum off W
  have hM := fun W => qNum lim W
  unfold numsQ at hn
  generalize numB off = q1 at *
  generalize numB lim = q2 at *
  cases q1
  · clear hn hM
    go_enter Tryz.func67, Tryz.ntmps67
    go_wp2_with (go_at_call 114; first | (refine (hN _).mono ?_; rintro e w' ⟨rfl, rfl⟩) | (refine (hM _).mono ?_; rintro e w' ⟨rfl, rfl⟩))
    go_ret
    exact ⟨rfl, hB0⟩
  · have hq2 : lim ≠ -1 ∧ q2 = false := by
      cases q2 <;> simp_all
    obtain ⟨hl, rfl⟩ := hq2
    clear hn
    go_enter Tryz.func67, Tryz.ntmps67
    go_wp2_with (go_at_call 114; first | (refine (hN _).mono ?_; rintro e w' ⟨rfl, rfl⟩) | (refine (hM _).mono ?_; rintro e w' ⟨rfl, rfl⟩))
    go_ret
    exact ⟨rfl, hB0⟩
end Go.Proofs.YtefjhehgpkljcaaGreatDoor
namespace Go.Proofs.YtefjhehgpkljcaaGreatDoor
open Go Go.RowKit Go.Shelf Um Fm
attribute [local go_sem] Oper.semAt_some
set_option maxRecDepth 100000 in
set_option maxHeartbeats 4000000 in
theorem qRightAsk (ask dist : Bool) (np nf nv nk : Nat) (lim off : Int) (a1 a2 a3 a4 : Option Addr) (c1 c2 c3 c4 : Nat) (w : World) (h : fitQ np nf nv nk = true) (hn : numsQ lim off = true) (ha : askQ ask dist nv nk lim off = false) :
    Calls Tryz.prog 67 #[.agg #[.bool ask, .bool dist, .slice a1 nv c1, .slice a2 np c2, .slice a3 nf c3, .slice a4 nk c4, .int .i64 lim, .int .i64 off]] w fun e w' => e = .returned (.bool false) ∧ Below w.heap.size w w' := by
  have hB0 : Below w.heap.size w (w.alloc (.cells #[.bool ask, .bool dist, .slice a1 nv c1, .slice a2 np c2, .slice a3 nf c3, .slice a4 nk c4, .int .i64 lim, .int .i64 off] 40)) := (by repeat (first | exact Below.refl _ _ | assumption | exact (Below.refl _ _).alloc (Nat.le_refl _) _ | refine below_tr ?_ (by assumption) | refine below_alloc ?_ | refine below_tr ?_ (below_regrown _ _ _)))
  obtain ⟨h1, h2, h3, h4⟩ : (np : Int) ≤ 6 ∧ (nf : Int) ≤ 6 ∧ (nv : Int) ≤ 12 ∧ (nk : Int) ≤ 4 := by
    simp [fitQ] at h
    omega
  clear h
  have hN := fun W => qNum off W
  have hM := fun W => qNum lim W
  unfold numsQ at hn
  obtain ⟨h5, h6⟩ : 0 ≤ off ∧ off ≤ 1099511627776 := by
    simp [numB] at hn
    omega
  have hn1 : numB off = true := by simp [numB, h5, h6]
  have hn2 : lim = -1 ∨ (lim ≠ -1 ∧ numB lim = true) := by
    rw [hn1] at hn
    by_cases e : lim = -1
    · exact .inl e
    · exact .inr ⟨e, by simpa [e] using hn⟩
  rw [hn1] at hN
  clear hn hn1
  obtain ⟨rfl, hd⟩ : ask = true ∧ (dist = true ∨ 0 < (nv : Int) + nk + off ∨ lim ≠ -1) := by
    cases ask <;> simp [askQ] at ha
    refine ⟨rfl, ?_⟩
    by_cases e : dist = true
    · exact .inl e
    · by_cases e2 : lim = -1
      · right; left; simp_all
      · exact .inr (.inr e2)
  clear ha
  rcases hn2 with rfl | ⟨hl, hl2⟩
  · clear hM
    cases dist
    · have hs : 0 < (nv : Int) + nk + off := by simpa using hd
      clear hd
      go_enter Tryz.func67, Tryz.ntmps67
      go_wp2_with (go_at_call 114; first | (refine (hN _).mono ?_; rintro e w' ⟨rfl, rfl⟩) | (refine (hM _).mono ?_; rintro e w' ⟨rfl, rfl⟩))
      go_ret
      exact ⟨rfl, hB0⟩
    · clear hd
      go_enter Tryz.func67, Tryz.ntmps67
      go_wp2_with (go_at_call 114; first | (refine (hN _).mono ?_; rintro e w' ⟨rfl, rfl⟩) | (refine (hM _).mono ?_; rintro e w' ⟨rfl, rfl⟩))
      go_ret
      exact ⟨rfl, hB0⟩
  · rw [hl2] at hM
    clear hl2 hd
    cases dist
    · by_cases hs : 0 < (nv : Int) + nk + off
      · go_enter Tryz.func67, Tryz.ntmps67
        go_wp2_with (go_at_call 114; first | (refine (hN _).mono ?_; rintro e w' ⟨rfl, rfl⟩) | (refine (hM _).mono ?_; rintro e w' ⟨rfl, rfl⟩))
        go_ret
        exact ⟨rfl, hB0⟩
      · go_enter Tryz.func67, Tryz.ntmps67
        go_wp2_with (go_at_call 114; first | (refine (hN _).mono ?_; rintro e w' ⟨rfl, rfl⟩) | (refine (hM _).mono ?_; rintro e w' ⟨rfl, rfl⟩))
        · go_ret
          exact ⟨rfl, hB0⟩
        · have hx : (nv : Int) + nk + off ≤ 0 ∧ (lim != -1) = false := by assumption
          exact absurd hx.2 (by simp [hl])
    · go_enter Tryz.func67, Tryz.ntmps67
      go_wp2_with (go_at_call 114; first | (refine (hN _).mono ?_; rintro e w' ⟨rfl, rfl⟩) | (refine (hM _).mono ?_; rintro e w' ⟨rfl, rfl⟩))
      go_ret
      exact ⟨rfl, hB0⟩
end Go.Proofs.YtefjhehgpkljcaaGreatDoor
namespace Go.Proofs.YtefjhehgpkljcaaGreatDoor
open Go Go.RowKit Go.Shelf Um Fm
attribute [local go_sem] Oper.semAt_some
/-- Four tests in turn. -/
def and4 (a b c d : Bool) : Bool := a && b && c && d
set_option maxRecDepth 100000 in
set_option maxHeartbeats 4000000 in
theorem qRightAll (ask dist : Bool) (np nf nv nk : Nat) (lim off : Int) (a1 a2 a3 a4 : Option Addr) (c1 c2 c3 c4 : Nat) (q1 q2 q3 q4 : Bool) (w : World) (h : fitQ np nf nv nk = true) (hn : numsQ lim off = true) (ha : askQ ask dist nv nk lim off = true)
    (hP : ∀ W, Below w.heap.size w W → Calls Tryz.prog 115 #[.func (.func 116) #[] #[], .slice a2 np c2] W fun e w' => e = .returned (.bool q1) ∧ Below W.heap.size W w')
    (hE : ∀ W, Below w.heap.size w W → Calls Tryz.prog 117 #[.func (.func 118) #[] #[], .slice a3 nf c3] W fun e w' => e = .returned (.bool q2) ∧ Below W.heap.size W w')
    (hV : ∀ W, Below w.heap.size w W → Calls Tryz.prog 119 #[.func (.func 113) #[] #[], .slice a1 nv c1] W fun e w' => e = .returned (.bool q3) ∧ Below W.heap.size W w')
    (hK : ∀ W, Below w.heap.size w W → Calls Tryz.prog 120 #[.func (.func 112) #[] #[], .slice a4 nk c4] W fun e w' => e = .returned (.bool q4) ∧ Below W.heap.size W w') :
    Calls Tryz.prog 67 #[.agg #[.bool ask, .bool dist, .slice a1 nv c1, .slice a2 np c2, .slice a3 nf c3, .slice a4 nk c4, .int .i64 lim, .int .i64 off]] w fun e w' => e = .returned (.bool (and4 q1 q2 q3 q4)) ∧ Below w.heap.size w w' := by
  have hB0 : Below w.heap.size w (w.alloc (.cells #[.bool ask, .bool dist, .slice a1 nv c1, .slice a2 np c2, .slice a3 nf c3, .slice a4 nk c4, .int .i64 lim, .int .i64 off] 40)) := (by repeat (first | exact Below.refl _ _ | assumption | exact (Below.refl _ _).alloc (Nat.le_refl _) _ | refine below_tr ?_ (by assumption) | refine below_alloc ?_ | refine below_tr ?_ (below_regrown _ _ _)))
  obtain ⟨h1, h2, h3, h4⟩ : (np : Int) ≤ 6 ∧ (nf : Int) ≤ 6 ∧ (nv : Int) ≤ 12 ∧ (nk : Int) ≤ 4 := by
    simp [fitQ] at h
    omega
  clear h
  have hN := fun W => qNum off W
  have hM := fun W => qNum lim W
  unfold numsQ at hn
  obtain ⟨h5, h6⟩ : 0 ≤ off ∧ off ≤ 1099511627776 := by
    simp [numB] at hn
    omega
  have hn1 : numB off = true := by simp [numB, h5, h6]
  have hn2 : lim = -1 ∨ (lim ≠ -1 ∧ numB lim = true) := by
    rw [hn1] at hn
    by_cases e : lim = -1
    · exact .inl e
    · exact .inr ⟨e, by simpa [e] using hn⟩
  rw [hn1] at hN
  clear hn hn1
  have hd : ask = false ∨ (ask = true ∧ dist = false ∧ (nv : Int) + nk + off ≤ 0 ∧ lim = -1) := by
    cases ask
    · exact .inl rfl
    · right
      simp [askQ] at ha
      exact ⟨rfl, ha.1.1, by omega, ha.2⟩
  clear ha
  obtain ⟨res, hres⟩ : ∃ r, and4 q1 q2 q3 q4 = r := ⟨_, rfl⟩
  rw [hres]
  have Hres := Lib.hid hres
  clear hres
  have hP0 := hP _ hB0
  clear hP
  have hway : (ask = false ∧ lim = -1) ∨ (ask = false ∧ lim ≠ -1 ∧ numB lim = true) ∨ (ask = true ∧ dist = false ∧ (nv : Int) + nk + off ≤ 0 ∧ lim = -1) := by
    rcases hd with rfl | ⟨rfl, rfl, hs, rfl⟩
    · rcases hn2 with rfl | ⟨hl, hl2⟩
      · exact .inl ⟨rfl, rfl⟩
      · exact .inr (.inl ⟨rfl, hl, hl2⟩)
    · exact .inr (.inr ⟨rfl, rfl, hs, rfl⟩)
  clear hd hn2
  rcases hway with ⟨rfl, rfl⟩ | ⟨rfl, hl, hl2⟩ | ⟨rfl, rfl, hs, rfl⟩
  · clear hM
    go_enter Tryz.func67, Tryz.ntmps67
    go_wp2_with (go_at_call 114; first | (refine (hN _).mono ?_; rintro e w' ⟨rfl, rfl⟩))
    go_wp2_with fail
    refine hP0.mono ?_
    rintro e w2 ⟨rfl, hb2⟩
    have hb02 := below_tr hB0 hb2
    obtain ⟨hc, hf⟩ := bcell hb2
    have hE0 := hE _ hb02
    clear hP0 hE
    cases q1
    · go_wp2
      go_ret
      exact ⟨by rw [← Hres.out]; rfl, hb02⟩
    go_wp2_with fail
    refine hE0.mono ?_
    rintro e w3 ⟨rfl, hb3⟩
    have hb03 := below_tr hb02 hb3
    have hb23 := below_tr hb2 hb3
    clear hc hf
    obtain ⟨hc, hf⟩ := bcell hb23
    have hV0 := hV _ hb03
    clear hE0 hV hb2 hb3 hb02
    cases q2
    · go_wp2
      go_ret
      exact ⟨by rw [← Hres.out]; rfl, hb03⟩
    go_wp2_with fail
    refine hV0.mono ?_
    rintro e w4 ⟨rfl, hb4⟩
    have hb04 := below_tr hb03 hb4
    have hb24 := below_tr hb23 hb4
    clear hc hf
    obtain ⟨hc, hf⟩ := bcell hb24
    have hK0 := hK _ hb04
    clear hV0 hK hb4 hb03 hb23
    cases q3
    · go_wp2
      go_ret
      exact ⟨by rw [← Hres.out]; rfl, hb04⟩
    go_wp2_with fail
    refine hK0.mono ?_
    rintro e w5 ⟨rfl, hb5⟩
    have hb05 := below_tr hb04 hb5
    clear hK0 hc hf hb24 hb04
    go_wp2
    go_ret
    exact ⟨by rw [← Hres.out]; cases q4 <;> rfl, hb05⟩
  · rw [hl2] at hM
    clear hl2
    go_enter Tryz.func67, Tryz.ntmps67
    go_wp2_with (go_at_call 114; first | (refine (hN _).mono ?_; rintro e w' ⟨rfl, rfl⟩) | (refine (hM _).mono ?_; rintro e w' ⟨rfl, rfl⟩))
    go_wp2_with fail
    refine hP0.mono ?_
    rintro e w2 ⟨rfl, hb2⟩
    have hb02 := below_tr hB0 hb2
    obtain ⟨hc, hf⟩ := bcell hb2
    have hE0 := hE _ hb02
    clear hP0 hE
    cases q1
    · go_wp2
      go_ret
      exact ⟨by rw [← Hres.out]; rfl, hb02⟩
    go_wp2_with fail
    refine hE0.mono ?_
    rintro e w3 ⟨rfl, hb3⟩
    have hb03 := below_tr hb02 hb3
    have hb23 := below_tr hb2 hb3
    clear hc hf
    obtain ⟨hc, hf⟩ := bcell hb23
    have hV0 := hV _ hb03
    clear hE0 hV hb2 hb3 hb02
    cases q2
    · go_wp2
      go_ret
      exact ⟨by rw [← Hres.out]; rfl, hb03⟩
    go_wp2_with fail
    refine hV0.mono ?_
    rintro e w4 ⟨rfl, hb4⟩
    have hb04 := below_tr hb03 hb4
    have hb24 := below_tr hb23 hb4
    clear hc hf
    obtain ⟨hc, hf⟩ := bcell hb24
    have hK0 := hK _ hb04
    clear hV0 hK hb4 hb03 hb23
    cases q3
    · go_wp2
      go_ret
      exact ⟨by rw [← Hres.out]; rfl, hb04⟩
    go_wp2_with fail
    refine hK0.mono ?_
    rintro e w5 ⟨rfl, hb5⟩
    have hb05 := below_tr hb04 hb5
    clear hK0 hc hf hb24 hb04
    go_wp2
    go_ret
    exact ⟨by rw [← Hres.out]; cases q4 <;> rfl, hb05⟩
  · clear hM
    go_enter Tryz.func67, Tryz.ntmps67
    go_wp2_with (go_at_call 114; first | (refine (hN _).mono ?_; rintro e w' ⟨rfl, rfl⟩))
    go_wp2_with fail
    refine hP0.mono ?_
    rintro e w2 ⟨rfl, hb2⟩
    have hb02 := below_tr hB0 hb2
    obtain ⟨hc, hf⟩ := bcell hb2
    have hE0 := hE _ hb02
    clear hP0 hE
    cases q1
    · go_wp2
      go_ret
      exact ⟨by rw [← Hres.out]; rfl, hb02⟩
    go_wp2_with fail
    refine hE0.mono ?_
    rintro e w3 ⟨rfl, hb3⟩
    have hb03 := below_tr hb02 hb3
    have hb23 := below_tr hb2 hb3
    clear hc hf
    obtain ⟨hc, hf⟩ := bcell hb23
    have hV0 := hV _ hb03
    clear hE0 hV hb2 hb3 hb02
    cases q2
    · go_wp2
      go_ret
      exact ⟨by rw [← Hres.out]; rfl, hb03⟩
    go_wp2_with fail
    refine hV0.mono ?_
    rintro e w4 ⟨rfl, hb4⟩
    have hb04 := below_tr hb03 hb4
    have hb24 := below_tr hb23 hb4
    clear hc hf
    obtain ⟨hc, hf⟩ := bcell hb24
    have hK0 := hK _ hb04
    clear hV0 hK hb4 hb03 hb23
    cases q3
    · go_wp2
      go_ret
      exact ⟨by rw [← Hres.out]; rfl, hb04⟩
    go_wp2_with fail
    refine hK0.mono ?_
    rintro e w5 ⟨rfl, hb5⟩
    have hb05 := below_tr hb04 hb5
    clear hK0 hc hf hb24 hb04
    go_wp2
    go_ret
    exact ⟨by rw [← Hres.out]; cases q4 <;> rfl, hb05⟩
end Go.Proofs.YtefjhehgpkljcaaGreatDoor
namespace Go.Proofs.YtefjhehgpkljcaaGreatDoor
open Go Go.RowKit Go.Shelf Um Fm
/-- A query, as it lies. -/
def RdQ (n : Nat) (w : World) (cs : List Value) (q : Qy n) : Prop := ∃ (a1 a2 a3 a4 : Option Addr) (c1 c2 c3 c4 : Nat),
  cs = [.bool q.ask, .bool q.dist, .slice a1 q.vars.length c1, .slice a2 q.pats.length c2, .slice a3 q.fils.length c3, .slice a4 q.ord.length c4, .int .i64 q.lim, .int .i64 q.off] ∧
  (q.vars.length ≤ c1 ∧ q.pats.length ≤ c2 ∧ q.fils.length ≤ c3 ∧ q.ord.length ≤ c4) ∧ Rd w a1 (q.vars.map Value.string) ∧ RdPat w a2 q.pats ∧ RdEs n w a3 q.fils ∧ RdKey w a4 q.ord
/-- A query's lists and texts are no longer than memory may hold. -/
def szQ {n : Nat} (q : Qy n) : Prop := q.vars.length ≤ 281474976710656 ∧ q.pats.length ≤ 281474976710656 ∧ q.fils.length ≤ 1353245080300 ∧ q.ord.length ≤ 281474976710656 ∧ (∀ x ∈ q.vars, x.size ≤ 281474976710656) ∧ (∀ x ∈ q.pats, szP x) ∧ (∀ x ∈ q.fils, szX n x) ∧ ∀ x ∈ q.ord, x.v.size ≤ 281474976710656
theorem RdStr_of {w : World} {A : Option Addr} {l : List ByteArray} (h : Rd w A (l.map Value.string)) : RdStr w A l := by
  refine ⟨_, h, ?_⟩
  clear h
  induction l with
  | nil => rfl
  | cons a r ih => exact ⟨[.string a], _, rfl, rfl, rfl, ih⟩
theorem qRight (n : Nat) (q : Qy n) (cs : List Value) (w : World) (hC : Ctx w) (hr : RdQ n w cs q) (hz : szQ q) :
    Calls Tryz.prog 67 #[.agg cs.toArray] w fun e w' => e = .returned (.bool (rightQ q)) ∧ Below w.heap.size w w' := by
  obtain ⟨a1, a2, a3, a4, c1, c2, c3, c4, rfl, _, h1, h2, h3, h4⟩ := hr
  obtain ⟨z1, z2, z3, z4, y1, y2, y3, y4⟩ := hz
  unfold rightQ
  cases hf : fitQ q.pats.length q.fils.length q.vars.length q.ord.length
  · exact qRightFit q.ask q.dist q.pats.length q.fils.length q.vars.length q.ord.length q.lim q.off a1 a2 a3 a4 c1 c2 c3 c4 w hf (by omega)
  cases hn : numsQ q.lim q.off
  · exact qRightNum q.ask q.dist q.pats.length q.fils.length q.vars.length q.ord.length q.lim q.off a1 a2 a3 a4 c1 c2 c3 c4 w hf hn
  cases ha : askQ q.ask q.dist q.vars.length q.ord.length q.lim q.off
  · exact qRightAsk q.ask q.dist q.pats.length q.fils.length q.vars.length q.ord.length q.lim q.off a1 a2 a3 a4 c1 c2 c3 c4 w hf hn ha
  obtain ⟨f1, f2, f3, f4⟩ : q.pats.length ≤ 6 ∧ q.fils.length ≤ 6 ∧ q.vars.length ≤ 12 ∧ q.ord.length ≤ 4 := by
    simpa [fitQ] using hf
  exact qRightAll q.ask q.dist q.pats.length q.fils.length q.vars.length q.ord.length q.lim q.off a1 a2 a3 a4 c1 c2 c3 c4 (q.pats.all patB) (q.fils.all (exprB n)) (q.vars.all nameB) (q.ord.all fun y => nameB y.v) w hf hn ha
    (fun W hb => everyPats q.pats a2 c2 W (hC.step hb) (by omega) (RdL.mono h2 hb fun _ _ _ h => h) y2)
    (fun W hb => everyExprs n q.fils a3 c3 W (hC.step hb) (by omega) (RdEs.later h3 hb) y3)
    (fun W hb => everyNames q.vars a1 c1 W (by omega) (RdL.mono (RdStr_of h1) hb fun _ _ _ h => h) y1)
    (fun W hb => everyKeys q.ord a4 c4 W (by omega) (RdL.mono h4 hb fun _ _ _ h => h) y4)
end Go.Proofs.YtefjhehgpkljcaaGreatDoor
namespace Go.Proofs.YtefjhehgpkljcaaGreatDoor
open Go Go.RowKit Fm

def SomeZ (P : Bool → Prop) (w : World) (e : Ending) (w' : World) : Prop := ∃ b, e = .returned (.bool b) ∧ P b ∧ Below w.heap.size w w'
def Part22 (n : Nat) (x : ExT n) (deep : Int) (w : World) (e : Ending) (w' : World) : Prop := ∃ r : Int, e = .returned (.int .i64 r) ∧ 1 ≤ r ∧ r ≤ (62 - deep) * 401 ∧ (r ≤ 400 → ((preE n x).length : Int) ≤ r) ∧ Below w.heap.size w w'
def PartL (n : Nat) (kids : List (ExT n)) (deep : Int) (W : World) (nv i : Value) (wr : World) : Prop :=
  ∃ (j : Nat) (r : Int), j ≤ kids.length ∧ i = .int .i64 j ∧ nv = .int .i64 r ∧ 1 ≤ r ∧ r ≤ (62 - deep) * 401 ∧ (r ≤ 400 → 1 + (((kids.take j).flatMap (preE n)).length : Int) ≤ r) ∧ Below W.heap.size W wr
/-- How many things a query has, its conditions' parts besides. -/
def cntQ {n : Nat} (q : Qy n) : Nat := q.vars.length + q.pats.length + q.ord.length + q.fils.length
def allQ {n : Nat} (q : Qy n) : Nat := cntQ q + (q.fils.flatMap (preE n)).length
abbrev RdQs (n : Nat) (w : World) (A : Option Addr) (l : List (Qy n)) : Prop := RdL 8 (RdQ n w) w A l
theorem RdQ.later {n : Nat} {w w' : World} {cs : List Value} {q : Qy n} (h : RdQ n w cs q) (hb : Below w.heap.size w w') : RdQ n w' cs q := by
  obtain ⟨a1, a2, a3, a4, c1, c2, c3, c4, h0, hc, h1, h2, h3, h4⟩ := h
  exact ⟨a1, a2, a3, a4, c1, c2, c3, c4, h0, hc, h1.later hb, RdL.mono h2 hb (fun _ _ _ h => h), RdEs.later h3 hb, RdL.mono h4 hb (fun _ _ _ h => h)⟩
theorem RdQs.later {n : Nat} {w w' : World} {A : Option Addr} {l : List (Qy n)} (h : RdQs n w A l) (hb : Below w.heap.size w w') : RdQs n w' A l := RdL.mono h hb fun _ _ _ h => h.later hb
/-- A query's lists are no longer than memory may hold. -/
def szL {n : Nat} (q : Qy n) : Prop := q.vars.length ≤ 281474976710656 ∧ q.pats.length ≤ 281474976710656 ∧ q.fils.length ≤ 1353245080300 ∧ q.ord.length ≤ 281474976710656 ∧ ∀ x ∈ q.fils, szE n x
def Great0 {n : Nat} (qs : List (Qy n)) (w : World) (nv i : Value) (wr : World) : Prop :=
  ∃ (j : Nat) (r : Int), j ≤ qs.length ∧ i = .int .i64 j ∧ nv = .int .i64 r ∧ 0 ≤ r ∧ r ≤ 3000000000000000 * ((j : Int) + 1) ∧ (r ≤ 400 → (((qs.take j).map allQ).sum : Int) ≤ r) ∧ Below w.heap.size w wr
def Great1 {n : Nat} (qs : List (Qy n)) (q : Qy n) (j : Nat) (W : World) (nv i : Value) (wr : World) : Prop :=
  ∃ (k : Nat) (r : Int), k ≤ q.fils.length ∧ i = .int .i64 k ∧ nv = .int .i64 r ∧ 0 ≤ r ∧ r ≤ 3000000000000000 * ((j : Int) + 1) + 2900000000000000 ∧ (r ≤ 400 → (((qs.take j).map allQ).sum : Int) + cntQ q + ((q.fils.take k).flatMap (preE n)).length ≤ r) ∧ Below W.heap.size W wr
theorem sum_take {n : Nat} {qs : List (Qy n)} {j : Nat} {q : Qy n} (h : qs[j]? = some q) : ((qs.take (j + 1)).map allQ).sum = ((qs.take j).map allQ).sum + allQ q := by
  rw [take_snoc_of h, List.map_append, List.sum_append]; simp
def GreatP {n : Nat} (qs : List (Qy n)) (b : Bool) : Prop := b = false → (qs.map allQ).sum ≤ 400
end Go.Proofs.YtefjhehgpkljcaaGreatDoor
namespace Go.Proofs.YtefjhehgpkljcaaGreatDoor
open Go Go.RowKit Fm
/-- Texts, lists are small. -/
def szTu (t : Tm) : Prop := t.x.size ≤ 1048576 ∧ t.l.size ≤ 1048576 ∧ t.y.size ≤ 1048576
def szU : (n : Nat) → ExT n → Prop
  | 0, _ => True
  | n + 1, (_, s, t, kids) => s.size ≤ 1048576 ∧ szTu t ∧ kids.length ≤ 1048576 ∧ ∀ x ∈ kids, szU n x
def szSu (s : Sl) : Prop := s.v.size ≤ 1048576 ∧ szTu s.t
def szPu (p : Pat) : Prop := szSu p.s ∧ szSu p.p ∧ szSu p.o
def szQu {n : Nat} (q : Qy n) : Prop := q.vars.length ≤ 1048576 ∧ q.pats.length ≤ 1048576 ∧ q.fils.length ≤ 1048576 ∧ q.ord.length ≤ 1048576 ∧ (∀ x ∈ q.vars, x.size ≤ 1048576) ∧ (∀ x ∈ q.pats, szPu x) ∧ (∀ x ∈ q.fils, szU n x) ∧ ∀ x ∈ q.ord, x.v.size ≤ 1048576
theorem szTu.t {t : Tm} (h : szTu t) : szT t := ⟨Nat.le_trans h.1 (by decide), Nat.le_trans h.2.1 (by decide), Nat.le_trans h.2.2 (by decide)⟩
theorem szSu.s {s : Sl} (h : szSu s) : szS s := ⟨Nat.le_trans h.1 (by decide), h.2.t⟩
theorem szPu.p {p : Pat} (h : szPu p) : szP p := ⟨h.1.s, h.2.1.s, h.2.2.s⟩
theorem szU.x : ∀ {n : Nat} {e : ExT n}, szU n e → szX n e
  | 0, _, _ => trivial
  | _ + 1, (_, _, _, _), ⟨h1, h2, h3, h4⟩ => ⟨Nat.le_trans h1 (by decide), h2.t, Nat.le_trans h3 (by decide), fun y hy => (h4 y hy).x⟩
theorem szU.e : ∀ {n : Nat} {e : ExT n}, szU n e → szE n e
  | 0, _, _ => trivial
  | _ + 1, (_, _, _, _), ⟨h1, h2, h3, h4⟩ => ⟨Nat.le_trans h1 (by decide), Nat.le_trans h2.1 (by decide), Nat.le_trans h3 (by decide), fun y hy => (h4 y hy).e⟩
theorem szQu.q {n : Nat} {q : Qy n} (h : szQu q) : szQ q :=
  ⟨Nat.le_trans h.1 (by decide), Nat.le_trans h.2.1 (by decide), Nat.le_trans h.2.2.1 (by decide), Nat.le_trans h.2.2.2.1 (by decide), fun x hx => Nat.le_trans (h.2.2.2.2.1 x hx) (by decide),
    fun x hx => (h.2.2.2.2.2.1 x hx).p, fun x hx => (h.2.2.2.2.2.2.1 x hx).x, fun x hx => Nat.le_trans (h.2.2.2.2.2.2.2 x hx) (by decide)⟩
theorem szQu.l {n : Nat} {q : Qy n} (h : szQu q) : szL q :=
  ⟨Nat.le_trans h.1 (by decide), Nat.le_trans h.2.1 (by decide), Nat.le_trans h.2.2.1 (by decide), Nat.le_trans h.2.2.2.1 (by decide), fun x hx => (h.2.2.2.2.2.2.1 x hx).e⟩
end Go.Proofs.YtefjhehgpkljcaaGreatDoor
