/- The program's package check, walked: checker.keys, over. The program's package query, walked: every at conditions. The program's package query, walked: Right. The program's package query, walked: Right, the third guard. -/
import Derived.Test.YtefjhehgpkljcaaGreatDoorJChk1
import Derived.Test.YtefjhehgpkljcaaGreatDoorJUsed
import Derived.Test.YtefjhehgpkljcaaGreatDoorJQEvery
namespace Go.Proofs.YtefjhehgpkljcaaGreatDoor
open Go Go.RowKit Go.Maps Go.ChangeMaps Um Fm Mt Mp

def KeysL (ord : List Ky) (w : World) (v i : Value) (wr : World) : Prop := ∃ (k : Nat) (v' : Value), k ≤ ord.length ∧ i = .int .i64 k ∧ v = v' ∧ wr.ownsRow w.heap.size 9 1 v' k ((ord.take k).map fun y => Value.string y.v) ∧ Below w.heap.size w wr
def keysN (ord : List Ky) : List ByteArray := ord.map (·.v)
set_option maxRecDepth 10000 in
set_option maxHeartbeats 2000000 in
theorem cKeys (M : Option Nat) (ask dist : Bool) (nv np nf : Nat) (a1 a2 a3 a4 : Option Addr) (c1 c2 c3 c4 : Nat) (lim off : Int) (ord : List Ky) (w : World) (hr : RdKey w a4 ord) (hl : ord.length ≤ 1000000) :
    Calls Tryz.prog 68 #[.agg #[.map M, .bool ask, .bool dist, .slice a1 nv c1, .slice a2 np c2, .slice a3 nf c3, .slice a4 ord.length c4, .int .i64 lim, .int .i64 off]] w (NamesR (keysN ord) w) := by
  have hl' : (ord.length : Int) ≤ 1000000 := by omega
  have hB0 : Below w.heap.size w (w.alloc (.cells #[.map M, .bool ask, .bool dist, .slice a1 nv c1, .slice a2 np c2, .slice a3 nf c3, .slice a4 ord.length c4, .int .i64 lim, .int .i64 off] 91)) := (by repeat (first | exact Below.refl _ _ | assumption | exact (Below.refl _ _).alloc (Nat.le_refl _) _ | refine below_tr ?_ (by assumption) | refine below_alloc ?_ | refine below_tr ?_ (below_regrown _ _ _)))
  obtain ⟨i, hi, hz, hsize, hby⟩ := info_parts stringInfo'
  go_enter Tryz.func68, Tryz.ntmps68
  go_wp2
  go_loopw [2, 9] (KeysL ord w) (fun _ i _ => ord.length - (intOf i).toNat)
  case atStart => exact ⟨0, _, by omega, rfl, rfl, by simpa using World.ownsRow_nil _ _ _ _, hB0⟩
  case round =>
    clear hB0
    obtain ⟨k, v', hk, rfl, rfl, own, hB⟩ := hrel
    by_cases hlt : k < ord.length
    · obtain ⟨y, hy⟩ : ∃ x, ord[k]? = some x := ⟨_, List.getElem?_eq_getElem hlt⟩
      obtain ⟨g, o, cs, rfl, -, rfl, hc⟩ := (RdL.mono hr hB (fun _ _ _ h => h)).at_ (by omega) hy
      have e0 : wr.cell? ⟨g, o + k * 2, none⟩ = some (.string y.v) := hc 0 _ rfl
      have e1 : wr.cell? ⟨g, o + k * 2 + 1, none⟩ = some (.bool y.d) := hc 1 _ rfl
      have B2 : Below wr.heap.size wr ((wr.alloc (.cells #[.string y.v, .bool y.d] 60)).alloc (.cells #[.string y.v] 9)) := (by repeat (first | exact Below.refl _ _ | assumption | exact (Below.refl _ _).alloc (Nat.le_refl _) _ | refine below_tr ?_ (by assumption) | refine below_alloc ?_ | refine below_tr ?_ (below_regrown _ _ _)))
      have own2 := own_below own B2 (Nat.le_refl _)
      have R2 : Rd ((wr.alloc (.cells #[.string y.v, .bool y.d] 60)).alloc (.cells #[.string y.v] 9)) (some ⟨wr.heap.size + 1, 0, none⟩) [.string y.v] := Rd.of_block (heap_two_2 wr _ _) rfl
      have hbs : w.heap.size ≤ wr.heap.size := hB.size
      have B02 := Lib.hid (below_tr hB B2)
      have Hts := Lib.hid (take_snoc_of hy)
      clear hc hy hr own hB B2 hi hz hsize hby
      go_wp2_with (at_builtin; refine wpList_appG rfl rfl Tryz.underlying24 stringInfo' rfl (by omega) rfl own2 rfl R2 rfl (by intro u hu; simp at hu; subst hu; rfl) (by omega) (by omega) (by simp; omega) ?_; intro v5 w5 own5 hb5 _)
      go_roundw
      case rel => exact ⟨k + 1, v5, by omega, by go_num, rfl, by rw [Hts.out, List.map_append]; exact own5, B02.out.trans hb5⟩
      case measure => simp [intOf]; omega
    · have Hk2 : Hid (ord.take k = ord) := List.take_of_length_le (by omega)
      have hkl : k = ord.length := by omega
      obtain ⟨A1, d1, rfl, _, _⟩ := own_slice own
      subst hkl
      clear hr
      go_wp2
      go_ret
      refine ⟨_, rfl, ?_, hB⟩
      unfold keysN
      rw [List.length_map, List.map_map]
      have h := own
      rw [Hk2.out] at h
      exact h
def OverR (l : List ByteArray) (ask dist : Bool) (nv np nf nk : Nat) (a1 a2 a3 a4 : Option Addr) (c1 c2 c3 c4 : Nat) (lim off : Int) (w : World) (e : Ending) (w' : World) : Prop :=
  ∃ r, e = .returned (.agg #[.map (some r), .bool ask, .bool dist, .slice a1 nv c1, .slice a2 np c2, .slice a3 nf c3, .slice a4 nk c4, .int .i64 lim, .int .i64 off]) ∧ CntOf w' r (meetM [] l) ∧ w.heap.size ≤ r ∧ Below w.heap.size w w'
set_option maxRecDepth 20000 in
set_option maxHeartbeats 2000000 in
theorem cOver (l : List ByteArray) (A : Option Addr) (c : Nat) (ask dist : Bool) (nv np nf nk : Nat) (a1 a2 a3 a4 : Option Addr) (c1 c2 c3 c4 : Nat) (lim off : Int) (w : World) (hr : Rd w A (l.map Value.string)) (hl : l.length ≤ 1000000) :
    Calls Tryz.prog 60 #[.agg #[.bool ask, .bool dist, .slice a1 nv c1, .slice a2 np c2, .slice a3 nf c3, .slice a4 nk c4, .int .i64 lim, .int .i64 off], .slice A l.length c] w (OverR l ask dist nv np nf nk a1 a2 a3 a4 c1 c2 c3 c4 lim off w) := by
  have hmm := @run_makeMap Tryz.prog
  obtain ⟨W, hW⟩ : ∃ W : World, ((((w.alloc (.cells #[.bool ask, .bool dist, .slice a1 nv c1, .slice a2 np c2, .slice a3 nf c3, .slice a4 nk c4, .int .i64 lim, .int .i64 off] 40)).alloc (.cells #[.map none, .bool false, .bool false, .slice none 0 0, .slice none 0 0, .slice none 0 0, .slice none 0 0, .int .i64 0, .int .i64 0] 91)).alloc (.map #[] 0)).alloc (.cells #[.map (some (w.heap.size + 1 + 1)), .bool ask, .bool dist, .slice a1 nv c1, .slice a2 np c2, .slice a3 nf c3, .slice a4 nk c4, .int .i64 lim, .int .i64 off] 91)) = W := ⟨_, rfl⟩
  have hsz : W.heap.size = w.heap.size + 1 + 1 + 1 + 1 := by rw [← hW]; simp
  have hB : Below w.heap.size w W := by rw [← hW]; exact (by repeat (first | exact Below.refl _ _ | assumption | exact (Below.refl _ _).alloc (Nat.le_refl _) _ | refine below_tr ?_ (by assumption) | refine below_alloc ?_ | refine below_tr ?_ (below_regrown _ _ _)))
  have g1 : W.heap[w.heap.size + 1]? = some (.cells #[.map none, .bool false, .bool false, .slice none 0 0, .slice none 0 0, .slice none 0 0, .slice none 0 0, .int .i64 0, .int .i64 0] 91 (0, 0)) := by
    rw [← hW, Below.heap_alloc _ _ _ (by simp), Below.heap_alloc _ _ _ (by simp)]; exact heap_two_2 w _ _
  have g2 : W.heap[w.heap.size + 1 + 1]? = some (.map #[] 0) := by
    rw [← hW, Below.heap_alloc _ _ _ (by simp)]
    have := heap_alloc_new ((w.alloc (.cells #[.bool ask, .bool dist, .slice a1 nv c1, .slice a2 np c2, .slice a3 nf c3, .slice a4 nk c4, .int .i64 lim, .int .i64 off] 40)).alloc (.cells #[.map none, .bool false, .bool false, .slice none 0 0, .slice none 0 0, .slice none 0 0, .slice none 0 0, .int .i64 0, .int .i64 0] 91)) (.map #[] 0)
    simpa using this
  have g3 : W.heap[w.heap.size + 1 + 1 + 1]? = some (.cells #[.map (some (w.heap.size + 1 + 1)), .bool ask, .bool dist, .slice a1 nv c1, .slice a2 np c2, .slice a3 nf c3, .slice a4 nk c4, .int .i64 lim, .int .i64 off] 91 (0, 0)) := by
    rw [← hW]
    have := heap_alloc_new (((w.alloc (.cells #[.bool ask, .bool dist, .slice a1 nv c1, .slice a2 np c2, .slice a3 nf c3, .slice a4 nk c4, .int .i64 lim, .int .i64 off] 40)).alloc (.cells #[.map none, .bool false, .bool false, .slice none 0 0, .slice none 0 0, .slice none 0 0, .slice none 0 0, .int .i64 0, .int .i64 0] 91)).alloc (.map #[] 0)) (.cells #[.map (some (w.heap.size + 1 + 1)), .bool ask, .bool dist, .slice a1 nv c1, .slice a2 np c2, .slice a3 nf c3, .slice a4 nk c4, .int .i64 lim, .int .i64 off] 91)
    simpa using this
  have hq := cMeet (w.heap.size + 1 + 1) [] l A c W g2 (hr.later hB) hl (fun s => by simp [lookI])
  have hCi : (Tryz.prog.info? 91).map (·.size) = some 9 := by kernel_rfl
  have HW := Lib.hid hW
  clear hW
  go_enter Tryz.func60, Tryz.ntmps60
  go_wp2_with fail
  simp only [HW.out]
  clear hmm
  refine hq.mono ?_
  rintro e w1 ⟨rfl, hM1, hg1⟩
  have r1 := hg1.block (w.heap.size + 1) (by omega) (by simp)
  have r3 := hg1.block (w.heap.size + 1 + 1 + 1) (by omega) (by simp)
  rw [g1] at r1
  rw [g3] at r3
  have hc : ∀ i, w1.cell? ⟨w.heap.size + 1 + 1 + 1, i, none⟩ = #[Value.map (some (w.heap.size + 1 + 1)), .bool ask, .bool dist, .slice a1 nv c1, .slice a2 np c2, .slice a3 nf c3, .slice a4 nk c4, .int .i64 lim, .int .i64 off][i]? := fun i => by rw [World.cell?, r3]; rfl
  have k0 := hc 0
  have k1 := hc 1
  have k2 := hc 2
  have k3 := hc 3
  have k4 := hc 4
  have k5 := hc 5
  have k6 := hc 6
  have k7 := hc 7
  have k8 := hc 8
  simp at k0 k1 k2 k3 k4 k5 k6 k7 k8
  have Hr1 := Lib.hid r1
  have HM1 := Lib.hid hM1
  have hB1 : Below w.heap.size w w1 := hB.grown hg1 hB.size fun q e => by cases e; omega
  have HB1 := Lib.hid hB1
  clear hq g1 g2 g3 r1 r3 hc hr hM1 hg1 hB hB1
  go_wp2_with (refine wpList_store_row rfl 91 _ _ rfl rfl rfl hCi Hr1.out rfl rfl ?_)
  obtain ⟨F, hF⟩ : ∃ F : World, w1.setRow (w.heap.size + 1) #[.map (some (w.heap.size + 1 + 1)), .bool ask, .bool dist, .slice a1 nv c1, .slice a2 np c2, .slice a3 nf c3, .slice a4 nk c4, .int .i64 lim, .int .i64 off] = F := ⟨_, rfl⟩
  have hrow := setRow_heap w1 (w.heap.size + 1) _ #[.map (some (w.heap.size + 1 + 1)), .bool ask, .bool dist, .slice a1 nv c1, .slice a2 np c2, .slice a3 nf c3, .slice a4 nk c4, .int .i64 lim, .int .i64 off] 91 (0, 0) Hr1.out
  have hM2 : CntOf F (w.heap.size + 1 + 1) (meetM [] l) := by
    unfold CntOf; rw [← hF, setRow_other _ _ _ _ (by omega)]; exact HM1.out
  have BF : Below w.heap.size w F := by rw [← hF]; exact below_setRow HB1.out (by omega) _
  rw [hF] at hrow
  have hc : ∀ i, F.cell? ⟨w.heap.size + 1, i, none⟩ = #[Value.map (some (w.heap.size + 1 + 1)), .bool ask, .bool dist, .slice a1 nv c1, .slice a2 np c2, .slice a3 nf c3, .slice a4 nk c4, .int .i64 lim, .int .i64 off][i]? := fun i => by rw [World.cell?, hrow]; rfl
  have j0 := hc 0
  have j1 := hc 1
  have j2 := hc 2
  have j3 := hc 3
  have j4 := hc 4
  have j5 := hc 5
  have j6 := hc 6
  have j7 := hc 7
  have j8 := hc 8
  simp at j0 j1 j2 j3 j4 j5 j6 j7 j8
  simp only [hF]
  exact bodyPost_ret (v := .agg #[.map (some (w.heap.size + 1 + 1)), .bool ask, .bool dist, .slice a1 nv c1, .slice a2 np c2, .slice a3 nf c3, .slice a4 nk c4, .int .i64 lim, .int .i64 off]) (by simp [results, Tryz.results60, go_sem, j0, j1, j2, j3, j4, j5, j6, j7, j8]) rfl ⟨_, rfl, hM2, by omega, BF⟩
end Go.Proofs.YtefjhehgpkljcaaGreatDoor
namespace Go.Proofs.YtefjhehgpkljcaaGreatDoor
open Go Go.RowKit Go.Shelf Um Fm
attribute [local go_sem] Oper.semAt_some

set_option maxHeartbeats 1000000 in
theorem every1Expr (G : FuncId) (eg : ∀ args W, (callFunc G args).run Tryz.prog W = .ok (.enter G args) W) (n : Nat) (x : ExT n) (cs : List Value) (b : Bool) (k : Nat) (w : World) (hc : w.cell? ⟨k, 0, none⟩ = some (.func (.func G) #[] #[])) (hr : RdE n w cs x)
    (h : ∀ W, Below w.heap.size w W → Calls Tryz.prog G #[.agg cs.toArray] W fun e w' => e = .returned (.bool b) ∧ Below W.heap.size W w') :
    Calls Tryz.prog 163 #[.agg cs.toArray, .pointer (some ⟨k, 0, none⟩)] w fun e w' => e = .returned (.bool (!b)) ∧ Below w.heap.size w w' := by
  obtain ⟨k', s, t, A, m, c, rfl, _⟩ := rd_spell hr
  have hB0 : Below w.heap.size w (w.alloc (.cells #[.int .i64 k', .string s, .int .i64 t.k, .string t.x, .string t.l, .string t.y, .slice A m c] 31)) := (by repeat (first | exact Below.refl _ _ | assumption | exact (Below.refl _ _).alloc (Nat.le_refl _) _ | refine below_tr ?_ (by assumption) | refine below_alloc ?_ | refine below_tr ?_ (below_regrown _ _ _)))
  have hk := cell_lt hc
  have hk2 : k < w.heap.size := hk
  have hq := h _ hB0
  clear h hr
  go_enter Tryz.func163, Tryz.ntmps163
  go_wp2_with (go_at_fn G; refine hq.mono ?_; rintro e w2 ⟨rfl, hb2⟩)
  go_ret
  exact ⟨rfl, below_tr hB0 hb2⟩
set_option maxHeartbeats 1000000 in
theorem everyExpr (G : FuncId) (eg : ∀ args W, (callFunc G args).run Tryz.prog W = .ok (.enter G args) W) (n : Nat) (p : ExT n → Bool) (l : List (ExT n)) (A : Option Addr) (c : Nat) (w : World) (hl : l.length ≤ 1000) (hr : RdEs n w A l)
    (hS : ∀ x ∈ l, FnSays G #[] n p w x) :
    Calls Tryz.prog 117 #[.func (.func G) #[] #[], .slice A l.length c] w fun e w' => e = .returned (.bool (l.all p)) ∧ Below w.heap.size w w' := by
  obtain ⟨W1, hW1⟩ : ∃ W, w.alloc (.cells #[.func (.func G) #[] #[]] 127) = W := ⟨_, rfl⟩
  have hB0 : Below w.heap.size w W1 := by rw [← hW1]; exact (by repeat (first | exact Below.refl _ _ | assumption | exact (Below.refl _ _).alloc (Nat.le_refl _) _ | refine below_tr ?_ (by assumption) | refine below_alloc ?_ | refine below_tr ?_ (below_regrown _ _ _)))
  have hcell : W1.cell? ⟨w.heap.size, 0, none⟩ = some (.func (.func G) #[] #[]) := by rw [← hW1, World.cell?, heap_alloc_new]; rfl
  have hh := hasExpr 163 #[.pointer (some ⟨w.heap.size, 0, none⟩)] (enters_of Tryz.func163 (by kernel_rfl) rfl) n (fun x => !p x) l A c W1 (by omega) (RdEs.later hr hB0) (fun x hx cs W hW hrx => every1Expr G eg n x cs (p x) w.heap.size W (cell_on hcell hW) hrx fun W' hW' => hS x hx cs W' (below_tr (below_tr hB0 hW) hW') (hrx.cm (CM.of_below hW')))
  rw [← any_not]
  subst hW1
  clear hr hS hcell
  go_enter Tryz.func117, Tryz.ntmps117
  go_wp2_with (go_at_call 101; refine hh.mono ?_; rintro e w2 ⟨rfl, hb2⟩)
  go_ret
  exact ⟨rfl, below_tr hB0 hb2⟩
theorem everyExprs (n : Nat) (l : List (ExT n)) (A : Option Addr) (c : Nat) (w : World) (hC : Ctx w) (hl : l.length ≤ 1000) (hr : RdEs n w A l) (hz : ∀ x ∈ l, szX n x) :
    Calls Tryz.prog 117 #[.func (.func 118) #[] #[], .slice A l.length c] w fun e w' => e = .returned (.bool (l.all (exprB n))) ∧ Below w.heap.size w w' :=
  everyExpr 118 (enters_of Tryz.func118 (by kernel_rfl) rfl) n (exprB n) l A c w hl hr fun x hx cs W hW hrx => qExpr n x cs W (hC.step hW) hrx (hz x hx)
theorem everyPats (l : List Pat) (A : Option Addr) (c : Nat) (w : World) (hC : Ctx w) (hl : l.length ≤ 1000) (hr : RdPat w A l) (hz : ∀ x ∈ l, szP x) :
    Calls Tryz.prog 115 #[.func (.func 116) #[] #[], .slice A l.length c] w fun e w' => e = .returned (.bool (l.all patB)) ∧ Below w.heap.size w w' :=
  everyPat 116 (enters_of Tryz.func116 (by kernel_rfl) rfl) patB l A c w hl hr fun x hx W hW => qPattern x W (hC.step hW) (hz x hx)
theorem everyNames (l : List ByteArray) (A : Option Addr) (c : Nat) (w : World) (hl : l.length ≤ 1000) (hr : RdStr w A l) (hz : ∀ x ∈ l, x.size ≤ 281474976710656) :
    Calls Tryz.prog 119 #[.func (.func 113) #[] #[], .slice A l.length c] w fun e w' => e = .returned (.bool (l.all nameB)) ∧ Below w.heap.size w w' :=
  everyStr 113 (enters_of Tryz.func113 (by kernel_rfl) rfl) nameB l A c w hl hr fun x hx W _ => qName x W (hz x hx)
theorem qKey (y : Ky) (w : World) (hz : y.v.size ≤ 281474976710656) : Calls Tryz.prog 112 #[.agg #[.string y.v, .bool y.d]] w fun e w' => e = .returned (.bool (nameB y.v)) ∧ Below w.heap.size w w' := by
  have hB0 : Below w.heap.size w (w.alloc (.cells #[.string y.v, .bool y.d] 60)) := (by repeat (first | exact Below.refl _ _ | assumption | exact (Below.refl _ _).alloc (Nat.le_refl _) _ | refine below_tr ?_ (by assumption) | refine below_alloc ?_ | refine below_tr ?_ (below_regrown _ _ _)))
  have hN := qName y.v (w.alloc (.cells #[.string y.v, .bool y.d] 60)) hz
  clear hz
  generalize nameB y.v = q at *
  go_enter Tryz.func112, Tryz.ntmps112
  go_wp2_with (go_at_call 113; refine hN.mono ?_; rintro e w2 ⟨rfl, hb2⟩)
  go_ret
  exact ⟨rfl, below_tr hB0 hb2⟩
theorem everyKeys (l : List Ky) (A : Option Addr) (c : Nat) (w : World) (hl : l.length ≤ 1000) (hr : RdKey w A l) (hz : ∀ x ∈ l, x.v.size ≤ 281474976710656) :
    Calls Tryz.prog 120 #[.func (.func 112) #[] #[], .slice A l.length c] w fun e w' => e = .returned (.bool (l.all fun y => nameB y.v)) ∧ Below w.heap.size w w' :=
  everyKey 112 (enters_of Tryz.func112 (by kernel_rfl) rfl) (fun y => nameB y.v) l A c w hl hr fun x hx W _ => qKey x W (hz x hx)
def numB (n : Int) : Bool := decide (0 ≤ n ∧ n ≤ 1099511627776)
theorem qNum (n : Int) (w : World) : Calls Tryz.prog 114 #[.int .i64 n] w fun e w' => e = .returned (.bool (numB n)) ∧ w = w' := by
  unfold numB
  by_cases h1 : 0 ≤ n
  · by_cases h2 : n ≤ 1099511627776
    · go_enter Tryz.func114, Tryz.ntmps114
      go_wp2
      go_ret
      exact ⟨by simp; omega, rfl⟩
    · go_enter Tryz.func114, Tryz.ntmps114
      go_wp2
      go_ret
      exact ⟨by simp; omega, rfl⟩
  · go_enter Tryz.func114, Tryz.ntmps114
    go_wp2
    go_ret
    exact ⟨by simp; omega, rfl⟩
end Go.Proofs.YtefjhehgpkljcaaGreatDoor
namespace Go.Proofs.YtefjhehgpkljcaaGreatDoor
open Go Go.RowKit Go.Shelf Um Fm
attribute [local go_sem] Oper.semAt_some

/-- A query: ask, distinct, names, patterns, filters, keys, limit, offset. -/
structure Qy (n : Nat) where
  ask : Bool
  dist : Bool
  vars : List ByteArray
  pats : List Pat
  fils : List (ExT n)
  ord : List Ky
  lim : Int
  off : Int
def fitQ (np nf nv nk : Nat) : Bool := decide (np ≤ 6 ∧ nf ≤ 6 ∧ nv ≤ 12 ∧ nk ≤ 4)
def numsQ (lim off : Int) : Bool := numB off && (decide (lim = -1) || numB lim)
def askQ (ask dist : Bool) (nv nk : Nat) (lim off : Int) : Bool := !(ask && (dist || decide ((nv : Int) + nk + off > 0) || decide (lim ≠ -1)))
def rightQ {n : Nat} (q : Qy n) : Bool :=
  fitQ q.pats.length q.fils.length q.vars.length q.ord.length && numsQ q.lim q.off && askQ q.ask q.dist q.vars.length q.ord.length q.lim q.off &&
    (q.pats.all patB && q.fils.all (exprB n) && q.vars.all nameB && q.ord.all fun y => nameB y.v)
set_option maxRecDepth 100000 in
set_option maxHeartbeats 4000000 in
theorem qRightFit (ask dist : Bool) (np nf nv nk : Nat) (lim off : Int) (a1 a2 a3 a4 : Option Addr) (c1 c2 c3 c4 : Nat) (w : World) (h : fitQ np nf nv nk = false) (hb : np ≤ 4611686018427387904 ∧ nf ≤ 4611686018427387904 ∧ nv ≤ 4611686018427387904 ∧ nk ≤ 4611686018427387904) :
    Calls Tryz.prog 67 #[.agg #[.bool ask, .bool dist, .slice a1 nv c1, .slice a2 np c2, .slice a3 nf c3, .slice a4 nk c4, .int .i64 lim, .int .i64 off]] w fun e w' => e = .returned (.bool false) ∧ Below w.heap.size w w' := by
  have hB0 : Below w.heap.size w (w.alloc (.cells #[.bool ask, .bool dist, .slice a1 nv c1, .slice a2 np c2, .slice a3 nf c3, .slice a4 nk c4, .int .i64 lim, .int .i64 off] 40)) := (by repeat (first | exact Below.refl _ _ | assumption | exact (Below.refl _ _).alloc (Nat.le_refl _) _ | refine below_tr ?_ (by assumption) | refine below_alloc ?_ | refine below_tr ?_ (below_regrown _ _ _)))
  obtain ⟨hb1, hb2, hb3, hb4⟩ := hb
  by_cases h1 : (np : Int) ≤ 6
  · by_cases h2 : (nf : Int) ≤ 6
    · by_cases h3 : (nv : Int) ≤ 12
      · have h4 : 4 < (nk : Int) := by
          simp [fitQ] at h
          have := h (by omega) (by omega) (by omega)
          omega
        clear h
        go_enter Tryz.func67, Tryz.ntmps67
        go_wp2
        go_ret
        exact ⟨rfl, hB0⟩
      · clear h
        go_enter Tryz.func67, Tryz.ntmps67
        go_wp2
        go_ret
        exact ⟨rfl, hB0⟩
    · clear h
      go_enter Tryz.func67, Tryz.ntmps67
      go_wp2
      go_ret
      exact ⟨rfl, hB0⟩
  · clear h
    go_enter Tryz.func67, Tryz.ntmps67
    go_wp2
    go_ret
    exact ⟨rfl, hB0⟩
set_option maxRecDepth 100000 in
set_option maxHeartbeats 4000000 in
theorem qRightNum (ask dist : Bool) (np nf nv nk : Nat) (lim off : Int) (a1 a2 a3 a4 : Option Addr) (c1 c2 c3 c4 : Nat) (w : World) (h : fitQ np nf nv nk = true) (hn : numsQ lim off = false) :
    Calls Tryz.prog 67 #[.agg #[.bool ask, .bool dist, .slice a1 nv c1, .slice a2 np c2, .slice a3 nf c3, .slice a4 nk c4, .int .i64 lim, .int .i64 off]] w fun e w' => e = .returned (.bool false) ∧ Below w.heap.size w w' := by
  have hB0 : Below w.heap.size w (w.alloc (.cells #[.bool ask, .bool dist, .slice a1 nv c1, .slice a2 np c2, .slice a3 nf c3, .slice a4 nk c4, .int .i64 lim, .int .i64 off] 40)) := (by repeat (first | exact Below.refl _ _ | assumption | exact (Below.refl _ _).alloc (Nat.le_refl _) _ | refine below_tr ?_ (by assumption) | refine below_alloc ?_ | refine below_tr ?_ (below_regrown _ _ _)))
  obtain ⟨h1, h2, h3, h4⟩ : (np : Int) ≤ 6 ∧ (nf : Int) ≤ 6 ∧ (nv : Int) ≤ 12 ∧ (nk : Int) ≤ 4 := by
    simp [fitQ] at h
    omega
  clear h
  have hN := fun W => qNum off W
  have hM := fun W => qNum lim W
  unfold numsQ at hn
  generalize numB off = q1 at *
  generalize numB lim = q2 at *
  cases q1
  · clear hn hM
    go_enter Tryz.func67, Tryz.ntmps67
    go_wp2_with (go_at_call 114; first | (refine (hN _).mono ?_; rintro e w' ⟨rfl, rfl⟩) | (refine (hM _).mono ?_; rintro e w' ⟨rfl, rfl⟩))
    go_ret
    exact ⟨rfl, hB0⟩
  · have hq2 : lim ≠ -1 ∧ q2 = false := by
      cases q2 <;> simp_all
    obtain ⟨hl, rfl⟩ := hq2
    clear hn
    go_enter Tryz.func67, Tryz.ntmps67
    go_wp2_with (go_at_call 114; first | (refine (hN _).mono ?_; rintro e w' ⟨rfl, rfl⟩) | (refine (hM _).mono ?_; rintro e w' ⟨rfl, rfl⟩))
    go_ret
    exact ⟨rfl, hB0⟩
end Go.Proofs.YtefjhehgpkljcaaGreatDoor
namespace Go.Proofs.YtefjhehgpkljcaaGreatDoor
open Go Go.RowKit Go.Shelf Um Fm
attribute [local go_sem] Oper.semAt_some
set_option maxRecDepth 100000 in
set_option maxHeartbeats 4000000 in
theorem qRightAsk (ask dist : Bool) (np nf nv nk : Nat) (lim off : Int) (a1 a2 a3 a4 : Option Addr) (c1 c2 c3 c4 : Nat) (w : World) (h : fitQ np nf nv nk = true) (hn : numsQ lim off = true) (ha : askQ ask dist nv nk lim off = false) :
    Calls Tryz.prog 67 #[.agg #[.bool ask, .bool dist, .slice a1 nv c1, .slice a2 np c2, .slice a3 nf c3, .slice a4 nk c4, .int .i64 lim, .int .i64 off]] w fun e w' => e = .returned (.bool false) ∧ Below w.heap.size w w' := by
  have hB0 : Below w.heap.size w (w.alloc (.cells #[.bool ask, .bool dist, .slice a1 nv c1, .slice a2 np c2, .slice a3 nf c3, .slice a4 nk c4, .int .i64 lim, .int .i64 off] 40)) := (by repeat (first | exact Below.refl _ _ | assumption | exact (Below.refl _ _).alloc (Nat.le_refl _) _ | refine below_tr ?_ (by assumption) | refine below_alloc ?_ | refine below_tr ?_ (below_regrown _ _ _)))
  obtain ⟨h1, h2, h3, h4⟩ : (np : Int) ≤ 6 ∧ (nf : Int) ≤ 6 ∧ (nv : Int) ≤ 12 ∧ (nk : Int) ≤ 4 := by
    simp [fitQ] at h
    omega
  clear h
  have hN := fun W => qNum off W
  have hM := fun W => qNum lim W
  unfold numsQ at hn
  obtain ⟨h5, h6⟩ : 0 ≤ off ∧ off ≤ 1099511627776 := by
    simp [numB] at hn
    omega
  have hn1 : numB off = true := by simp [numB, h5, h6]
  have hn2 : lim = -1 ∨ (lim ≠ -1 ∧ numB lim = true) := by
    rw [hn1] at hn
    by_cases e : lim = -1
    · exact .inl e
    · exact .inr ⟨e, by simpa [e] using hn⟩
  rw [hn1] at hN
  clear hn hn1
  obtain ⟨rfl, hd⟩ : ask = true ∧ (dist = true ∨ 0 < (nv : Int) + nk + off ∨ lim ≠ -1) := by
    cases ask <;> simp [askQ] at ha
    refine ⟨rfl, ?_⟩
    by_cases e : dist = true
    · exact .inl e
    · by_cases e2 : lim = -1
      · right; left; simp_all
      · exact .inr (.inr e2)
  clear ha
  rcases hn2 with rfl | ⟨hl, hl2⟩
  · clear hM
    cases dist
    · have hs : 0 < (nv : Int) + nk + off := by simpa using hd
      clear hd
      go_enter Tryz.func67, Tryz.ntmps67
      go_wp2_with (go_at_call 114; first | (refine (hN _).mono ?_; rintro e w' ⟨rfl, rfl⟩) | (refine (hM _).mono ?_; rintro e w' ⟨rfl, rfl⟩))
      go_ret
      exact ⟨rfl, hB0⟩
    · clear hd
      go_enter Tryz.func67, Tryz.ntmps67
      go_wp2_with (go_at_call 114; first | (refine (hN _).mono ?_; rintro e w' ⟨rfl, rfl⟩) | (refine (hM _).mono ?_; rintro e w' ⟨rfl, rfl⟩))
      go_ret
      exact ⟨rfl, hB0⟩
  · rw [hl2] at hM
    clear hl2 hd
    cases dist
    · by_cases hs : 0 < (nv : Int) + nk + off
      · go_enter Tryz.func67, Tryz.ntmps67
        go_wp2_with (go_at_call 114; first | (refine (hN _).mono ?_; rintro e w' ⟨rfl, rfl⟩) | (refine (hM _).mono ?_; rintro e w' ⟨rfl, rfl⟩))
        go_ret
        exact ⟨rfl, hB0⟩
      · go_enter Tryz.func67, Tryz.ntmps67
        go_wp2_with (go_at_call 114; first | (refine (hN _).mono ?_; rintro e w' ⟨rfl, rfl⟩) | (refine (hM _).mono ?_; rintro e w' ⟨rfl, rfl⟩))
        · go_ret
          exact ⟨rfl, hB0⟩
        · have hx : (nv : Int) + nk + off ≤ 0 ∧ (lim != -1) = false := by assumption
          exact absurd hx.2 (by simp [hl])
    · go_enter Tryz.func67, Tryz.ntmps67
      go_wp2_with (go_at_call 114; first | (refine (hN _).mono ?_; rintro e w' ⟨rfl, rfl⟩) | (refine (hM _).mono ?_; rintro e w' ⟨rfl, rfl⟩))
      go_ret
      exact ⟨rfl, hB0⟩
end Go.Proofs.YtefjhehgpkljcaaGreatDoor
