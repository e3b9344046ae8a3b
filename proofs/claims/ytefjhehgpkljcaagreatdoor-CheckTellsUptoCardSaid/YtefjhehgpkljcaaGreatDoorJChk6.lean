/- The program's package check, walked: checker.keys, over. The program's package check, walked: used, Query. -/
import Derived.Test.YtefjhehgpkljcaaGreatDoorJChk1
import Derived.Test.YtefjhehgpkljcaaGreatDoorJUsed
import Derived.Test.YtefjhehgpkljcaaGreatDoorJMapStr
import Derived.Test.YtefjhehgpkljcaaGreatDoorJSizeU
import Derived.Test.YtefjhehgpkljcaaGreatDoorJClose2b
namespace Go.Proofs.YtefjhehgpkljcaaGreatDoor
open Go Go.RowKit Go.Maps Go.ChangeMaps Um Fm Mt Mp

def KeysL (ord : List Ky) (w : World) (v i : Value) (wr : World) : Prop := ∃ (k : Nat) (v' : Value), k ≤ ord.length ∧ i = .int .i64 k ∧ v = v' ∧ wr.ownsRow w.heap.size 9 1 v' k ((ord.take k).map fun y => Value.string y.v) ∧ Below w.heap.size w wr
def keysN (ord : List Ky) : List ByteArray := ord.map (·.v)
set_option maxRecDepth 10000 in
set_option maxHeartbeats 2000000 in
theorem cKeys (M : Option Nat) (ask dist : Bool) (nv np nf : Nat) (a1 a2 a3 a4 : Option Addr) (c1 c2 c3 c4 : Nat) (lim off : Int) (ord : List Ky) (w : World) (hr : RdKey w a4 ord) (hl : ord.length ≤ 1000000) :
    Calls Tryz.prog 68 #[.agg #[.map M, .bool ask, .bool dist, .slice a1 nv c1, .slice a2 np c2, .slice a3 nf c3, .slice a4 ord.length c4, .int .i64 lim, .int .i64 off]] w (NamesR (keysN ord) w) := by
  have hl' : (ord.length : Int) ≤ 1000000 := by omega
  have hB0 : Below w.heap.size w (w.alloc (.cells #[.map M, .bool ask, .bool dist, .slice a1 nv c1, .slice a2 np c2, .slice a3 nf c3, .slice a4 ord.length c4, .int .i64 lim, .int .i64 off] 91)) := (by repeat (first | exact Below.refl _ _ | assumption | exact (Below.refl _ _).alloc (Nat.le_refl _) _ | refine below_tr ?_ (by assumption) | refine below_alloc ?_ | refine below_tr ?_ (below_regrown _ _ _)))
  obtain ⟨i, hi, hz, hsize, hby⟩ := info_parts stringInfo'
  go_enter Tryz.func68, Tryz.ntmps68
  go_wp2
  go_loopw [2, 9] (KeysL ord w) (fun _ i _ => ord.length - (intOf i).toNat)
  case atStart => exact ⟨0, _, by omega, rfl, rfl, by simpa using World.ownsRow_nil _ _ _ _, hB0⟩
  case round =>
    clear hB0
    obtain ⟨k, v', hk, rfl, rfl, own, hB⟩ := hrel
    by_cases hlt : k < ord.length
    · obtain ⟨y, hy⟩ : ∃ x, ord[k]? = some x := ⟨_, List.getElem?_eq_getElem hlt⟩
      obtain ⟨g, o, cs, rfl, -, rfl, hc⟩ := (RdL.mono hr hB (fun _ _ _ h => h)).at_ (by omega) hy
      have e0 : wr.cell? ⟨g, o + k * 2, none⟩ = some (.string y.v) := hc 0 _ rfl
      have e1 : wr.cell? ⟨g, o + k * 2 + 1, none⟩ = some (.bool y.d) := hc 1 _ rfl
      have B2 : Below wr.heap.size wr ((wr.alloc (.cells #[.string y.v, .bool y.d] 60)).alloc (.cells #[.string y.v] 9)) := (by repeat (first | exact Below.refl _ _ | assumption | exact (Below.refl _ _).alloc (Nat.le_refl _) _ | refine below_tr ?_ (by assumption) | refine below_alloc ?_ | refine below_tr ?_ (below_regrown _ _ _)))
      have own2 := own_below own B2 (Nat.le_refl _)
      have R2 : Rd ((wr.alloc (.cells #[.string y.v, .bool y.d] 60)).alloc (.cells #[.string y.v] 9)) (some ⟨wr.heap.size + 1, 0, none⟩) [.string y.v] := Rd.of_block (heap_two_2 wr _ _) rfl
      have hbs : w.heap.size ≤ wr.heap.size := hB.size
      have B02 := Lib.hid (below_tr hB B2)
      have Hts := Lib.hid (take_snoc_of hy)
      clear hc hy hr own hB B2 hi hz hsize hby
      go_wp2_with (at_builtin; refine wpList_appG rfl rfl Tryz.underlying24 stringInfo' rfl (by omega) rfl own2 rfl R2 rfl (by intro u hu; simp at hu; subst hu; rfl) (by omega) (by omega) (by simp; omega) ?_; intro v5 w5 own5 hb5 _)
      go_roundw
      case rel => exact ⟨k + 1, v5, by omega, by go_num, rfl, by rw [Hts.out, List.map_append]; exact own5, B02.out.trans hb5⟩
      case measure => simp [intOf]; omega
    · have Hk2 : Hid (ord.take k = ord) := List.take_of_length_le (by omega)
      have hkl : k = ord.length := by omega
      obtain ⟨A1, d1, rfl, _, _⟩ := own_slice own
      subst hkl
      clear hr
      go_wp2
      go_ret
      refine ⟨_, rfl, ?_, hB⟩
      unfold keysN
      rw [List.length_map, List.map_map]
      have h := own
      rw [Hk2.out] at h
      exact h
def OverR (l : List ByteArray) (ask dist : Bool) (nv np nf nk : Nat) (a1 a2 a3 a4 : Option Addr) (c1 c2 c3 c4 : Nat) (lim off : Int) (w : World) (e : Ending) (w' : World) : Prop :=
  ∃ r, e = .returned (.agg #[.map (some r), .bool ask, .bool dist, .slice a1 nv c1, .slice a2 np c2, .slice a3 nf c3, .slice a4 nk c4, .int .i64 lim, .int .i64 off]) ∧ CntOf w' r (meetM [] l) ∧ w.heap.size ≤ r ∧ Below w.heap.size w w'
set_option maxRecDepth 20000 in
set_option maxHeartbeats 2000000 in
theorem cOver (l : List ByteArray) (A : Option Addr) (c : Nat) (ask dist : Bool) (nv np nf nk : Nat) (a1 a2 a3 a4 : Option Addr) (c1 c2 c3 c4 : Nat) (lim off : Int) (w : World) (hr : Rd w A (l.map Value.string)) (hl : l.length ≤ 1000000) :
    Calls Tryz.prog 60 #[.agg #[.bool ask, .bool dist, .slice a1 nv c1, .slice a2 np c2, .slice a3 nf c3, .slice a4 nk c4, .int .i64 lim, .int .i64 off], .slice A l.length c] w (OverR l ask dist nv np nf nk a1 a2 a3 a4 c1 c2 c3 c4 lim off w) := by
  have hmm := @run_makeMap Tryz.prog
  obtain ⟨W, hW⟩ : ∃ W : World, ((((w.alloc (.cells #[.bool ask, .bool dist, .slice a1 nv c1, .slice a2 np c2, .slice a3 nf c3, .slice a4 nk c4, .int .i64 lim, .int .i64 off] 40)).alloc (.cells #[.map none, .bool false, .bool false, .slice none 0 0, .slice none 0 0, .slice none 0 0, .slice none 0 0, .int .i64 0, .int .i64 0] 91)).alloc (.map #[] 0)).alloc (.cells #[.map (some (w.heap.size + 1 + 1)), .bool ask, .bool dist, .slice a1 nv c1, .slice a2 np c2, .slice a3 nf c3, .slice a4 nk c4, .int .i64 lim, .int .i64 off] 91)) = W := ⟨_, rfl⟩
  have hsz : W.heap.size = w.heap.size + 1 + 1 + 1 + 1 := by rw [← hW]; simp
  have hB : Below w.heap.size w W := by rw [← hW]; exact (by repeat (first | exact Below.refl _ _ | assumption | exact (Below.refl _ _).alloc (Nat.le_refl _) _ | refine below_tr ?_ (by assumption) | refine below_alloc ?_ | refine below_tr ?_ (below_regrown _ _ _)))
  have g1 : W.heap[w.heap.size + 1]? = some (.cells #[.map none, .bool false, .bool false, .slice none 0 0, .slice none 0 0, .slice none 0 0, .slice none 0 0, .int .i64 0, .int .i64 0] 91 (0, 0)) := by
    rw [← hW, Below.heap_alloc _ _ _ (by simp), Below.heap_alloc _ _ _ (by simp)]; exact heap_two_2 w _ _
  have g2 : W.heap[w.heap.size + 1 + 1]? = some (.map #[] 0) := by
    rw [← hW, Below.heap_alloc _ _ _ (by simp)]
    have := heap_alloc_new ((w.alloc (.cells #[.bool ask, .bool dist, .slice a1 nv c1, .slice a2 np c2, .slice a3 nf c3, .slice a4 nk c4, .int .i64 lim, .int .i64 off] 40)).alloc (.cells #[.map none, .bool false, .bool false, .slice none 0 0, .slice none 0 0, .slice none 0 0, .slice none 0 0, .int .i64 0, .int .i64 0] 91)) (.map #[] 0)
    simpa using this
  have g3 : W.heap[w.heap.size + 1 + 1 + 1]? = some (.cells #[.map (some (w.heap.size + 1 + 1)), .bool ask, .bool dist, .slice a1 nv c1, .slice a2 np c2, .slice a3 nf c3, .slice a4 nk c4, .int .i64 lim, .int .i64 off] 91 (0, 0)) := by
    rw [← hW]
    have := heap_alloc_new (((w.alloc (.cells #[.bool ask, .bool dist, .slice a1 nv c1, .slice a2 np c2, .slice a3 nf c3, .slice a4 nk c4, .int .i64 lim, .int .i64 off] 40)).alloc (.cells #[.map none, .bool false, .bool false, .slice none 0 0, .slice none 0 0, .slice none 0 0, .slice none 0 0, .int .i64 0, .int .i64 0] 91)).alloc (.map #[] 0)) (.cells #[.map (some (w.heap.size + 1 + 1)), .bool ask, .bool dist, .slice a1 nv c1, .slice a2 np c2, .slice a3 nf c3, .slice a4 nk c4, .int .i64 lim, .int .i64 off] 91)
    simpa using this
  have hq := cMeet (w.heap.size + 1 + 1) [] l A c W g2 (hr.later hB) hl (fun s => by simp [lookI])
  have hCi : (Tryz.prog.info? 91).map (·.size) = some 9 := by kernel_rfl
  have HW := Lib.hid hW
  clear hW
  go_enter Tryz.func60, Tryz.ntmps60
  go_wp2_with fail
  simp only [HW.out]
  clear hmm
  refine hq.mono ?_
  rintro e w1 ⟨rfl, hM1, hg1⟩
  have r1 := hg1.block (w.heap.size + 1) (by omega) (by simp)
  have r3 := hg1.block (w.heap.size + 1 + 1 + 1) (by omega) (by simp)
  rw [g1] at r1
  rw [g3] at r3
  have hc : ∀ i, w1.cell? ⟨w.heap.size + 1 + 1 + 1, i, none⟩ = #[Value.map (some (w.heap.size + 1 + 1)), .bool ask, .bool dist, .slice a1 nv c1, .slice a2 np c2, .slice a3 nf c3, .slice a4 nk c4, .int .i64 lim, .int .i64 off][i]? := fun i => by rw [World.cell?, r3]; rfl
  have k0 := hc 0
  have k1 := hc 1
  have k2 := hc 2
  have k3 := hc 3
  have k4 := hc 4
  have k5 := hc 5
  have k6 := hc 6
  have k7 := hc 7
  have k8 := hc 8
  simp at k0 k1 k2 k3 k4 k5 k6 k7 k8
  have Hr1 := Lib.hid r1
  have HM1 := Lib.hid hM1
  have hB1 : Below w.heap.size w w1 := hB.grown hg1 hB.size fun q e => by cases e; omega
  have HB1 := Lib.hid hB1
  clear hq g1 g2 g3 r1 r3 hc hr hM1 hg1 hB hB1
  go_wp2_with (refine wpList_store_row rfl 91 _ _ rfl rfl rfl hCi Hr1.out rfl rfl ?_)
  obtain ⟨F, hF⟩ : ∃ F : World, w1.setRow (w.heap.size + 1) #[.map (some (w.heap.size + 1 + 1)), .bool ask, .bool dist, .slice a1 nv c1, .slice a2 np c2, .slice a3 nf c3, .slice a4 nk c4, .int .i64 lim, .int .i64 off] = F := ⟨_, rfl⟩
  have hrow := setRow_heap w1 (w.heap.size + 1) _ #[.map (some (w.heap.size + 1 + 1)), .bool ask, .bool dist, .slice a1 nv c1, .slice a2 np c2, .slice a3 nf c3, .slice a4 nk c4, .int .i64 lim, .int .i64 off] 91 (0, 0) Hr1.out
  have hM2 : CntOf F (w.heap.size + 1 + 1) (meetM [] l) := by
    unfold CntOf; rw [← hF, setRow_other _ _ _ _ (by omega)]; exact HM1.out
  have BF : Below w.heap.size w F := by rw [← hF]; exact below_setRow HB1.out (by omega) _
  rw [hF] at hrow
  have hc : ∀ i, F.cell? ⟨w.heap.size + 1, i, none⟩ = #[Value.map (some (w.heap.size + 1 + 1)), .bool ask, .bool dist, .slice a1 nv c1, .slice a2 np c2, .slice a3 nf c3, .slice a4 nk c4, .int .i64 lim, .int .i64 off][i]? := fun i => by rw [World.cell?, hrow]; rfl
  have j0 := hc 0
  have j1 := hc 1
  have j2 := hc 2
  have j3 := hc 3
  have j4 := hc 4
  have j5 := hc 5
  have j6 := hc 6
  have j7 := hc 7
  have j8 := hc 8
  simp at j0 j1 j2 j3 j4 j5 j6 j7 j8
  simp only [hF]
  exact bodyPost_ret (v := .agg #[.map (some (w.heap.size + 1 + 1)), .bool ask, .bool dist, .slice a1 nv c1, .slice a2 np c2, .slice a3 nf c3, .slice a4 nk c4, .int .i64 lim, .int .i64 off]) (by simp [results, Tryz.results60, go_sem, j0, j1, j2, j3, j4, j5, j6, j7, j8]) rfl ⟨_, rfl, hM2, by omega, BF⟩
end Go.Proofs.YtefjhehgpkljcaaGreatDoor
namespace Go.Proofs.YtefjhehgpkljcaaGreatDoor
open Go Go.RowKit Go.Maps Go.ChangeMaps Go.Shelf Um Fm Mt Mp
attribute [local go_sem] Oper.semAt_some

theorem own_block {w : World} {base : Nat} {e : TypeId} {size n : Nat} {A : Option Addr} {m c : Nat} {xs : List Value} (h : w.ownsRow base e size (.slice A m c) n xs) : ∀ a, A = some a → base ≤ a.block ∧ a.block < w.heap.size := by
  intro a ha
  exact h.lt a.block (by rw [ha]; rfl)
/-- A query's things are few. -/
def fewQ {n : Nat} (q : Qy n) : Prop := q.vars.length ≤ 100000 ∧ q.pats.length ≤ 300000 ∧ q.ord.length ≤ 100000 ∧ q.fils.length ≤ 1353245080300 ∧ (∀ x ∈ q.fils, szE n x) ∧ (q.fils.flatMap (preE n)).length ≤ 500000
/-- The names that a query tells, sorts by, filters by. -/
def saidQ {n : Nat} (q : Qy n) : List ByteArray := q.vars ++ (keysN q.ord ++ usedN n q.fils)
theorem keysN_len (l : List Ky) : (keysN l).length = l.length := List.length_map _
theorem saidQ_len {n : Nat} {q : Qy n} (h : fewQ q) : (saidQ q).length ≤ 700000 := by
  have := usedN_len n q.fils
  obtain ⟨h1, h2, h3, h4, h5, h6⟩ := h
  unfold saidQ
  rw [List.length_append, List.length_append, keysN_len]
  omega
theorem rdLs3 {w : World} {A B C : Option Addr} {a b c : List ByteArray} {ca cb cc : Nat} {D : Nat} (hd : w.heap[D]? = some (.cells #[.slice A a.length ca, .slice B b.length cb, .slice C c.length cc] 24 (0, 0))) (h1 : Rd w A (a.map Value.string)) (h2 : Rd w B (b.map Value.string)) (h3 : Rd w C (c.map Value.string)) :
    RdLs w (some ⟨D, 0, none⟩) [a, b, c] :=
  ⟨[.slice A a.length ca] ++ ([.slice B b.length cb] ++ [.slice C c.length cc]), Rd.of_block hd rfl, All.append (l := [a]) (All.one rfl ⟨_, _, rfl, h1⟩) (All.append (l := [b]) (All.one rfl ⟨_, _, rfl, h2⟩) (All.one rfl ⟨_, _, rfl, h3⟩))⟩

/-- The texts that an iterator of slices.Values goes through, from block S on. -/
def SeqFrom (S : Nat) (w : World) (Bp : Nat) (l : List ByteArray) : Prop := ∃ A c, w.cell? ⟨Bp, 0, none⟩ = some (.slice A l.length c) ∧ Rd w A (l.map Value.string) ∧ S ≤ Bp ∧ ∀ a, A = some a → S ≤ a.block
theorem SeqFrom.at_ {S : Nat} {w : World} {Bp : Nat} {l : List ByteArray} (h : SeqFrom S w Bp l) : SeqAt w Bp l := by
  obtain ⟨A, c, h1, h2, _⟩ := h
  exact ⟨A, c, h1, h2⟩
def UsedR {n : Nat} (q : Qy n) (w : World) (e : Ending) (w' : World) : Prop := ∃ Bp, e = .returned (.func (.func 154) #[] #[.pointer (some ⟨Bp, 0, none⟩)]) ∧ SeqFrom w.heap.size w' Bp (saidQ q) ∧ Below w.heap.size w w'
set_option maxRecDepth 100000 in
set_option maxHeartbeats 4000000 in
theorem cUsed (M : Option Nat) (n : Nat) (q : Qy n) (a1 a2 a3 a4 : Option Addr) (c1 c2 c3 c4 : Nat) (w : World) (hf : fewQ q) (h1 : Rd w a1 (q.vars.map Value.string)) (h3 : RdEs n w a3 q.fils) (h4 : RdKey w a4 q.ord) :
    Calls Tryz.prog 63 #[.agg #[.map M, .bool q.ask, .bool q.dist, .slice a1 q.vars.length c1, .slice a2 q.pats.length c2, .slice a3 q.fils.length c3, .slice a4 q.ord.length c4, .int .i64 q.lim, .int .i64 q.off]] w (UsedR q w) := by
  obtain ⟨f1, f2, f3, f4, f5, f6⟩ := hf
  go_enter Tryz.func63, Tryz.ntmps63
  go_wp2
  obtain ⟨W, hW⟩ : ∃ W : World, w.alloc (.cells #[.map M, .bool q.ask, .bool q.dist, .slice a1 q.vars.length c1, .slice a2 q.pats.length c2, .slice a3 q.fils.length c3, .slice a4 q.ord.length c4, .int .i64 q.lim, .int .i64 q.off] 91) = W := ⟨_, rfl⟩
  have hB0 : Below w.heap.size w W := by rw [← hW]; exact (by repeat (first | exact Below.refl _ _ | assumption | exact (Below.refl _ _).alloc (Nat.le_refl _) _ | refine below_tr ?_ (by assumption) | refine below_alloc ?_ | refine below_tr ?_ (below_regrown _ _ _)))
  have hbx : ∀ (i : Nat) v, #[Value.map M, .bool q.ask, .bool q.dist, .slice a1 q.vars.length c1, .slice a2 q.pats.length c2, .slice a3 q.fils.length c3, .slice a4 q.ord.length c4, .int .i64 q.lim, .int .i64 q.off][i]? = some v → W.cell? ⟨w.heap.size, i, none⟩ = some v := by
    intro i v hv; rw [← hW, World.cell?, heap_alloc_new]; exact hv
  simp only [hW]
  have HW := Lib.hid hW
  clear hW
  have k1 := h1.later hB0
  have k3 := RdEs.later h3 hB0
  have k4 := RdL.mono h4 hB0 (fun _ _ _ h => h)
  clear h1 h3 h4
  refine Rf.wp_region_pl W.heap.size ?R (Rf.Pl.quiet [0, 1, 2, 3, 5, 6, 7] (Rf.Pl.one 4 (Rf.Pl.one 8 (Rf.Pl.one 9 (Rf.Pl.one 10 (Rf.Pl.one 11 (Rf.Pl.quiet [12] (Rf.Pl.done)))))))) _ (by kernel_rfl) (by kernel_rfl) (by simp only [Rf.Pl.pick, Rf.pickO, List.map_cons, List.map_nil, Rg.pickOps, List.getElem?_toArray, List.getElem?_cons_zero, List.getElem?_cons_succ, Option.getD_some]; rfl) ?_ ?_
  case R => exact fun a W' => ∃ (u3 u4 u5 u6 u7 u8 u9 u10 u11 u12 u13 u14 : Value) (Bp : Nat), a = { tmps := #[.agg #[.map M, .bool q.ask, .bool q.dist, .slice a1 q.vars.length c1, .slice a2 q.pats.length c2, .slice a3 q.fils.length c3, .slice a4 q.ord.length c4, .int .i64 q.lim, .int .i64 q.off], .pointer (some ⟨w.heap.size, 0, none⟩), .func (.func 154) #[] #[.pointer (some ⟨Bp, 0, none⟩)], u3, u4, u5, u6, u7, u8, u9, u10, u11, u12, u13, u14], defers := [] } ∧ SeqFrom w.heap.size W' Bp (saidQ q) ∧ Below W.heap.size W W'
  · intro wd hbd hwz
    have b0 := cellL (hbx 0 (.map M) rfl) hbd
    have b1 := cellL (hbx 1 (.bool q.ask) rfl) hbd
    have b2 := cellL (hbx 2 (.bool q.dist) rfl) hbd
    have b3 := cellL (hbx 3 (.slice a1 q.vars.length c1) rfl) hbd
    have b4 := cellL (hbx 4 (.slice a2 q.pats.length c2) rfl) hbd
    have b5 := cellL (hbx 5 (.slice a3 q.fils.length c3) rfl) hbd
    have b6 := cellL (hbx 6 (.slice a4 q.ord.length c4) rfl) hbd
    have b7 := cellL (hbx 7 (.int .i64 q.lim) rfl) hbd
    have b8 := cellL (hbx 8 (.int .i64 q.off) rfl) hbd
    have e1 := k1.later hbd
    have e3 := RdEs.later k3 hbd
    have e4 := RdL.mono k4 hbd (fun _ _ _ h => h)
    have Hz := Lib.hid hwz
    clear k1 k3 k4 hbx hwz
    refine Rf.pl_quiet ?_
    iterate 7 go_big_quiet_step (fail)
    refine wpQuiet_nil (Rf.pl_one ?_)
    have hK := cKeys M q.ask q.dist q.vars.length q.pats.length q.fils.length a1 a2 a3 a4 c1 c2 c3 c4 q.lim q.off q.ord wd e4 (by omega)
    go_wp2_with (refine hK.mono ?_; rintro e w1 ⟨v1, rfl, own1, hb1⟩)
    obtain ⟨A1, d1, rfl, _, r1⟩ := own_slice own1
    have hB1 : Below W.heap.size wd w1 := hb1.mono (by rw [Hz.out]; exact Nat.le_refl _)
    refine ⟨hB1, Rf.pl_one ?_⟩
    have hU := qUsed n q.fils a3 c3 w1 (RdEs.later e3 hb1) f4 f5 f6
    have ev := e1.later hb1
    clear hK e3 e4 own1
    go_wp2_with (refine hU.mono ?_; rintro e w2 ⟨v2, rfl, own2, hb2⟩)
    obtain ⟨A2, d2, rfl, _, r2⟩ := own_slice own2
    have hB2 : Below W.heap.size w1 w2 := hb2.mono (by have := hB1.size; rw [Hz.out] at this; exact this)
    refine ⟨hB2, Rf.pl_one ?_⟩
    have ev2 := ev.later hb2
    have r12 := r1.later hb2
    clear ev r1 hU own2
    go_wp2_with fail
    have hz2 : W.heap.size ≤ w2.heap.size := by have := hB1.size; have := hB2.size; have := Hz.out; omega
    have hb3 : Below w2.heap.size w2 (w2.alloc (.cells #[.slice a1 q.vars.length c1, .slice A1 (keysN q.ord).length d1, .slice A2 (usedN n q.fils).length d2] 24)) := (by repeat (first | exact Below.refl _ _ | assumption | exact (Below.refl _ _).alloc (Nat.le_refl _) _ | refine below_tr ?_ (by assumption) | refine below_alloc ?_ | refine below_tr ?_ (below_regrown _ _ _)))
    refine ⟨hb3.mono hz2, Rf.pl_one ?_⟩
    have hR := rdLs3 (heap_alloc_new w2 _) (ev2.later hb3) (r12.later hb3) (r2.later hb3)
    have hul := usedN_len n q.fils
    have hcc := cConcat [q.vars, keysN q.ord, usedN n q.fils] (some ⟨w2.heap.size, 0, none⟩) 3 _ hR (by simp) (by simp [sumL, keysN_len]; omega)
    have hfl : [q.vars, keysN q.ord, usedN n q.fils].flatMap id = saidQ q := by simp [saidQ, List.flatMap_cons]
    rw [hfl] at hcc
    clear hR ev2 r12 r2 hfl
    go_wp2_with (refine hcc.mono ?_; rintro e w4 ⟨v4, rfl, own4, hb4⟩)
    obtain ⟨A4, d4, rfl, _, r4⟩ := own_slice own4
    have hA4 := own_block own4
    have hB4 : Below W.heap.size (w2.alloc (.cells #[.slice a1 q.vars.length c1, .slice A1 (keysN q.ord).length d1, .slice A2 (usedN n q.fils).length d2] 24)) w4 := hb4.mono (by simp; omega)
    refine ⟨hB4, Rf.pl_one ?_⟩
    have hV := cValues A4 (saidQ q).length d4 w4
    clear own4 hcc
    go_wp2_with (refine hV.mono ?_; rintro e w5 ⟨rfl, rfl⟩)
    have hb5 : Below w4.heap.size w4 (w4.alloc (.cells #[.slice A4 (saidQ q).length d4] 24)) := (by repeat (first | exact Below.refl _ _ | assumption | exact (Below.refl _ _).alloc (Nat.le_refl _) _ | refine below_tr ?_ (by assumption) | refine below_alloc ?_ | refine below_tr ?_ (below_regrown _ _ _)))
    have hz4 : W.heap.size ≤ w4.heap.size := by have := hB4.size; simp at this; omega
    refine ⟨hb5.mono hz4, Rf.pl_quiet ?_⟩
    have hwW := hB0.size
    have hq : SeqFrom w.heap.size (w4.alloc (.cells #[.slice A4 (saidQ q).length d4] 24)) w4.heap.size (saidQ q) := ⟨A4, d4, by rw [World.cell?, heap_alloc_new]; rfl, r4.later hb5, by omega, fun a ha => by have := (hA4 a ha).1; simp at this; omega⟩
    have hBB : Below W.heap.size W (w4.alloc (.cells #[.slice A4 (saidQ q).length d4] 24)) := ((((hbd.trans hB1).trans hB2).trans (hb3.mono hz2)).trans hB4).trans (hb5.mono hz4)
    iterate 1 go_big_quiet_step (fail)
    exact wpQuiet_nil (Rf.pl_done ⟨_, _, _, _, _, _, _, _, _, _, _, _, _, rfl, hq, hBB⟩)
  · rintro a W1 ⟨u3, u4, u5, u6, u7, u8, u9, u10, u11, u12, u13, u14, Bp, rfl, hq, hb1⟩
    clear k1 k3 k4 hbx
    go_wp2
    go_ret
    exact ⟨_, rfl, hq, below_tr hB0 hb1⟩
end Go.Proofs.YtefjhehgpkljcaaGreatDoor
