/- The program's package check, walked: checker.keys, over. -/
import Derived.Test.YtafaanegkoolgaaGreatDoorJChk1
import Derived.Test.YtafaanegkoolgaaGreatDoorJVars
namespace Go.Proofs.YtafaanegkoolgaaGreatDoor
open Go Go.RowKit Go.Maps Go.ChangeMaps Um Fm Mt Mp

def KeysL (ord : List Ky) (w : World) (v i : Value) (wr : World) : Prop := ∃ (k : Nat) (v' : Value), k ≤ ord.length ∧ i = .int .i64 k ∧ v = v' ∧ wr.ownsRow w.heap.size 9 1 v' k ((ord.take k).map fun y => Value.string y.v) ∧ Below w.heap.size w wr
def keysN (ord : List Ky) : List ByteArray := ord.map (·.v)
set_option maxRecDepth 10000 in
set_option maxHeartbeats 2000000 in
theorem cKeys (M : Option Nat) (ask dist : Bool) (nv np nf : Nat) (a1 a2 a3 a4 : Option Addr) (c1 c2 c3 c4 : Nat) (lim off : Int) (ord : List Ky) (w : World) (hr : RdKey w a4 ord) (hl : ord.length ≤ 1000000) :
    Calls Tryz.prog 99 #[.agg #[.map M, .bool ask, .bool dist, .slice a1 nv c1, .slice a2 np c2, .slice a3 nf c3, .slice a4 ord.length c4, .int .i64 lim, .int .i64 off]] w (NamesR (keysN ord) w) := by
  have hl' : (ord.length : Int) ≤ 1000000 := by omega
  have hB0 : Below w.heap.size w (w.alloc (.cells #[.map M, .bool ask, .bool dist, .slice a1 nv c1, .slice a2 np c2, .slice a3 nf c3, .slice a4 ord.length c4, .int .i64 lim, .int .i64 off] 119)) := (by repeat (first | exact Below.refl _ _ | assumption | exact (Below.refl _ _).alloc (Nat.le_refl _) _ | refine below_tr ?_ (by assumption) | refine below_alloc ?_ | refine below_tr ?_ (below_regrown _ _ _)))
  obtain ⟨i, hi, hz, hsize, hby⟩ := info_parts stringInfo'
  go_enter Tryz.func99, Tryz.ntmps99
  go_wp2
  go_loopw [2, 9] (KeysL ord w) (fun _ i _ => ord.length - (intOf i).toNat)
  case atStart => exact ⟨0, _, by omega, rfl, rfl, by simpa using World.ownsRow_nil _ _ _ _, hB0⟩
  case round =>
    clear hB0
    obtain ⟨k, v', hk, rfl, rfl, own, hB⟩ := hrel
    by_cases hlt : k < ord.length
    · obtain ⟨y, hy⟩ : ∃ x, ord[k]? = some x := ⟨_, List.getElem?_eq_getElem hlt⟩
      obtain ⟨g, o, cs, rfl, -, rfl, hc⟩ := (RdL.mono hr hB (fun _ _ _ h => h)).at_ (by omega) hy
      have e0 : wr.cell? ⟨g, o + k * 2, none⟩ = some (.string y.v) := hc 0 _ rfl
      have e1 : wr.cell? ⟨g, o + k * 2 + 1, none⟩ = some (.bool y.d) := hc 1 _ rfl
      have B2 : Below wr.heap.size wr ((wr.alloc (.cells #[.string y.v, .bool y.d] 66)).alloc (.cells #[.string y.v] 9)) := (by repeat (first | exact Below.refl _ _ | assumption | exact (Below.refl _ _).alloc (Nat.le_refl _) _ | refine below_tr ?_ (by assumption) | refine below_alloc ?_ | refine below_tr ?_ (below_regrown _ _ _)))
      have own2 := own_below own B2 (Nat.le_refl _)
      have R2 : Rd ((wr.alloc (.cells #[.string y.v, .bool y.d] 66)).alloc (.cells #[.string y.v] 9)) (some ⟨wr.heap.size + 1, 0, none⟩) [.string y.v] := Rd.of_block (heap_two_2 wr _ _) rfl
      have hbs : w.heap.size ≤ wr.heap.size := hB.size
      have B02 := Lib.hid (below_tr hB B2)
      have Hts := Lib.hid (take_snoc_of hy)
      clear hc hy hr own hB B2 hi hz hsize hby
      go_wp2_with (at_builtin; refine wpList_appG rfl rfl Tryz.underlying22 stringInfo' rfl (by omega) rfl own2 rfl R2 rfl (by intro u hu; simp at hu; subst hu; rfl) (by omega) (by omega) (by simp; omega) ?_; intro v5 w5 own5 hb5 _)
      go_roundw
      case rel => exact ⟨k + 1, v5, by omega, by go_num, rfl, by rw [Hts.out, List.map_append]; exact own5, B02.out.trans hb5⟩
      case measure => simp [intOf]; omega
    · have Hk2 : Hid (ord.take k = ord) := List.take_of_length_le (by omega)
      have hkl : k = ord.length := by omega
      obtain ⟨A1, d1, rfl, _, _⟩ := own_slice own
      subst hkl
      clear hr
      go_wp2
      go_ret
      refine ⟨_, rfl, ?_, hB⟩
      unfold keysN
      rw [List.length_map, List.map_map]
      have h := own
      rw [Hk2.out] at h
      exact h
def OverR (l : List ByteArray) (ask dist : Bool) (nv np nf nk : Nat) (a1 a2 a3 a4 : Option Addr) (c1 c2 c3 c4 : Nat) (lim off : Int) (w : World) (e : Ending) (w' : World) : Prop :=
  ∃ r, e = .returned (.agg #[.map (some r), .bool ask, .bool dist, .slice a1 nv c1, .slice a2 np c2, .slice a3 nf c3, .slice a4 nk c4, .int .i64 lim, .int .i64 off]) ∧ CntOf w' r (meetM [] l) ∧ w.heap.size ≤ r ∧ Below w.heap.size w w'
set_option maxRecDepth 20000 in
set_option maxHeartbeats 2000000 in
theorem cOver (l : List ByteArray) (A : Option Addr) (c : Nat) (ask dist : Bool) (nv np nf nk : Nat) (a1 a2 a3 a4 : Option Addr) (c1 c2 c3 c4 : Nat) (lim off : Int) (w : World) (hr : Rd w A (l.map Value.string)) (hl : l.length ≤ 1000000) :
    Calls Tryz.prog 97 #[.agg #[.bool ask, .bool dist, .slice a1 nv c1, .slice a2 np c2, .slice a3 nf c3, .slice a4 nk c4, .int .i64 lim, .int .i64 off], .slice A l.length c] w (OverR l ask dist nv np nf nk a1 a2 a3 a4 c1 c2 c3 c4 lim off w) := by
  have hmm := @run_makeMap Tryz.prog
  obtain ⟨W, hW⟩ : ∃ W : World, ((((w.alloc (.cells #[.bool ask, .bool dist, .slice a1 nv c1, .slice a2 np c2, .slice a3 nf c3, .slice a4 nk c4, .int .i64 lim, .int .i64 off] 27)).alloc (.cells #[.map none, .bool false, .bool false, .slice none 0 0, .slice none 0 0, .slice none 0 0, .slice none 0 0, .int .i64 0, .int .i64 0] 119)).alloc (.map #[] 0)).alloc (.cells #[.map (some (w.heap.size + 1 + 1)), .bool ask, .bool dist, .slice a1 nv c1, .slice a2 np c2, .slice a3 nf c3, .slice a4 nk c4, .int .i64 lim, .int .i64 off] 119)) = W := ⟨_, rfl⟩
  have hsz : W.heap.size = w.heap.size + 1 + 1 + 1 + 1 := by rw [← hW]; simp
  have hB : Below w.heap.size w W := by rw [← hW]; exact (by repeat (first | exact Below.refl _ _ | assumption | exact (Below.refl _ _).alloc (Nat.le_refl _) _ | refine below_tr ?_ (by assumption) | refine below_alloc ?_ | refine below_tr ?_ (below_regrown _ _ _)))
  have g1 : W.heap[w.heap.size + 1]? = some (.cells #[.map none, .bool false, .bool false, .slice none 0 0, .slice none 0 0, .slice none 0 0, .slice none 0 0, .int .i64 0, .int .i64 0] 119 (0, 0)) := by
    rw [← hW, Below.heap_alloc _ _ _ (by simp), Below.heap_alloc _ _ _ (by simp)]; exact heap_two_2 w _ _
  have g2 : W.heap[w.heap.size + 1 + 1]? = some (.map #[] 0) := by
    rw [← hW, Below.heap_alloc _ _ _ (by simp)]
    have := heap_alloc_new ((w.alloc (.cells #[.bool ask, .bool dist, .slice a1 nv c1, .slice a2 np c2, .slice a3 nf c3, .slice a4 nk c4, .int .i64 lim, .int .i64 off] 27)).alloc (.cells #[.map none, .bool false, .bool false, .slice none 0 0, .slice none 0 0, .slice none 0 0, .slice none 0 0, .int .i64 0, .int .i64 0] 119)) (.map #[] 0)
    simpa using this
  have g3 : W.heap[w.heap.size + 1 + 1 + 1]? = some (.cells #[.map (some (w.heap.size + 1 + 1)), .bool ask, .bool dist, .slice a1 nv c1, .slice a2 np c2, .slice a3 nf c3, .slice a4 nk c4, .int .i64 lim, .int .i64 off] 119 (0, 0)) := by
    rw [← hW]
    have := heap_alloc_new (((w.alloc (.cells #[.bool ask, .bool dist, .slice a1 nv c1, .slice a2 np c2, .slice a3 nf c3, .slice a4 nk c4, .int .i64 lim, .int .i64 off] 27)).alloc (.cells #[.map none, .bool false, .bool false, .slice none 0 0, .slice none 0 0, .slice none 0 0, .slice none 0 0, .int .i64 0, .int .i64 0] 119)).alloc (.map #[] 0)) (.cells #[.map (some (w.heap.size + 1 + 1)), .bool ask, .bool dist, .slice a1 nv c1, .slice a2 np c2, .slice a3 nf c3, .slice a4 nk c4, .int .i64 lim, .int .i64 off] 119)
    simpa using this
  have hq := cMeet (w.heap.size + 1 + 1) [] l A c W g2 (hr.later hB) hl (fun s => by simp [lookI])
  have hCi : (Tryz.prog.info? 119).map (·.size) = some 9 := by kernel_rfl
  have HW := Lib.hid hW
  clear hW
  go_enter Tryz.func97, Tryz.ntmps97
  go_wp2_with fail
  simp only [HW.out]
  clear hmm
  refine hq.mono ?_
  rintro e w1 ⟨rfl, hM1, hg1⟩
  have r1 := hg1.block (w.heap.size + 1) (by omega) (by simp)
  have r3 := hg1.block (w.heap.size + 1 + 1 + 1) (by omega) (by simp)
  rw [g1] at r1
  rw [g3] at r3
  have hc : ∀ i, w1.cell? ⟨w.heap.size + 1 + 1 + 1, i, none⟩ = #[Value.map (some (w.heap.size + 1 + 1)), .bool ask, .bool dist, .slice a1 nv c1, .slice a2 np c2, .slice a3 nf c3, .slice a4 nk c4, .int .i64 lim, .int .i64 off][i]? := fun i => by rw [World.cell?, r3]; rfl
  have k0 := hc 0
  have k1 := hc 1
  have k2 := hc 2
  have k3 := hc 3
  have k4 := hc 4
  have k5 := hc 5
  have k6 := hc 6
  have k7 := hc 7
  have k8 := hc 8
  simp at k0 k1 k2 k3 k4 k5 k6 k7 k8
  have Hr1 := Lib.hid r1
  have HM1 := Lib.hid hM1
  have hB1 : Below w.heap.size w w1 := hB.grown hg1 hB.size fun q e => by cases e; omega
  have HB1 := Lib.hid hB1
  clear hq g1 g2 g3 r1 r3 hc hr hM1 hg1 hB hB1
  go_wp2_with (refine wpList_store_row rfl 119 _ _ rfl rfl rfl hCi Hr1.out rfl rfl ?_)
  obtain ⟨F, hF⟩ : ∃ F : World, w1.setRow (w.heap.size + 1) #[.map (some (w.heap.size + 1 + 1)), .bool ask, .bool dist, .slice a1 nv c1, .slice a2 np c2, .slice a3 nf c3, .slice a4 nk c4, .int .i64 lim, .int .i64 off] = F := ⟨_, rfl⟩
  have hrow := setRow_heap w1 (w.heap.size + 1) _ #[.map (some (w.heap.size + 1 + 1)), .bool ask, .bool dist, .slice a1 nv c1, .slice a2 np c2, .slice a3 nf c3, .slice a4 nk c4, .int .i64 lim, .int .i64 off] 119 (0, 0) Hr1.out
  have hM2 : CntOf F (w.heap.size + 1 + 1) (meetM [] l) := by
    unfold CntOf; rw [← hF, setRow_other _ _ _ _ (by omega)]; exact HM1.out
  have BF : Below w.heap.size w F := by rw [← hF]; exact below_setRow HB1.out (by omega) _
  rw [hF] at hrow
  have hc : ∀ i, F.cell? ⟨w.heap.size + 1, i, none⟩ = #[Value.map (some (w.heap.size + 1 + 1)), .bool ask, .bool dist, .slice a1 nv c1, .slice a2 np c2, .slice a3 nf c3, .slice a4 nk c4, .int .i64 lim, .int .i64 off][i]? := fun i => by rw [World.cell?, hrow]; rfl
  have j0 := hc 0
  have j1 := hc 1
  have j2 := hc 2
  have j3 := hc 3
  have j4 := hc 4
  have j5 := hc 5
  have j6 := hc 6
  have j7 := hc 7
  have j8 := hc 8
  simp at j0 j1 j2 j3 j4 j5 j6 j7 j8
  simp only [hF]
  exact bodyPost_ret (v := .agg #[.map (some (w.heap.size + 1 + 1)), .bool ask, .bool dist, .slice a1 nv c1, .slice a2 np c2, .slice a3 nf c3, .slice a4 nk c4, .int .i64 lim, .int .i64 off]) (by simp [results, Tryz.results97, go_sem, j0, j1, j2, j3, j4, j5, j6, j7, j8]) rfl ⟨_, rfl, hM2, by omega, BF⟩
end Go.Proofs.YtafaanegkoolgaaGreatDoor
