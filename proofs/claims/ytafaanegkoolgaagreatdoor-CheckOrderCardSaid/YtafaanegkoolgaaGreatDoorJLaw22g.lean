/- Layer 22's law, walked: how great queries are. -/
import Derived.Test.YtafaanegkoolgaaGreatDoorJQRight4
namespace Go.Proofs.YtafaanegkoolgaaGreatDoor
open Go Go.RowKit Fm

def SomeZ (P : Bool → Prop) (w : World) (e : Ending) (w' : World) : Prop := ∃ b, e = .returned (.bool b) ∧ P b ∧ Below w.heap.size w w'
def Part22 (n : Nat) (x : ExT n) (deep : Int) (w : World) (e : Ending) (w' : World) : Prop := ∃ r : Int, e = .returned (.int .i64 r) ∧ 1 ≤ r ∧ r ≤ (62 - deep) * 401 ∧ (r ≤ 400 → ((preE n x).length : Int) ≤ r) ∧ Below w.heap.size w w'
def PartL (n : Nat) (kids : List (ExT n)) (deep : Int) (W : World) (nv i : Value) (wr : World) : Prop :=
  ∃ (j : Nat) (r : Int), j ≤ kids.length ∧ i = .int .i64 j ∧ nv = .int .i64 r ∧ 1 ≤ r ∧ r ≤ (62 - deep) * 401 ∧ (r ≤ 400 → 1 + (((kids.take j).flatMap (preE n)).length : Int) ≤ r) ∧ Below W.heap.size W wr
set_option maxRecDepth 10000 in
set_option maxHeartbeats 1000000 in
theorem law22Part (n : Nat) : ∀ (x : ExT n) (cs : List Value) (deep : Int) (w : World), 0 ≤ deep → deep ≤ 61 → RdE n w cs x → szE n x →
    Calls Tryz.prog 44 #[.agg cs.toArray, .int .i64 deep] w (Part22 n x deep w) := by
  induction n with
  | zero => intro x cs deep w _ _ h; exact h.elim
  | succ n ih =>
    rintro ⟨k, s, t, kids⟩ cs deep w hd0 hd1 ⟨A, c, rfl, hcap, hk⟩ ⟨hs1, hs2, hkl, hkz⟩
    have hkl' : (kids.length : Int) ≤ 1353245080300 := by omega
    have hpre : (preE (n + 1) (k, s, t, kids)).length = 1 + (kids.flatMap (preE n)).length := by rw [preE, List.length_cons]; omega
    have Hpre := Lib.hid hpre
    clear hpre
    by_cases h60 : 60 < deep
    · clear ih
      go_enter Tryz.func44, Tryz.ntmps44
      go_wp2
      go_ret
      exact ⟨401, rfl, by omega, by omega, fun h => by omega, (by repeat (first | exact Below.refl _ _ | assumption | exact (Below.refl _ _).alloc (Nat.le_refl _) _ | refine below_tr ?_ (by assumption) | refine below_alloc ?_ | refine below_tr ?_ (below_regrown _ _ _)))⟩
    · go_enter Tryz.func44, Tryz.ntmps44
      go_wp2
      obtain ⟨W, hW⟩ : ∃ W : World, w.alloc (.cells #[.int .i64 k, .string s, .int .i64 t.k, .string t.x, .string t.l, .string t.y, .slice A kids.length c] 38) = W := ⟨_, rfl⟩
      have hB0 : Below w.heap.size w W := by rw [← hW]; exact (by repeat (first | exact Below.refl _ _ | assumption | exact (Below.refl _ _).alloc (Nat.le_refl _) _ | refine below_tr ?_ (by assumption) | refine below_alloc ?_ | refine below_tr ?_ (below_regrown _ _ _)))
      have hz : W.heap.size = w.heap.size + 1 := by rw [← hW]; simp
      have hc6 : W.cell? ⟨w.heap.size, 6, none⟩ = some (.slice A kids.length c) := by rw [← hW, World.cell?, heap_alloc_new]; rfl
      have hkW := RdEs.later hk hB0
      simp only [hW]
      have HW := Lib.hid hW
      clear hW hk
      go_loopw [5, 6] (PartL n kids deep W) (fun _ i _ => kids.length - (intOf i).toNat)
      case atStart => exact ⟨0, 1, by omega, rfl, rfl, by omega, by omega, fun _ => by simp, Below.refl _ _⟩
      case round =>
        obtain ⟨j, r, hj, rfl, rfl, hr1, hr2, hr6, hB⟩ := hrel
        have Hr6 := Lib.hid hr6
        have hc := hB.cell (p := ⟨w.heap.size, 6, none⟩) (by simp; omega)
        rw [hc6] at hc
        have Hz := Lib.hid hz
        clear hz hc6 hr6
        by_cases hlt : j < kids.length
        · by_cases hr3 : r ≤ 400
          · obtain ⟨y, hy⟩ : ∃ y, kids[j]? = some y := ⟨_, List.getElem?_eq_getElem hlt⟩
            have hzy := hkz y (List.mem_of_getElem? hy)
            obtain ⟨g, o, u0, u1, u2, u3, u4, u5, u6, rfl, hR, c0, c1, c2, c3, c4, c5, c6⟩ := (RdEs.later hkW hB).at7 hy
            have Hft := Lib.hid (flat_take hy (preE n))
            clear hy
            have hih := ih y [u0, u1, u2, u3, u4, u5, u6] (deep + 1) wr (by omega) (by omega) hR hzy
            clear ih
            go_wp2_with (refine hih.mono ?_; rintro e w2 ⟨r2, rfl, hr4, hr5, hr7, hB2⟩)
            go_roundw
            case rel => exact ⟨j + 1, r + r2, by omega, by go_num, rfl, by omega, by omega, fun h => by
              have h1 := Hr6.out hr3
              have h2 := hr7 (by omega)
              have h3 := congrArg List.length Hft.out
              rw [List.length_append] at h3
              omega, below_tr hB hB2⟩
            case measure => simp [intOf]; omega
          · clear ih
            go_wp2
            go_ret
            exact ⟨r, rfl, by omega, by omega, fun h => by omega, below_tr hB0 hB⟩
        · clear ih
          have Hk2 : Hid (kids.take j = kids) := List.take_of_length_le (by omega)
          go_wp2
          go_ret
          exact ⟨r, rfl, by omega, by omega, fun h => by
            have h1 := Hr6.out h
            rw [Hk2.out] at h1
            rw [Hpre.out]
            omega, below_tr hB0 hB⟩

/-- How many things a query has, its conditions' parts besides. -/
def cntQ {n : Nat} (q : Qy n) : Nat := q.vars.length + q.pats.length + q.ord.length + q.fils.length
def allQ {n : Nat} (q : Qy n) : Nat := cntQ q + (q.fils.flatMap (preE n)).length
abbrev RdQs (n : Nat) (w : World) (A : Option Addr) (l : List (Qy n)) : Prop := RdL 8 (RdQ n w) w A l
theorem RdQ.later {n : Nat} {w w' : World} {cs : List Value} {q : Qy n} (h : RdQ n w cs q) (hb : Below w.heap.size w w') : RdQ n w' cs q := by
  obtain ⟨a1, a2, a3, a4, c1, c2, c3, c4, h0, hc, h1, h2, h3, h4⟩ := h
  exact ⟨a1, a2, a3, a4, c1, c2, c3, c4, h0, hc, h1.later hb, RdL.mono h2 hb (fun _ _ _ h => h), RdEs.later h3 hb, RdL.mono h4 hb (fun _ _ _ h => h)⟩
theorem RdQs.later {n : Nat} {w w' : World} {A : Option Addr} {l : List (Qy n)} (h : RdQs n w A l) (hb : Below w.heap.size w w') : RdQs n w' A l := RdL.mono h hb fun _ _ _ h => h.later hb
/-- A query's lists are no longer than memory may hold. -/
def szL {n : Nat} (q : Qy n) : Prop := q.vars.length ≤ 281474976710656 ∧ q.pats.length ≤ 281474976710656 ∧ q.fils.length ≤ 1353245080300 ∧ q.ord.length ≤ 281474976710656 ∧ ∀ x ∈ q.fils, szE n x
def Great0 {n : Nat} (qs : List (Qy n)) (w : World) (nv i : Value) (wr : World) : Prop :=
  ∃ (j : Nat) (r : Int), j ≤ qs.length ∧ i = .int .i64 j ∧ nv = .int .i64 r ∧ 0 ≤ r ∧ r ≤ 3000000000000000 * ((j : Int) + 1) ∧ (r ≤ 400 → (((qs.take j).map allQ).sum : Int) ≤ r) ∧ Below w.heap.size w wr
def Great1 {n : Nat} (qs : List (Qy n)) (q : Qy n) (j : Nat) (W : World) (nv i : Value) (wr : World) : Prop :=
  ∃ (k : Nat) (r : Int), k ≤ q.fils.length ∧ i = .int .i64 k ∧ nv = .int .i64 r ∧ 0 ≤ r ∧ r ≤ 3000000000000000 * ((j : Int) + 1) + 2900000000000000 ∧ (r ≤ 400 → (((qs.take j).map allQ).sum : Int) + cntQ q + ((q.fils.take k).flatMap (preE n)).length ≤ r) ∧ Below W.heap.size W wr
theorem sum_take {n : Nat} {qs : List (Qy n)} {j : Nat} {q : Qy n} (h : qs[j]? = some q) : ((qs.take (j + 1)).map allQ).sum = ((qs.take j).map allQ).sum + allQ q := by
  rw [take_snoc_of h, List.map_append, List.sum_append]; simp
def GreatP {n : Nat} (qs : List (Qy n)) (b : Bool) : Prop := b = false → (qs.map allQ).sum ≤ 400
set_option maxRecDepth 20000 in
set_option maxHeartbeats 2000000 in
theorem law22Great (n : Nat) (qs : List (Qy n)) (A : Option Addr) (c : Nat) (w : World) (hr : RdQs n w A qs) (hl : qs.length ≤ 100) (hz : ∀ q ∈ qs, szL q) :
    Calls Tryz.prog 10 #[.slice none 0 0, .slice A qs.length c] w (SomeZ (GreatP qs) w) := by
  have hl' : (qs.length : Int) ≤ 100 := by omega
  go_enter Tryz.func10, Tryz.ntmps10
  go_wp2
  go_loopw [5, 6] (fun nv i wr => nv = .int .i64 0 ∧ i = .int .i64 0 ∧ w = wr) (fun _ _ _ => 0)
  case atStart => exact ⟨rfl, rfl, rfl⟩
  case round =>
    obtain ⟨rfl, rfl, rfl⟩ := hrel
    go_wp2
    go_loopw [5, 7] (Great0 qs w) (fun _ i _ => qs.length - (intOf i).toNat)
    case atStart => exact ⟨0, 0, by omega, rfl, rfl, by omega, by omega, fun _ => by simp, Below.refl _ _⟩
    case round =>
      obtain ⟨j, r, hj, rfl, rfl, hr1, hr2, hr6, hB⟩ := hrel
      have Hr6 := Lib.hid hr6
      clear hr6
      by_cases hlt : j < qs.length
      · by_cases hr3 : r ≤ 400
        · obtain ⟨q, hy⟩ : ∃ y, qs[j]? = some y := ⟨_, List.getElem?_eq_getElem hlt⟩
          have hzy := hz q (List.mem_of_getElem? hy)
          obtain ⟨g, o, cs, rfl, -, ⟨a1, a2, a3, a4, d1, d2, d3, d4, rfl, ⟨e1, e2, e3, e4⟩, h1, h2, h3, h4⟩, hx⟩ := (RdQs.later hr hB).at_ (by omega) hy
          have c0 : wr.cell? ⟨g, o + j * 8, none⟩ = some (.bool q.ask) := hx 0 _ rfl
          have c1 : wr.cell? ⟨g, o + j * 8 + 1, none⟩ = some (.bool q.dist) := hx 1 _ rfl
          have c2 : wr.cell? ⟨g, o + j * 8 + 2, none⟩ = some (.slice a1 q.vars.length d1) := hx 2 _ rfl
          have c3 : wr.cell? ⟨g, o + j * 8 + 3, none⟩ = some (.slice a2 q.pats.length d2) := hx 3 _ rfl
          have c4 : wr.cell? ⟨g, o + j * 8 + 4, none⟩ = some (.slice a3 q.fils.length d3) := hx 4 _ rfl
          have c5 : wr.cell? ⟨g, o + j * 8 + 5, none⟩ = some (.slice a4 q.ord.length d4) := hx 5 _ rfl
          have c6 : wr.cell? ⟨g, o + j * 8 + 6, none⟩ = some (.int .i64 q.lim) := hx 6 _ rfl
          have c7 : wr.cell? ⟨g, o + j * 8 + 7, none⟩ = some (.int .i64 q.off) := hx 7 _ rfl
          have Hst := Lib.hid (sum_take hy)
          obtain ⟨z1, z2, z3, z4, z5⟩ := hzy
          have z1' : (q.vars.length : Int) ≤ 281474976710656 := by omega
          have z2' : (q.pats.length : Int) ≤ 281474976710656 := by omega
          have z3' : (q.fils.length : Int) ≤ 1353245080300 := by omega
          have z4' : (q.ord.length : Int) ≤ 281474976710656 := by omega
          have hcnt : (cntQ q : Int) = q.vars.length + q.pats.length + q.ord.length + q.fils.length := by unfold cntQ; omega
          have Hcnt := Lib.hid hcnt
          clear hx hy h1 h2 h4 hcnt
          go_wp2
          obtain ⟨W, hW⟩ : ∃ W : World, wr.alloc (.cells #[.bool q.ask, .bool q.dist, .slice a1 q.vars.length d1, .slice a2 q.pats.length d2, .slice a3 q.fils.length d3, .slice a4 q.ord.length d4, .int .i64 q.lim, .int .i64 q.off] 27) = W := ⟨_, rfl⟩
          have hB0 : Below wr.heap.size wr W := by rw [← hW]; exact (by repeat (first | exact Below.refl _ _ | assumption | exact (Below.refl _ _).alloc (Nat.le_refl _) _ | refine below_tr ?_ (by assumption) | refine below_alloc ?_ | refine below_tr ?_ (below_regrown _ _ _)))
          have hzw : wr.heap.size < W.heap.size := by rw [← hW]; simp
          have b4 : W.cell? ⟨wr.heap.size, 4, none⟩ = some (.slice a3 q.fils.length d3) := by rw [← hW, World.cell?, heap_alloc_new]; rfl
          have hkW := RdEs.later h3 hB0
          simp only [hW]
          have HW := Lib.hid hW
          clear hW h3
          go_loopw [5, 9] (Great1 qs q j W) (fun _ i _ => q.fils.length - (intOf i).toNat)
          case atStart => exact ⟨0, _, by omega, rfl, rfl, by omega, by omega, fun h => by
            have h1 := Hr6.out hr3
            have h2 := Hcnt.out
            simp only [List.take_zero, List.flatMap_nil, List.length_nil]
            omega, Below.refl _ _⟩
          case round =>
            obtain ⟨k, r', hk, rfl, rfl, hr1', hr2', hr6', hB1⟩ := hrel
            have Hr6' := Lib.hid hr6'
            clear hr6'
            have b4' := cell_on b4 hB1
            have HB := Lib.hid (below_tr hB (below_tr hB0 hB1))
            have hzw' := Nat.lt_of_lt_of_le hzw hB1.size
            clear b4
            by_cases hkl : k < q.fils.length
            · by_cases hr4 : r' ≤ 400
              · obtain ⟨y, hy⟩ : ∃ y, q.fils[k]? = some y := ⟨_, List.getElem?_eq_getElem hkl⟩
                have hzy := z5 y (List.mem_of_getElem? hy)
                obtain ⟨g1, o1, u0, u1, u2, u3, u4, u5, u6, rfl, hR, x0, x1, x2, x3, x4, x5, x6⟩ := (RdEs.later hkW hB1).at7 hy
                have Hft := Lib.hid (flat_take hy (preE n))
                clear hy
                have hih := law22Part n y [u0, u1, u2, u3, u4, u5, u6] 0 wr (by omega) (by omega) hR hzy
                have HB1 := Lib.hid hB1
                clear hB1 hB hB0 hzy
                go_wp2_with (refine hih.mono ?_; rintro e w2 ⟨r2, rfl, hr5, hr7, hr8, hB2⟩)
                go_roundw
                case rel => exact ⟨k + 1, r' + r2, by omega, by go_num, rfl, by omega, by omega, fun h => by
                  have h1 := Hr6'.out hr4
                  have h2 := hr8 (by omega)
                  have h3 := congrArg List.length Hft.out
                  rw [List.length_append] at h3
                  omega, below_tr HB1.out hB2⟩
                case measure => simp [intOf]; omega
              · clear hB1 hB hB0
                go_wp2
                go_roundw
                case rel => exact ⟨j + 1, r', by omega, by go_num, rfl, by omega, by omega, fun h => by omega, HB.out⟩
                case measure => simp [intOf]; omega
            · have Hk2 : Hid (q.fils.take k = q.fils) := List.take_of_length_le (by omega)
              clear hB1 hB hB0
              go_wp2
              all_goals
                go_roundw
                case rel => exact ⟨j + 1, r', by omega, by go_num, rfl, by omega, by omega, fun h => by
                  have h1 := Hr6'.out h
                  rw [Hk2.out] at h1
                  have h2 : allQ q = cntQ q + (q.fils.flatMap (preE n)).length := rfl
                  rw [Hst.out, h2]
                  omega, HB.out⟩
                case measure => simp [intOf]; omega
        · go_wp2
          go_ret
          exact ⟨true, rfl, fun h => (by cases h), hB⟩
      · have Hk2 : Hid (qs.take j = qs) := List.take_of_length_le (by omega)
        by_cases hr3 : 400 < r
        · go_wp2
          go_ret
          exact ⟨true, rfl, fun h => (by cases h), hB⟩
        · go_wp2
          go_ret
          exact ⟨false, rfl, fun _ => by
            have h1 := Hr6.out (by omega)
            rw [Hk2.out] at h1
            omega, hB⟩
end Go.Proofs.YtafaanegkoolgaaGreatDoor
