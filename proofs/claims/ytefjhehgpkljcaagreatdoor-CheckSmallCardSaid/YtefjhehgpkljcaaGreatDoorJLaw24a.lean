/- Layer 24's law, walked: how great a query is, whether a text is one of some, small queries. -/
import Derived.Test.YtefjhehgpkljcaaGreatDoorJLaw22b
import Derived.Test.YtefjhehgpkljcaaGreatDoorJChk8
namespace Go.Proofs.YtefjhehgpkljcaaGreatDoor
open Go Go.RowKit Um Fm Mt

set_option maxRecDepth 10000 in
set_option maxHeartbeats 1000000 in
theorem law24Part (n : Nat) : ∀ (x : ExT n) (cs : List Value) (deep : Int) (w : World), 0 ≤ deep → deep ≤ 61 → RdE n w cs x → szE n x →
    Calls Tryz.prog 55 #[.agg cs.toArray, .int .i64 deep] w (Part22 n x deep w) := by
  induction n with
  | zero => intro x cs deep w _ _ h; exact h.elim
  | succ n ih =>
    rintro ⟨k, s, t, kids⟩ cs deep w hd0 hd1 ⟨A, c, rfl, hcap, hk⟩ ⟨hs1, hs2, hkl, hkz⟩
    have hkl' : (kids.length : Int) ≤ 1353245080300 := by omega
    have hpre : (preE (n + 1) (k, s, t, kids)).length = 1 + (kids.flatMap (preE n)).length := by rw [preE, List.length_cons]; omega
    have Hpre := Lib.hid hpre
    clear hpre
    by_cases h60 : 60 < deep
    · clear ih
      go_enter Tryz.func55, Tryz.ntmps55
      go_wp2
      go_ret
      exact ⟨401, rfl, by omega, by omega, fun h => by omega, (by repeat (first | exact Below.refl _ _ | assumption | exact (Below.refl _ _).alloc (Nat.le_refl _) _ | refine below_tr ?_ (by assumption) | refine below_alloc ?_ | refine below_tr ?_ (below_regrown _ _ _)))⟩
    · go_enter Tryz.func55, Tryz.ntmps55
      go_wp2
      obtain ⟨W, hW⟩ : ∃ W : World, w.alloc (.cells #[.int .i64 k, .string s, .int .i64 t.k, .string t.x, .string t.l, .string t.y, .slice A kids.length c] 31) = W := ⟨_, rfl⟩
      have hB0 : Below w.heap.size w W := by rw [← hW]; exact (by repeat (first | exact Below.refl _ _ | assumption | exact (Below.refl _ _).alloc (Nat.le_refl _) _ | refine below_tr ?_ (by assumption) | refine below_alloc ?_ | refine below_tr ?_ (below_regrown _ _ _)))
      have hz : W.heap.size = w.heap.size + 1 := by rw [← hW]; simp
      have hc6 : W.cell? ⟨w.heap.size, 6, none⟩ = some (.slice A kids.length c) := by rw [← hW, World.cell?, heap_alloc_new]; rfl
      have hkW := RdEs.later hk hB0
      simp only [hW]
      have HW := Lib.hid hW
      clear hW hk
      go_loopw [5, 6] (PartL n kids deep W) (fun _ i _ => kids.length - (intOf i).toNat)
      case atStart => exact ⟨0, 1, by omega, rfl, rfl, by omega, by omega, fun _ => by simp, Below.refl _ _⟩
      case round =>
        obtain ⟨j, r, hj, rfl, rfl, hr1, hr2, hr6, hB⟩ := hrel
        have Hr6 := Lib.hid hr6
        have hc := hB.cell (p := ⟨w.heap.size, 6, none⟩) (by simp; omega)
        rw [hc6] at hc
        have Hz := Lib.hid hz
        clear hz hc6 hr6
        by_cases hlt : j < kids.length
        · by_cases hr3 : r ≤ 400
          · obtain ⟨y, hy⟩ : ∃ y, kids[j]? = some y := ⟨_, List.getElem?_eq_getElem hlt⟩
            have hzy := hkz y (List.mem_of_getElem? hy)
            obtain ⟨g, o, u0, u1, u2, u3, u4, u5, u6, rfl, hR, c0, c1, c2, c3, c4, c5, c6⟩ := (RdEs.later hkW hB).at7 hy
            have Hft := Lib.hid (flat_take hy (preE n))
            clear hy
            have hih := ih y [u0, u1, u2, u3, u4, u5, u6] (deep + 1) wr (by omega) (by omega) hR hzy
            clear ih
            go_wp2_with (refine hih.mono ?_; rintro e w2 ⟨r2, rfl, hr4, hr5, hr7, hB2⟩)
            go_roundw
            case rel => exact ⟨j + 1, r + r2, by omega, by go_num, rfl, by omega, by omega, fun h => by
              have h1 := Hr6.out hr3
              have h2 := hr7 (by omega)
              have h3 := congrArg List.length Hft.out
              rw [List.length_append] at h3
              omega, below_tr hB hB2⟩
            case measure => simp [intOf]; omega
          · clear ih
            go_wp2
            go_ret
            exact ⟨r, rfl, by omega, by omega, fun h => by omega, below_tr hB0 hB⟩
        · clear ih
          have Hk2 : Hid (kids.take j = kids) := List.take_of_length_le (by omega)
          go_wp2
          go_ret
          exact ⟨r, rfl, by omega, by omega, fun h => by
            have h1 := Hr6.out h
            rw [Hk2.out] at h1
            rw [Hpre.out]
            omega, below_tr hB0 hB⟩

theorem hasS_cons24 (a : ByteArray) (l : List ByteArray) (s : ByteArray) : hasS (a :: l) s = ((a.toList == s.toList) || hasS l s) := by
  rw [Bool.eq_iff_iff, Bool.or_eq_true, hasS_iff, hasS_iff, Lib.bytes_beq_iff, List.mem_cons]
  constructor
  · rintro (h | h)
    · exact .inl h.symm
    · exact .inr h
  · rintro (h | h)
    · exact .inl h.symm
    · exact .inr h
/-- A query's things, its conditions' parts besides, are few enough. -/
def GreatB {n : Nat} (q : Qy n) (b : Bool) : Prop := b = false → allQ q ≤ 400
def Great24 {n : Nat} (q : Qy n) (W : World) (nv i : Value) (wr : World) : Prop :=
  ∃ (k : Nat) (r : Int), k ≤ q.fils.length ∧ i = .int .i64 k ∧ nv = .int .i64 r ∧ 0 ≤ r ∧ r ≤ 3000000000000000 ∧ (r ≤ 400 → (cntQ q : Int) + ((q.fils.take k).flatMap (preE n)).length ≤ r) ∧ Below W.heap.size W wr
set_option maxRecDepth 20000 in
set_option maxHeartbeats 2000000 in
theorem law24Great (n : Nat) (q : Qy n) (a1 a2 a3 a4 : Option Addr) (c1 c2 c3 c4 : Nat) (w : World) (hr : RdEs n w a3 q.fils) (hz : szL q) :
    Calls Tryz.prog 11 #[.agg #[.bool q.ask, .bool q.dist, .slice a1 q.vars.length c1, .slice a2 q.pats.length c2, .slice a3 q.fils.length c3, .slice a4 q.ord.length c4, .int .i64 q.lim, .int .i64 q.off]] w (SomeZ (GreatB q) w) := by
  obtain ⟨z1, z2, z3, z4, z5⟩ := hz
  have z1' : (q.vars.length : Int) ≤ 281474976710656 := by omega
  have z2' : (q.pats.length : Int) ≤ 281474976710656 := by omega
  have z3' : (q.fils.length : Int) ≤ 1353245080300 := by omega
  have z4' : (q.ord.length : Int) ≤ 281474976710656 := by omega
  have hcnt : (cntQ q : Int) = q.vars.length + q.pats.length + q.ord.length + q.fils.length := by unfold cntQ; omega
  have Hcnt := Lib.hid hcnt
  obtain ⟨W, hW⟩ : ∃ W : World, w.alloc (.cells #[.bool q.ask, .bool q.dist, .slice a1 q.vars.length c1, .slice a2 q.pats.length c2, .slice a3 q.fils.length c3, .slice a4 q.ord.length c4, .int .i64 q.lim, .int .i64 q.off] 40) = W := ⟨_, rfl⟩
  have hB0 : Below w.heap.size w W := by rw [← hW]; exact (by repeat (first | exact Below.refl _ _ | assumption | exact (Below.refl _ _).alloc (Nat.le_refl _) _ | refine below_tr ?_ (by assumption) | refine below_alloc ?_ | refine below_tr ?_ (below_regrown _ _ _)))
  have b0 : W.cell? ⟨w.heap.size, 0, none⟩ = some (.bool q.ask) := by rw [← hW, World.cell?, heap_alloc_new]; rfl
  have b1 : W.cell? ⟨w.heap.size, 1, none⟩ = some (.bool q.dist) := by rw [← hW, World.cell?, heap_alloc_new]; rfl
  have b2 : W.cell? ⟨w.heap.size, 2, none⟩ = some (.slice a1 q.vars.length c1) := by rw [← hW, World.cell?, heap_alloc_new]; rfl
  have b3 : W.cell? ⟨w.heap.size, 3, none⟩ = some (.slice a2 q.pats.length c2) := by rw [← hW, World.cell?, heap_alloc_new]; rfl
  have b4 : W.cell? ⟨w.heap.size, 4, none⟩ = some (.slice a3 q.fils.length c3) := by rw [← hW, World.cell?, heap_alloc_new]; rfl
  have b5 : W.cell? ⟨w.heap.size, 5, none⟩ = some (.slice a4 q.ord.length c4) := by rw [← hW, World.cell?, heap_alloc_new]; rfl
  have b6 : W.cell? ⟨w.heap.size, 6, none⟩ = some (.int .i64 q.lim) := by rw [← hW, World.cell?, heap_alloc_new]; rfl
  have b7 : W.cell? ⟨w.heap.size, 7, none⟩ = some (.int .i64 q.off) := by rw [← hW, World.cell?, heap_alloc_new]; rfl
  have hkW := RdEs.later hr hB0
  have HW := Lib.hid hW
  have HB0 := Lib.hid hB0
  have hzw : w.heap.size < W.heap.size := cell_lt b0
  clear hW hcnt hr hB0
  go_enter Tryz.func11, Tryz.ntmps11
  go_wp2_with fail
  simp only [HW.out]
  go_wp2
  go_loopw [3, 4] (Great24 q W) (fun _ i _ => q.fils.length - (intOf i).toNat)
  case atStart => exact ⟨0, _, by omega, rfl, rfl, by omega, by omega, fun _ => by
    have h2 := Hcnt.out
    simp only [List.take_zero, List.flatMap_nil, List.length_nil]
    omega, Below.refl _ _⟩
  case round =>
    obtain ⟨k, r', hk, rfl, rfl, hr1', hr2', hr6', hB1⟩ := hrel
    have Hr6' := Lib.hid hr6'
    clear hr6'
    have b4' := cell_on b4 hB1
    have HB := Lib.hid (below_tr HB0.out hB1)
    have hzw' := Nat.lt_of_lt_of_le hzw hB1.size
    clear b0 b1 b2 b3 b4 b5 b6 b7
    by_cases hkl : k < q.fils.length
    · by_cases hr4 : r' ≤ 400
      · obtain ⟨y, hy⟩ : ∃ y, q.fils[k]? = some y := ⟨_, List.getElem?_eq_getElem hkl⟩
        have hzy := z5 y (List.mem_of_getElem? hy)
        obtain ⟨g1, o1, u0, u1, u2, u3, u4, u5, u6, rfl, hR, x0, x1, x2, x3, x4, x5, x6⟩ := (RdEs.later hkW hB1).at7 hy
        have Hft := Lib.hid (flat_take hy (preE n))
        clear hy
        have hih := law24Part n y [u0, u1, u2, u3, u4, u5, u6] 0 wr (by omega) (by omega) hR hzy
        have HB1 := Lib.hid hB1
        clear hB1 hzy
        go_wp2_with (refine hih.mono ?_; rintro e w2 ⟨r2, rfl, hr5, hr7, hr8, hB2⟩)
        go_roundw
        case rel => exact ⟨k + 1, r' + r2, by omega, by go_num, rfl, by omega, by omega, fun h => by
          have h1 := Hr6'.out hr4
          have h2 := hr8 (by omega)
          have h3 := congrArg List.length Hft.out
          rw [List.length_append] at h3
          omega, below_tr HB1.out hB2⟩
        case measure => simp [intOf]; omega
      · clear hB1
        go_wp2
        go_ret
        exact ⟨true, by go_num, fun h => (by cases h), HB.out⟩
    · have Hk2 : Hid (q.fils.take k = q.fils) := List.take_of_length_le (by omega)
      clear hB1
      by_cases hr4 : r' ≤ 400
      · go_wp2
        all_goals
          go_ret
          exact ⟨false, by go_num, fun _ => by
            have h1 := Hr6'.out hr4
            rw [Hk2.out] at h1
            have h2 : allQ q = cntQ q + (q.fils.flatMap (preE n)).length := rfl
            omega, HB.out⟩
      · go_wp2
        all_goals
          go_ret
          exact ⟨true, by go_num, fun h => (by cases h), HB.out⟩

theorem l24Free (s : ByteArray) (w : World) : Calls Tryz.prog 26 #[.string s] w fun e w' => e = .returned (.agg #[.string s, .int .i64 0, .string ⟨#[]⟩, .string ⟨#[]⟩, .string ⟨#[]⟩]) ∧ Below w.heap.size w w' := by
  go_enter Tryz.func26, Tryz.ntmps26
  go_wp2
  exact bodyPost_ret (v := .agg #[.string s, .int .i64 0, .string ⟨#[]⟩, .string ⟨#[]⟩, .string ⟨#[]⟩]) (by simp [results, Tryz.results26, go_sem]) rfl ⟨rfl, (by repeat (first | exact Below.refl _ _ | assumption | exact (Below.refl _ _).alloc (Nat.le_refl _) _ | refine below_tr ?_ (by assumption) | refine below_alloc ?_ | refine below_tr ?_ (below_regrown _ _ _)))⟩
theorem l24Leaf (s : ByteArray) (w : World) : Calls Tryz.prog 27 #[.string s] w fun e w' => e = .returned (.agg #[.int .i64 1, .string s, .int .i64 0, .string ⟨#[]⟩, .string ⟨#[]⟩, .string ⟨#[]⟩, .slice none 0 0]) ∧ Below w.heap.size w w' := by
  go_enter Tryz.func27, Tryz.ntmps27
  go_wp2
  exact bodyPost_ret (v := .agg #[.int .i64 1, .string s, .int .i64 0, .string ⟨#[]⟩, .string ⟨#[]⟩, .string ⟨#[]⟩, .slice none 0 0]) (by simp [results, Tryz.results27, go_sem]) rfl ⟨rfl, (by repeat (first | exact Below.refl _ _ | assumption | exact (Below.refl _ _).alloc (Nat.le_refl _) _ | refine below_tr ?_ (by assumption) | refine below_alloc ?_ | refine below_tr ?_ (below_regrown _ _ _)))⟩
def ofP : List Pat := [⟨⟨sy, zTm⟩, ⟨sz, zTm⟩, ⟨sz, zTm⟩⟩]
def OfR (v : Value) (w : World) (e : Ending) (w' : World) : Prop := ∃ P, e = .returned (.agg #[.bool false, .bool false, v, .slice (some ⟨P, 0, none⟩) 1 1, .slice none 0 0, .slice none 0 0, .int .i64 (-1), .int .i64 0]) ∧ RdPat w' (some ⟨P, 0, none⟩) ofP ∧ Below w.heap.size w w'
set_option maxRecDepth 100000 in
set_option maxHeartbeats 4000000 in
theorem l24Of (A : Option Addr) (n c : Nat) (w : World) : Calls Tryz.prog 56 #[.slice A n c] w (OfR (.slice A n c) w) := by
  go_enter Tryz.func56, Tryz.ntmps56
  go_wp2_with fail
  refine (l24Free _ _).mono ?_
  rintro e w1 ⟨rfl, b1⟩
  go_wp2_with fail
  refine (l24Free _ _).mono ?_
  rintro e w2 ⟨rfl, b2⟩
  go_wp2_with fail
  refine (l24Free _ _).mono ?_
  rintro e w3 ⟨rfl, b3⟩
  have z0 : w.heap.size < (w.alloc (.cells #[.bool false, .bool false, .slice none 0 0, .slice none 0 0, .slice none 0 0, .slice none 0 0, .int .i64 0, .int .i64 0] 40)).heap.size := by simp
  have B3 := below_tr b1 (below_tr b2 b3)
  have hz3 : w.heap.size < w3.heap.size := Nat.lt_of_lt_of_le z0 B3.size
  obtain ⟨V, hV⟩ : ∃ V : World, w3.alloc (.cells #[.string ⟨#[121]⟩, .int .i64 0, .string ⟨#[]⟩, .string ⟨#[]⟩, .string ⟨#[]⟩, .string ⟨#[122]⟩, .int .i64 0, .string ⟨#[]⟩, .string ⟨#[]⟩, .string ⟨#[]⟩, .string ⟨#[122]⟩, .int .i64 0, .string ⟨#[]⟩, .string ⟨#[]⟩, .string ⟨#[]⟩] 58) = V := ⟨_, rfl⟩
  have v3 : Below w3.heap.size w3 V := by rw [← hV]; exact (by repeat (first | exact Below.refl _ _ | assumption | exact (Below.refl _ _).alloc (Nat.le_refl _) _ | refine below_tr ?_ (by assumption) | refine below_alloc ?_ | refine below_tr ?_ (below_regrown _ _ _)))
  have v0 : V.heap[w3.heap.size]? = some (.cells #[.string ⟨#[121]⟩, .int .i64 0, .string ⟨#[]⟩, .string ⟨#[]⟩, .string ⟨#[]⟩, .string ⟨#[122]⟩, .int .i64 0, .string ⟨#[]⟩, .string ⟨#[]⟩, .string ⟨#[]⟩, .string ⟨#[122]⟩, .int .i64 0, .string ⟨#[]⟩, .string ⟨#[]⟩, .string ⟨#[]⟩] 58 (0, 0)) := by rw [← hV]; exact heap_alloc_new _ _
  have hrow : V.heap[w.heap.size]? = some (.cells #[.bool false, .bool false, .slice none 0 0, .slice none 0 0, .slice none 0 0, .slice none 0 0, .int .i64 0, .int .i64 0] 40 (0, 0)) := by
    rw [v3.block _ hz3, B3.block _ z0]; exact heap_alloc_new _ _
  have hQi : (Tryz.prog.info? 40).map (·.size) = some 8 := by kernel_rfl
  have HV := Lib.hid hV
  have Hrow := Lib.hid hrow
  have B03 : Below w.heap.size w V := (((Below.refl w.heap.size w).alloc (Nat.le_refl _) _).trans (B3.mono (Nat.le_of_lt z0))).trans (v3.mono (Nat.le_of_lt hz3))
  clear hV b1 b2 b3 B3 v3 hrow
  go_wp2_with (rw [HV.out]; refine wpList_store_row rfl 40 _ _ rfl rfl rfl hQi Hrow.out rfl rfl ?_)
  obtain ⟨F, hF⟩ : ∃ F : World, V.setRow w.heap.size #[.bool false, .bool false, .slice A n c, .slice (some ⟨w3.heap.size, 0, none⟩) 1 1, .slice none 0 0, .slice none 0 0, .int .i64 (-1), .int .i64 0] = F := ⟨_, rfl⟩
  have BF : Below w.heap.size w F := by rw [← hF]; exact below_setRow B03 (Nat.le_refl _) _
  have R0 := rd_row (g := w.heap.size) (vs := #[.bool false, .bool false, .slice A n c, .slice (some ⟨w3.heap.size, 0, none⟩) 1 1, .slice none 0 0, .slice none 0 0, .int .i64 (-1), .int .i64 0]) (Rd.of_block v0 rfl) (fun a ha => by cases ha; simp; omega)
  rw [hF] at R0
  have hrowF : F.heap[w.heap.size]? = some (.cells #[.bool false, .bool false, .slice A n c, .slice (some ⟨w3.heap.size, 0, none⟩) 1 1, .slice none 0 0, .slice none 0 0, .int .i64 (-1), .int .i64 0] 40 (0, 0)) := by
    rw [← hF]; exact setRow_heap _ _ _ _ _ _ Hrow.out
  have hc : ∀ i, F.cell? ⟨w.heap.size, i, none⟩ = (#[.bool false, .bool false, .slice A n c, .slice (some ⟨w3.heap.size, 0, none⟩) 1 1, .slice none 0 0, .slice none 0 0, .int .i64 (-1), .int .i64 0] : Array Value)[i]? := fun i => by rw [World.cell?, hrowF]; rfl
  have c0 := hc 0
  have c1 := hc 1
  have c2 := hc 2
  have c3 := hc 3
  have c4 := hc 4
  have c5 := hc 5
  have c6 := hc 6
  have c7 := hc 7
  simp at c0 c1 c2 c3 c4 c5 c6 c7
  have R1 : RdPat F (some ⟨w3.heap.size, 0, none⟩) ofP := ⟨_, R0, All.one rfl rfl⟩
  simp only [hF]
  exact bodyPost_ret (v := .agg #[.bool false, .bool false, .slice A n c, .slice (some ⟨w3.heap.size, 0, none⟩) 1 1, .slice none 0 0, .slice none 0 0, .int .i64 (-1), .int .i64 0]) (by simp [results, Tryz.results56, go_sem, c0, c1, c2, c3, c4, c5, c6, c7]) rfl ⟨_, rfl, R1, BF⟩
end Go.Proofs.YtefjhehgpkljcaaGreatDoor
