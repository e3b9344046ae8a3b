/- The answer for filter (ossuaryref25): Of, Keeps. -/
import Derived.Test.YtfijpdmkdoccjaaGreatDoorJAppG
namespace Go.Proofs.YtfijpdmkdoccjaaGreatDoor
open Go Go.RowKit Fm

def szRow (row : List Tm) : Prop := ∀ u ∈ row, u.x.size ≤ 281474976710656
theorem termP_sz {vars : List ByteArray} {row : List Tm} {k : Int} {s : ByteArray} {t : Tm} {b : Bool} {u : Tm} (hz : szRow row) (ht : t.x.size ≤ 281474976710656) (h : termP vars row k s t b = some u) : u.x.size ≤ 281474976710656 := by
  unfold termP at h
  repeat' split at h
  all_goals (first | (injection h with h; subst h; exact ht) | cases h | exact hz u (List.mem_of_getElem? h))
theorem termOf_rd25 {vars : List ByteArray} {row : List Tm} {n : Nat} {w : World} {k : Int} {s : ByteArray} {t : Tm} {A : Option Addr} {m c : Nat} {x : ExT n} (h : RdE n w [.int .i64 k, .string s, .int .i64 t.k, .string t.x, .string t.l, .string t.y, .slice A m c] x) :
    termOf vars row n x = termP vars row k s t (m == 0) ∧ (szE n x → t.x.size ≤ 281474976710656 ∧ m ≤ 281474976710656) := by
  match n, x, h with
  | n + 1, (k', s', t', kids), ⟨A', c', he, hc, hk⟩ =>
    injection he with e0 he
    injection he with e1 he
    injection he with e2 he
    injection he with e3 he
    injection he with e4 he
    injection he with e5 he
    injection he with e6 he
    injection e0 with _ e0
    injection e1 with e1
    injection e2 with _ e2
    injection e3 with e3
    injection e4 with e4
    injection e5 with e5
    injection e6 with e6 e7 e8
    obtain ⟨tk, tx, tl, ty⟩ := t
    obtain ⟨tk', tx', tl', ty'⟩ := t'
    simp only at e2 e3 e4 e5
    subst e0 e1 e2 e3 e4 e5 e7
    refine ⟨?_, fun hz => ⟨by have := hz.2.1; simp only at this ⊢; omega, by have := hz.2.2.1; omega⟩⟩
    rw [termOf, isEmpty_len]
def szN : (n : Nat) → ExT n → Prop
  | 0, _ => True
  | n + 1, (_, _, _, kids) => kids.length ≤ 1000000000 ∧ ∀ x ∈ kids, szN n x
def R25O (vars : List ByteArray) (row : List Tm) (n : Nat) : Prop := ∀ (x : ExT n) (cs : List Value) (A1 A2 : Option Addr) (c1 c2 : Nat) (w : World), Rd w A1 (vars.map Value.string) → RdTs w A2 row → RdE n w cs x → szE n x → szN n x →
  Calls Tryz.prog 32 #[.agg cs.toArray, .slice A1 vars.length c1, .slice A2 row.length c2] w fun e w' => e = .returned (.int .i64 (ofI vars row n x)) ∧ Below w.heap.size w w'
def R25OK (vars : List ByteArray) (row : List Tm) (n : Nat) (k : Int) : Prop := ∀ (s : ByteArray) (t : Tm) (ks : List (ExT n)) (cs : List Value) (A1 A2 : Option Addr) (c1 c2 : Nat) (w : World), Rd w A1 (vars.map Value.string) → RdTs w A2 row → RdE (n + 1) w cs ((k, s, t, ks) : ExT (n + 1)) → szE (n + 1) ((k, s, t, ks) : ExT (n + 1)) → szN (n + 1) ((k, s, t, ks) : ExT (n + 1)) →
  Calls Tryz.prog 32 #[.agg cs.toArray, .slice A1 vars.length c1, .slice A2 row.length c2] w fun e w' => e = .returned (.int .i64 (ofI vars row (n + 1) ((k, s, t, ks) : ExT (n + 1)))) ∧ Below w.heap.size w w'
theorem optV_none : optV none = .tuple #[.agg #[.int .i64 0, .string ⟨#[]⟩, .string ⟨#[]⟩, .string ⟨#[]⟩], .bool false] := rfl
theorem optV_some (u : Tm) : optV (some u) = .tuple #[.agg #[.int .i64 u.k, .string u.x, .string u.l, .string u.y], .bool true] := rfl
set_option maxRecDepth 20000 in
set_option maxHeartbeats 4000000 in
theorem r25Of12 (vars : List ByteArray) (row : List Tm) (hv : vars.length ≤ 281474976710656) (hrl : row.length ≤ 281474976710656) (hzr : szRow row) (n : Nat) (_ih : R25O vars row n) (k : Int) (hkk : k = 1 ∨ k = 2) : R25OK vars row n k := by
  rintro s t ks cs A1 A2 c1 c2 w hr1 hr2 ⟨A, c, rfl, hc1, hr⟩ ⟨z1, z2, z3, z4⟩ ⟨hkn, zn⟩
  obtain ⟨res, hres⟩ : ∃ r : Int, ofI vars row (n + 1) ((k, s, t, ks) : ExT (n + 1)) = r := ⟨_, rfl⟩
  rw [hres]
  have Hres := Lib.hid hres
  obtain ⟨W, hW⟩ : ∃ W : World, w.alloc (.cells #[.int .i64 k, .string s, .int .i64 t.k, .string t.x, .string t.l, .string t.y, .slice A ks.length c] 31) = W := ⟨_, rfl⟩
  have hB0 : Below w.heap.size w W := by rw [← hW]; exact (by repeat (first | exact Below.refl _ _ | assumption | exact (Below.refl _ _).alloc (Nat.le_refl _) _ | refine below_tr ?_ (by assumption) | refine below_alloc ?_ | refine below_tr ?_ (below_regrown _ _ _)))
  have b0 : W.cell? ⟨w.heap.size, 0, none⟩ = some (.int .i64 k) := by rw [← hW, World.cell?, heap_alloc_new]; rfl
  have b1 : W.cell? ⟨w.heap.size, 1, none⟩ = some (.string s) := by rw [← hW, World.cell?, heap_alloc_new]; rfl
  have b2 : W.cell? ⟨w.heap.size, 2, none⟩ = some (.int .i64 t.k) := by rw [← hW, World.cell?, heap_alloc_new]; rfl
  have b3 : W.cell? ⟨w.heap.size, 3, none⟩ = some (.string t.x) := by rw [← hW, World.cell?, heap_alloc_new]; rfl
  have b4 : W.cell? ⟨w.heap.size, 4, none⟩ = some (.string t.l) := by rw [← hW, World.cell?, heap_alloc_new]; rfl
  have b5 : W.cell? ⟨w.heap.size, 5, none⟩ = some (.string t.y) := by rw [← hW, World.cell?, heap_alloc_new]; rfl
  have b6 : W.cell? ⟨w.heap.size, 6, none⟩ = some (.slice A ks.length c) := by rw [← hW, World.cell?, heap_alloc_new]; rfl
  have hk := RdEs.later hr hB0
  have k1 := hr1.later hB0
  have k2 := RdTs.later hr2 hB0
  have HW := Lib.hid hW
  have HB0 := Lib.hid hB0
  have z2' : t.x.size ≤ 281474976710656 := by omega
  clear hW hr hB0 hres hr1 hr2
  have hT := r25Term vars row A1 A2 A c1 c2 ks.length c k s t W hv hrl (by omega) k1 k2
  have Ho : Hid (res = leafI (termP vars row k s t (ks.length == 0))) := by
    show res = _
    rw [← Hres.out, ofI, if_pos (by rcases hkk with rfl | rfl <;> rfl), isEmpty_len]
  have hsz := fun u h => termP_sz (u := u) (b := (ks.length == 0)) (vars := vars) (k := k) (s := s) hzr z2' h
  generalize termP vars row k s t (ks.length == 0) = tp at *
  clear hk k1 k2 z1 z2 z3 z4 zn z2' _ih Hres
  rcases hkk with rfl | rfl
  all_goals
    cases tp with
    | none =>
      rw [optV_none] at hT
      have Hw : Hid (res = 3) := Ho.out
      clear hsz Ho
      go_enter Tryz.func32, Tryz.ntmps32
      go_wp2_with fail
      simp only [HW.out]
      go_wp2_with fail
      refine hT.mono ?_
      rintro e w2 ⟨rfl, hb⟩
      go_wp2
      go_ret
      exact ⟨congrArg (fun q => Ending.returned (Value.int .i64 q)) Hw.out.symm, below_tr HB0.out (by repeat (first | exact Below.refl _ _ | assumption | exact (Below.refl _ _).alloc (Nat.le_refl _) _ | refine below_tr ?_ (by assumption) | refine below_alloc ?_ | refine below_tr ?_ (below_regrown _ _ _)))⟩
    | some u =>
      rw [optV_some] at hT
      have Hw : Hid (res = aloneI u) := Ho.out
      have hA := fun W' => refAlone u.k u.x u.l u.y W' (hsz u rfl)
      clear hsz Ho
      go_enter Tryz.func32, Tryz.ntmps32
      go_wp2_with fail
      simp only [HW.out]
      go_wp2_with fail
      refine hT.mono ?_
      rintro e w2 ⟨rfl, hb⟩
      have hA2 := hA (w2.alloc (.cells #[.int .i64 u.k, .string u.x, .string u.l, .string u.y] 28))
      clear hT hA b0 b1 b2 b3 b4 b5 b6
      go_wp2_with (refine hA2.mono ?_; rintro e w3 ⟨rfl, hb3⟩)
      go_ret
      exact ⟨congrArg (fun q => Ending.returned (Value.int .i64 q)) Hw.out.symm, below_tr HB0.out (below_tr hb (((Below.refl w2.heap.size w2).alloc (Nat.le_refl _) _).trans (hb3.mono (by simp))))⟩
set_option maxRecDepth 20000 in
set_option maxHeartbeats 4000000 in
theorem r25Of3 (vars : List ByteArray) (row : List Tm) (_hv : vars.length ≤ 281474976710656) (_hrl : row.length ≤ 281474976710656) (_hzr : szRow row) (n : Nat) (ih : R25O vars row n) (k : Int) (hkk : k = 3) : R25OK vars row n k := by
  rintro s t ks cs A1 A2 c1 c2 w hr1 hr2 ⟨A, c, rfl, hc1, hr⟩ ⟨z1, z2, z3, z4⟩ ⟨hkn, zn⟩
  obtain ⟨res, hres⟩ : ∃ r : Int, ofI vars row (n + 1) ((k, s, t, ks) : ExT (n + 1)) = r := ⟨_, rfl⟩
  rw [hres]
  have Hres := Lib.hid hres
  obtain ⟨W, hW⟩ : ∃ W : World, w.alloc (.cells #[.int .i64 k, .string s, .int .i64 t.k, .string t.x, .string t.l, .string t.y, .slice A ks.length c] 31) = W := ⟨_, rfl⟩
  have hB0 : Below w.heap.size w W := by rw [← hW]; exact (by repeat (first | exact Below.refl _ _ | assumption | exact (Below.refl _ _).alloc (Nat.le_refl _) _ | refine below_tr ?_ (by assumption) | refine below_alloc ?_ | refine below_tr ?_ (below_regrown _ _ _)))
  have b0 : W.cell? ⟨w.heap.size, 0, none⟩ = some (.int .i64 k) := by rw [← hW, World.cell?, heap_alloc_new]; rfl
  have b1 : W.cell? ⟨w.heap.size, 1, none⟩ = some (.string s) := by rw [← hW, World.cell?, heap_alloc_new]; rfl
  have b2 : W.cell? ⟨w.heap.size, 2, none⟩ = some (.int .i64 t.k) := by rw [← hW, World.cell?, heap_alloc_new]; rfl
  have b3 : W.cell? ⟨w.heap.size, 3, none⟩ = some (.string t.x) := by rw [← hW, World.cell?, heap_alloc_new]; rfl
  have b4 : W.cell? ⟨w.heap.size, 4, none⟩ = some (.string t.l) := by rw [← hW, World.cell?, heap_alloc_new]; rfl
  have b5 : W.cell? ⟨w.heap.size, 5, none⟩ = some (.string t.y) := by rw [← hW, World.cell?, heap_alloc_new]; rfl
  have b6 : W.cell? ⟨w.heap.size, 6, none⟩ = some (.slice A ks.length c) := by rw [← hW, World.cell?, heap_alloc_new]; rfl
  have hk := RdEs.later hr hB0
  have k1 := hr1.later hB0
  have k2 := RdTs.later hr2 hB0
  have HW := Lib.hid hW
  have HB0 := Lib.hid hB0
  have z2' : t.x.size ≤ 281474976710656 := by omega
  clear hW hr hB0 hres hr1 hr2
  subst hkk
  by_cases h1 : (ks.length : Int) = 1
  case neg =>
    have Hw : Hid (res = 3) := by
      show res = _
      rw [← Hres.out, ofI]
      simp only [show ((3 : Int) == 1 || (3 : Int) == 2) = false from rfl, show ((3 : Int) == 3) = true from rfl, Bool.false_eq_true, if_false, if_true]
      unfold noI
      split
      · rename_i h; have := congrArg List.length h; simp at this; omega
      · rfl
    have hne : ((ks.length : Int) != 1) = true := by rw [bne_iff_ne]; exact h1
    generalize ks.length = m at *
    clear hk k1 k2 ih z4 zn h1
    go_enter Tryz.func32, Tryz.ntmps32
    go_wp2_with fail
    try simp only [HW.out]
    go_wp2
    go_ret
    exact ⟨congrArg (fun q => Ending.returned (Value.int .i64 q)) Hw.out.symm, by first | exact HB0.out | exact (by repeat (first | exact Below.refl _ _ | assumption | exact (Below.refl _ _).alloc (Nat.le_refl _) _ | refine below_tr ?_ (by assumption) | refine below_alloc ?_ | refine below_tr ?_ (below_regrown _ _ _)))⟩
  obtain ⟨x0, hx0⟩ : ∃ x, ks[0]? = some x := ⟨_, List.getElem?_eq_getElem (show 0 < ks.length by omega)⟩
  have Hw : Hid (res = notI (ofI vars row n x0)) := by
    show res = _
    rw [← Hres.out, ofI]
    simp only [show ((3 : Int) == 1 || (3 : Int) == 2) = false from rfl, show ((3 : Int) == 3) = true from rfl, Bool.false_eq_true, if_false, if_true]
    have hl : ks = [x0] := by
      cases ks with
      | nil => cases hx0
      | cons a r =>
        simp at hx0
        subst hx0
        have : r.length = 0 := by simp at h1; omega
        rw [List.eq_nil_of_length_eq_zero this]
    rw [hl]; rfl
  obtain ⟨g, o, k0, s0, t0, A0, m0, e0, rfl, hR, q0, q1, q2, q3, q4, q5, q6⟩ := RdEs.atv hk hx0
  have hS := ih x0 _ A1 A2 c1 c2 W k1 k2 hR (z4 x0 (List.mem_of_getElem? hx0)) (zn x0 (List.mem_of_getElem? hx0))
  rw [Nat.zero_mul, Nat.add_zero] at q0 q1 q2 q3 q4 q5 q6
  have hne : ((ks.length : Int) != 1) = false := by simp; omega
  have hm1 : ks.length = 1 := by omega
  generalize ofI vars row n x0 = v0 at *
  rw [hm1] at b6 hne ⊢
  have HW1 : Hid (w.alloc (.cells #[.int .i64 3, .string s, .int .i64 t.k, .string t.x, .string t.l, .string t.y, .slice (some ⟨g, o, none⟩) 1 c] 31) = W) := by show _ = _; rw [← HW.out, hm1]
  clear hx0 hR hk k1 k2 ih z4 zn h1 HW b0 b1 b2 b3 b4 b5 b6
  have hWe := HW1.out
  subst hWe
  go_enter Tryz.func32, Tryz.ntmps32
  go_wp2_with (first
    | (go_at_call 32; refine hS.mono ?_; rintro e w2 ⟨rfl, hb⟩)
    | (go_at_call 16; refine (refNot _ _).mono ?_; rintro e w3 ⟨rfl, rfl⟩))
  go_ret
  exact ⟨congrArg (fun q => Ending.returned (Value.int .i64 q)) Hw.out.symm, below_tr HB0.out hb⟩
theorem intInfo25 : (Tryz.prog.info? 3).map (fun i => (i.zero, i.size, i.bytes)) = some (some (.int .i64 0), 1, 8) := by kernel_rfl
set_option maxRecDepth 20000 in
set_option maxHeartbeats 4000000 in
theorem r25Of45 (vars : List ByteArray) (row : List Tm) (_hv : vars.length ≤ 281474976710656) (_hrl : row.length ≤ 281474976710656) (_hzr : szRow row) (n : Nat) (ih : R25O vars row n) (k : Int) (hkk : (k = 4 ∨ k = 5)) : R25OK vars row n k := by
  rintro s t ks cs A1 A2 c1 c2 w hr1 hr2 ⟨A, c, rfl, hc1, hr⟩ ⟨z1, z2, z3, z4⟩ ⟨hkn, zn⟩
  obtain ⟨res, hres⟩ : ∃ r : Int, ofI vars row (n + 1) ((k, s, t, ks) : ExT (n + 1)) = r := ⟨_, rfl⟩
  rw [hres]
  have Hres := Lib.hid hres
  obtain ⟨W, hW⟩ : ∃ W : World, w.alloc (.cells #[.int .i64 k, .string s, .int .i64 t.k, .string t.x, .string t.l, .string t.y, .slice A ks.length c] 31) = W := ⟨_, rfl⟩
  have hB0 : Below w.heap.size w W := by rw [← hW]; exact (by repeat (first | exact Below.refl _ _ | assumption | exact (Below.refl _ _).alloc (Nat.le_refl _) _ | refine below_tr ?_ (by assumption) | refine below_alloc ?_ | refine below_tr ?_ (below_regrown _ _ _)))
  have b0 : W.cell? ⟨w.heap.size, 0, none⟩ = some (.int .i64 k) := by rw [← hW, World.cell?, heap_alloc_new]; rfl
  have b1 : W.cell? ⟨w.heap.size, 1, none⟩ = some (.string s) := by rw [← hW, World.cell?, heap_alloc_new]; rfl
  have b2 : W.cell? ⟨w.heap.size, 2, none⟩ = some (.int .i64 t.k) := by rw [← hW, World.cell?, heap_alloc_new]; rfl
  have b3 : W.cell? ⟨w.heap.size, 3, none⟩ = some (.string t.x) := by rw [← hW, World.cell?, heap_alloc_new]; rfl
  have b4 : W.cell? ⟨w.heap.size, 4, none⟩ = some (.string t.l) := by rw [← hW, World.cell?, heap_alloc_new]; rfl
  have b5 : W.cell? ⟨w.heap.size, 5, none⟩ = some (.string t.y) := by rw [← hW, World.cell?, heap_alloc_new]; rfl
  have b6 : W.cell? ⟨w.heap.size, 6, none⟩ = some (.slice A ks.length c) := by rw [← hW, World.cell?, heap_alloc_new]; rfl
  have hk := RdEs.later hr hB0
  have k1 := hr1.later hB0
  have k2 := RdTs.later hr2 hB0
  have HW := Lib.hid hW
  have HB0 := Lib.hid hB0
  have z2' : t.x.size ≤ 281474976710656 := by omega
  clear hW hr hB0 hres hr1 hr2
  have hl' : (ks.length : Int) ≤ 1353245080300 := by omega
  have Hw : Hid (res = if k == 4 then andI (ks.map (ofI vars row n)) else orI (ks.map (ofI vars row n))) := by
    show res = _
    rw [← Hres.out, ofI]
    rcases hkk with rfl | rfl <;> rfl
  have K1 := Lib.hid k1
  have K2 := Lib.hid k2
  have HK := Lib.hid hk
  have HZ4 := Lib.hid z4
  have HZn := Lib.hid zn
  have IH := Lib.hid ih
  have B0 := Lib.hid b0
  have B6 := Lib.hid b6
  clear k1 k2 hk z4 zn ih b1 b2 b3 b4 b5 Hres z1 z2 z2' _hzr _hv _hrl
  have hlk : ∀ j, j ≤ ks.length → ((ks.take j).map (ofI vars row n)).length = j := fun j hj => by simp; omega
  have Hlk := Lib.hid hlk
  clear hlk
  rcases hkk with rfl | rfl
  all_goals
    go_enter Tryz.func32, Tryz.ntmps32
    go_wp2_with fail
    simp only [HW.out]
    go_wp2
    go_loopw [9, 10] (fun v i wr => ∃ (j : Nat) (v' : Value), j ≤ ks.length ∧ i = .int .i64 j ∧ v = v' ∧ wr.ownsRow W.heap.size 3 1 v' j (((ks.take j).map (ofI vars row n)).map (Value.int .i64)) ∧ Below W.heap.size W wr) (fun _ i _ => ks.length - (intOf i).toNat)
    case atStart => exact ⟨0, _, by omega, rfl, rfl, by simpa using World.ownsRow_nil _ _ _ _, Below.refl _ _⟩
    case round =>
      obtain ⟨j, v', hj, rfl, rfl, own, hB⟩ := hrel
      clear b0 b6
      have b6 := cell_on B6.out hB
      have b0 := cell_on B0.out hB
      by_cases hlt : j < ks.length
      · obtain ⟨x, hx⟩ : ∃ x, ks[j]? = some x := ⟨_, List.getElem?_eq_getElem hlt⟩
        obtain ⟨g, o, k0, s0, t0, A0, m0, e0, rfl, hR, q0, q1, q2, q3, q4, q5, q6⟩ := (RdEs.later HK.out hB).atv hx
        have hS := IH.out x _ A1 A2 c1 c2 wr (K1.out.later hB) (RdTs.later K2.out hB) hR (HZ4.out x (List.mem_of_getElem? hx)) (HZn.out x (List.mem_of_getElem? hx))
        have Hts := Lib.hid (take_snoc_of hx)
        have hle : W.heap.size ≤ wr.heap.size := hB.size
        have HBr := Lib.hid hB
        clear hx hR hB b0
        go_wp2_with (first
          | (go_at_call 32; refine hS.mono ?_; rintro e w2 ⟨rfl, hb2⟩; have B2 : Below wr.heap.size wr (w2.alloc (.cells #[.int .i64 (ofI vars row n x)] 3)) := hb2.alloc hb2.size _; have own2 := own_below own B2 (Nat.le_refl _); have R2 : Rd (w2.alloc (.cells #[.int .i64 (ofI vars row n x)] 3)) (some ⟨w2.heap.size, 0, none⟩) [.int .i64 (ofI vars row n x)] := Rd.of_block (heap_alloc_new w2 _) rfl; have hle2 : W.heap.size ≤ w2.heap.size := Nat.le_trans hle hb2.size)
          | (at_builtin; refine wpList_appG rfl rfl Tryz.underlying33 intInfo25 rfl (by omega) rfl own2 rfl R2 rfl (by intro u hu; simp at hu; subst hu; rfl) (by omega) (by omega) (by simp; omega) ?_; intro v5 w5 own5 hb5 _))
        go_roundw
        case rel => exact ⟨j + 1, v5, by omega, by go_num, rfl, by rw [Hts.out, List.map_append, List.map_append]; exact own5, (HBr.out.trans (B2.mono HBr.out.size)).trans hb5⟩
        case measure => simp [intOf]; omega
      · obtain rfl : j = ks.length := by omega
        have hk2 : ks.take ks.length = ks := List.take_length
        rw [hk2] at own
        obtain ⟨A9, d9, rfl, hd9, r9⟩ := own_slice own
        have hlen : (ks.map (ofI vars row n)).length = ks.length := List.length_map _
        have hAnd := refAnd (ks.map (ofI vars row n)) A9 d9 wr
        have hOr := refOr (ks.map (ofI vars row n)) A9 d9 wr
        rw [hlen] at hAnd hOr
        have HBr := Lib.hid hB
        by_cases hbig : ks.length ≤ 1000000000
        · have hAnd := hAnd hbig r9
          have hOr := hOr hbig r9
          clear hB own r9
          go_wp2_with (first
            | (go_at_call 24; refine hAnd.mono ?_; rintro e w3 ⟨rfl, hb3⟩)
            | (go_at_call 26; refine hOr.mono ?_; rintro e w3 ⟨rfl, hb3⟩))
          go_ret
          exact ⟨congrArg (fun q => Ending.returned (Value.int .i64 q)) Hw.out.symm, below_tr HB0.out (below_tr HBr.out hb3)⟩
        · exact absurd hkn hbig
end Go.Proofs.YtfijpdmkdoccjaaGreatDoor
