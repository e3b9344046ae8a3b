/- The kit's SameTexts; a law's has. Two queries are the same: query.Same, the kit's SameQuery (printed by gen/sameq.py). -/
import Derived.Test.YtafaanegkoolgaaGreatDoorJVarsMath
import Derived.Test.YtafaanegkoolgaaGreatDoorJQAlike
import Derived.Test.YtafaanegkoolgaaGreatDoorJQRight4
namespace Go.Proofs.YtafaanegkoolgaaGreatDoor
open Go Go.RowKit Mt

theorem below_drewN' {B : Nat} {a w : World} (h : Below B a w) (n : Nat) : Below B a (w.drewN n) := ⟨h.os, h.tape, h.output, h.size, h.block⟩
def sameTs (a b : List ByteArray) : Bool := decide (a = b)
def sameTo (a b : List ByteArray) (k : Nat) : Prop := ∀ j, j < k → a[j]? = b[j]?
set_option maxHeartbeats 1000000 in
theorem sameTexts (a b : List ByteArray) (A B : Option Addr) (c d : Nat) (w : World) (ha : Rd w A (a.map Value.string)) (hb : Rd w B (b.map Value.string)) (hl : a.length ≤ 281474976710656) (hl2 : b.length ≤ 281474976710656) :
    Calls Tryz.prog 31 #[.slice A a.length c, .slice B b.length d] w fun e w' => e = .returned (.bool (sameTs a b)) ∧ Below w.heap.size w w' := by
  by_cases hlen : a.length = b.length
  case neg =>
    have hne : sameTs a b = false := by unfold sameTs; simp; intro h; exact hlen (by rw [h])
    have h1 : ((a.length : Int) != (b.length : Int)) = true := by rw [bne_iff_ne]; omega
    rw [hne]
    clear hne hlen
    go_enter Tryz.func31, Tryz.ntmps31
    go_wp2
    go_ret
    exact ⟨rfl, Below.refl _ _⟩
  have h1 : ((a.length : Int) != (b.length : Int)) = false := by simp; omega
  have hab : a.length ≤ b.length := by omega
  have Hlen := Lib.hid hlen
  clear hlen
  go_enter Tryz.func31, Tryz.ntmps31
  go_wp2
  go_loopw [5] (fun i wr => ∃ k : Nat, k ≤ a.length ∧ i = .int .i64 k ∧ Below w.heap.size w wr ∧ Hid (sameTo a b k)) (fun i _ => a.length - (intOf i).toNat)
  case atStart => exact ⟨0, by omega, rfl, Below.refl _ _, fun j h => by omega⟩
  case round =>
    obtain ⟨k, hk, rfl, hB, H⟩ := hrel
    by_cases hlt : k < a.length
    · obtain ⟨x, hx⟩ : ∃ x, a[k]? = some x := ⟨_, List.getElem?_eq_getElem hlt⟩
      obtain ⟨y, hy⟩ : ∃ x, b[k]? = some x := ⟨_, List.getElem?_eq_getElem (by omega)⟩
      obtain ⟨g, o, rfl, hcx⟩ := (ha.below hB (Nat.le_refl _)).at_ (j := k) (u := .string x) (by simp [hx])
      obtain ⟨g', o', rfl, hcy⟩ := (hb.below hB (Nat.le_refl _)).at_ (j := k) (u := .string y) (by simp [hy])
      have Hx := Lib.hid hx
      have Hy := Lib.hid hy
      have hlt2 : k < b.length := by omega
      clear hx hy ha hb
      cases hq : (x.toList == y.toList)
      · have hne : sameTs a b = false := by
          unfold sameTs; simp; intro h; subst h
          have := Hx.out.symm.trans Hy.out
          injection this with this
          subst this
          simp at hq
        have hq2 : (x.toList != y.toList) = true := by rw [bne, hq]; rfl
        have Hne := Lib.hid hne
        clear hne
        go_wp2
        go_quiet (fail)
        go_wp2
        go_ret
        exact ⟨by rw [Hne.out]; rfl, below_drewN' hB nq⟩
      · have hxy : Hid (x = y) := (Lib.bytes_beq_iff x y).1 hq
        have hq2 : (x.toList != y.toList) = false := by rw [bne, hq]; rfl
        go_wp2
        go_quiet (fail)
        go_wp2
        go_roundw
        case rel => exact ⟨k+1, by omega, by go_num, below_drewN' hB nq, fun j hj => by
          rcases Nat.lt_or_ge j k with h | h
          · exact H.out j h
          · have : j = k := by omega
            subst this; rw [Hx.out, Hy.out, hxy.out]⟩
        case measure => simp [intOf]; omega
    · have he : sameTs a b = true := by
        unfold sameTs; simp
        refine List.ext_getElem? fun j => ?_
        rcases Nat.lt_or_ge j k with h | h
        · exact H.out j h
        · rw [List.getElem?_eq_none (by omega), List.getElem?_eq_none (by have := Hlen.out; omega)]
      have He := Lib.hid he
      clear he ha hb
      go_wp2
      go_ret
      exact ⟨by rw [He.out]; rfl, hB⟩
end Go.Proofs.YtafaanegkoolgaaGreatDoor
namespace Go.Proofs.YtafaanegkoolgaaGreatDoor
open Go Go.RowKit Um Fm Mt
theorem bne_t {α : Type} [BEq α] {a b : α} (h : (a == b) = false) : (a != b) = true := by rw [bne, h]; rfl
theorem bne_f {α : Type} [BEq α] {a b : α} (h : (a == b) = true) : (a != b) = false := by rw [bne, h]; rfl

set_option maxRecDepth 100000 in
set_option maxHeartbeats 4000000 in
theorem qSameRun (p p' d d' : Bool) (l l' f f' : Int) (a1 a2 a3 a4 b1 b2 b3 b4 : Option Addr) (m1 m2 m3 m4 k1 k2 k3 k4 c1 c2 c3 c4 e1 e2 e3 e4 : Nat) (q1 q2 q3 q4 : Bool) (w : World)
    (hV : ∀ W, Below w.heap.size w W → Calls Tryz.prog 45 #[.slice a1 m1 c1, .slice b1 k1 e1] W fun e w' => e = .returned (.bool q1) ∧ Below W.heap.size W w')
    (hP : ∀ W, Below w.heap.size w W → Calls Tryz.prog 46 #[.slice a2 m2 c2, .slice b2 k2 e2] W fun e w' => e = .returned (.bool q2) ∧ Below W.heap.size W w')
    (hK : ∀ W, Below w.heap.size w W → Calls Tryz.prog 47 #[.slice a4 m4 c4, .slice b4 k4 e4] W fun e w' => e = .returned (.bool q3) ∧ Below W.heap.size W w')
    (hE : ∀ W, Below w.heap.size w W → Calls Tryz.prog 48 #[.slice a3 m3 c3, .slice b3 k3 e3, .func (.func 49) #[] #[]] W fun e w' => e = .returned (.bool q4) ∧ Below W.heap.size W w') :
    Calls Tryz.prog 11 #[.agg #[.bool p, .bool d, .slice a1 m1 c1, .slice a2 m2 c2, .slice a3 m3 c3, .slice a4 m4 c4, .int .i64 l, .int .i64 f], .agg #[.bool p', .bool d', .slice b1 k1 e1, .slice b2 k2 e2, .slice b3 k3 e3, .slice b4 k4 e4, .int .i64 l', .int .i64 f']] w fun e w' => e = .returned (.bool (p == p' && d == d' && l == l' && f == f' && q1 && q2 && q3 && q4)) ∧ Below w.heap.size w w' := by
  have hB0 : Below w.heap.size w ((w.alloc (.cells #[.bool p, .bool d, .slice a1 m1 c1, .slice a2 m2 c2, .slice a3 m3 c3, .slice a4 m4 c4, .int .i64 l, .int .i64 f] 27)).alloc (.cells #[.bool p', .bool d', .slice b1 k1 e1, .slice b2 k2 e2, .slice b3 k3 e3, .slice b4 k4 e4, .int .i64 l', .int .i64 f'] 27)) := (by repeat (first | exact Below.refl _ _ | assumption | exact (Below.refl _ _).alloc (Nat.le_refl _) _ | refine below_tr ?_ (by assumption) | refine below_alloc ?_ | refine below_tr ?_ (below_regrown _ _ _)))
  have HB := Lib.hid hB0
  obtain ⟨res, hres⟩ : ∃ r, (p == p' && d == d' && l == l' && f == f' && q1 && q2 && q3 && q4) = r := ⟨_, rfl⟩
  rw [hres]
  have Hres := Lib.hid hres
  clear hres
  cases g0 : (p == p')
  case false =>
    have n0 := bne_t g0
    have H0 : Hid (res = false) := by show _ = _; rw [← Hres.out]; simp [g0]
    clear Hres hV hP hK hE hB0
    go_enter Tryz.func11, Tryz.ntmps11
    go_wp2
    go_ret
    exact ⟨by rw [H0.out]; rfl, HB.out⟩
  obtain rfl : p = p' := by simpa using g0
  clear g0
  cases g1 : (d == d')
  case false =>
    have n1 := bne_t g1
    have H0 : Hid (res = false) := by show _ = _; rw [← Hres.out]; simp [g1]
    clear Hres hV hP hK hE hB0
    go_enter Tryz.func11, Tryz.ntmps11
    go_wp2
    go_ret
    exact ⟨by rw [H0.out]; rfl, HB.out⟩
  obtain rfl : d = d' := by simpa using g1
  clear g1
  cases g2 : (l == l')
  case false =>
    have n2 := bne_t g2
    have H0 : Hid (res = false) := by show _ = _; rw [← Hres.out]; simp [g2]
    clear Hres hV hP hK hE hB0
    go_enter Tryz.func11, Tryz.ntmps11
    go_wp2
    go_ret
    exact ⟨by rw [H0.out]; rfl, HB.out⟩
  obtain rfl : l = l' := by simpa using g2
  clear g2
  cases g3 : (f == f')
  case false =>
    have n3 := bne_t g3
    have H0 : Hid (res = false) := by show _ = _; rw [← Hres.out]; simp [g3]
    clear Hres hV hP hK hE hB0
    go_enter Tryz.func11, Tryz.ntmps11
    go_wp2
    go_ret
    exact ⟨by rw [H0.out]; rfl, HB.out⟩
  obtain rfl : f = f' := by simpa using g3
  clear g3
  replace Hres : Hid ((q1 && q2 && q3 && q4) = res) := by show _ = _; rw [← Hres.out]; simp
  have hc0 := hV _ hB0
  clear hV HB
  go_enter Tryz.func11, Tryz.ntmps11
  go_wp2_with fail
  refine hc0.mono ?_
  rintro e w2 ⟨rfl, hb2⟩
  have hs2 := below_tr hB0 hb2
  obtain ⟨hc, hf⟩ := bcell hb2
  clear hc0
  have hc1 := hP _ hs2
  clear hP
  cases q1
  case false =>
    have H0 : Hid (res = false) := by show _ = _; rw [← Hres.out]; simp []
    clear Hres hc1
    go_wp2
    go_ret
    exact ⟨by rw [H0.out]; rfl, hs2⟩
  replace Hres : Hid ((q2 && q3 && q4) = res) := by show _ = _; rw [← Hres.out]; simp
  go_wp2_with fail
  refine hc1.mono ?_
  rintro e w3 ⟨rfl, hb3⟩
  have ht3 := below_tr hb2 hb3
  have hs3 := below_tr hB0 ht3
  clear hc hf
  obtain ⟨hc, hf⟩ := bcell ht3
  clear hc1
  have hc2 := hK _ hs3
  clear hK
  cases q2
  case false =>
    have H0 : Hid (res = false) := by show _ = _; rw [← Hres.out]; simp []
    clear Hres hc2
    go_wp2
    go_ret
    exact ⟨by rw [H0.out]; rfl, hs3⟩
  replace Hres : Hid ((q3 && q4) = res) := by show _ = _; rw [← Hres.out]; simp
  go_wp2_with fail
  refine hc2.mono ?_
  rintro e w4 ⟨rfl, hb4⟩
  have ht4 := below_tr ht3 hb4
  have hs4 := below_tr hB0 ht4
  clear hc hf
  obtain ⟨hc, hf⟩ := bcell ht4
  clear hc2
  have hc3 := hE _ hs4
  clear hE
  cases q3
  case false =>
    have H0 : Hid (res = false) := by show _ = _; rw [← Hres.out]; simp []
    clear Hres hc3
    go_wp2
    go_ret
    exact ⟨by rw [H0.out]; rfl, hs4⟩
  replace Hres : Hid ((q4) = res) := by show _ = _; rw [← Hres.out]; simp
  go_wp2_with fail
  refine hc3.mono ?_
  rintro e w5 ⟨rfl, hb5⟩
  have ht5 := below_tr ht4 hb5
  have hs5 := below_tr hB0 ht5
  clear hc hf
  obtain ⟨hc, hf⟩ := bcell ht5
  clear hc3
  go_wp2
  go_ret
  exact ⟨by rw [← Hres.out]; rfl, hs5⟩
set_option maxRecDepth 100000 in
set_option maxHeartbeats 4000000 in
theorem kitSameRun (p p' d d' : Bool) (l l' f f' : Int) (a1 a2 a3 a4 b1 b2 b3 b4 : Option Addr) (m1 m2 m3 m4 k1 k2 k3 k4 c1 c2 c3 c4 e1 e2 e3 e4 : Nat) (q1 q2 q3 q4 : Bool) (w : World)
    (hV : ∀ W, Below w.heap.size w W → Calls Tryz.prog 31 #[.slice a1 m1 c1, .slice b1 k1 e1] W fun e w' => e = .returned (.bool q1) ∧ Below W.heap.size W w')
    (hP : ∀ W, Below w.heap.size w W → Calls Tryz.prog 50 #[.slice a2 m2 c2, .slice b2 k2 e2] W fun e w' => e = .returned (.bool q2) ∧ Below W.heap.size W w')
    (hE : ∀ W, Below w.heap.size w W → Calls Tryz.prog 51 #[.slice a3 m3 c3, .slice b3 k3 e3] W fun e w' => e = .returned (.bool q3) ∧ Below W.heap.size W w')
    (hK : ∀ W, Below w.heap.size w W → Calls Tryz.prog 52 #[.slice a4 m4 c4, .slice b4 k4 e4] W fun e w' => e = .returned (.bool q4) ∧ Below W.heap.size W w') :
    Calls Tryz.prog 12 #[.agg #[.bool p, .bool d, .slice a1 m1 c1, .slice a2 m2 c2, .slice a3 m3 c3, .slice a4 m4 c4, .int .i64 l, .int .i64 f], .agg #[.bool p', .bool d', .slice b1 k1 e1, .slice b2 k2 e2, .slice b3 k3 e3, .slice b4 k4 e4, .int .i64 l', .int .i64 f']] w fun e w' => e = .returned (.bool (p == p' && d == d' && q1 && q2 && q3 && q4 && l == l' && f == f')) ∧ Below w.heap.size w w' := by
  have hB0 : Below w.heap.size w ((w.alloc (.cells #[.bool p, .bool d, .slice a1 m1 c1, .slice a2 m2 c2, .slice a3 m3 c3, .slice a4 m4 c4, .int .i64 l, .int .i64 f] 27)).alloc (.cells #[.bool p', .bool d', .slice b1 k1 e1, .slice b2 k2 e2, .slice b3 k3 e3, .slice b4 k4 e4, .int .i64 l', .int .i64 f'] 27)) := (by repeat (first | exact Below.refl _ _ | assumption | exact (Below.refl _ _).alloc (Nat.le_refl _) _ | refine below_tr ?_ (by assumption) | refine below_alloc ?_ | refine below_tr ?_ (below_regrown _ _ _)))
  have HB := Lib.hid hB0
  obtain ⟨res, hres⟩ : ∃ r, (p == p' && d == d' && q1 && q2 && q3 && q4 && l == l' && f == f') = r := ⟨_, rfl⟩
  rw [hres]
  have Hres := Lib.hid hres
  clear hres
  cases g0 : (p == p')
  case false =>
    have H0 : Hid (res = false) := by show _ = _; rw [← Hres.out]; simp [g0]
    clear Hres hV hP hK hE hB0
    go_enter Tryz.func12, Tryz.ntmps12
    go_wp2
    go_ret
    exact ⟨by rw [H0.out]; rfl, HB.out⟩
  obtain rfl : p = p' := by simpa using g0
  clear g0
  cases g1 : (d == d')
  case false =>
    have H0 : Hid (res = false) := by show _ = _; rw [← Hres.out]; simp [g1]
    clear Hres hV hP hK hE hB0
    go_enter Tryz.func12, Tryz.ntmps12
    go_wp2
    go_ret
    exact ⟨by rw [H0.out]; rfl, HB.out⟩
  obtain rfl : d = d' := by simpa using g1
  clear g1
  replace Hres : Hid ((q1 && q2 && q3 && q4 && l == l' && f == f') = res) := by show _ = _; rw [← Hres.out]; simp
  have hc0 := hV _ hB0
  clear hV HB
  go_enter Tryz.func12, Tryz.ntmps12
  go_wp2_with fail
  refine hc0.mono ?_
  rintro e w2 ⟨rfl, hb2⟩
  have hs2 := below_tr hB0 hb2
  obtain ⟨hc, hf⟩ := bcell hb2
  clear hc0
  have hc1 := hP _ hs2
  clear hP
  cases q1
  case false =>
    have H0 : Hid (res = false) := by show _ = _; rw [← Hres.out]; simp []
    clear Hres hc1
    go_wp2
    go_ret
    exact ⟨by rw [H0.out]; rfl, hs2⟩
  replace Hres : Hid ((q2 && q3 && q4 && l == l' && f == f') = res) := by show _ = _; rw [← Hres.out]; simp
  go_wp2_with fail
  refine hc1.mono ?_
  rintro e w3 ⟨rfl, hb3⟩
  have ht3 := below_tr hb2 hb3
  have hs3 := below_tr hB0 ht3
  clear hc hf
  obtain ⟨hc, hf⟩ := bcell ht3
  clear hc1
  have hc2 := hE _ hs3
  clear hE
  cases q2
  case false =>
    have H0 : Hid (res = false) := by show _ = _; rw [← Hres.out]; simp []
    clear Hres hc2
    go_wp2
    go_ret
    exact ⟨by rw [H0.out]; rfl, hs3⟩
  replace Hres : Hid ((q3 && q4 && l == l' && f == f') = res) := by show _ = _; rw [← Hres.out]; simp
  go_wp2_with fail
  refine hc2.mono ?_
  rintro e w4 ⟨rfl, hb4⟩
  have ht4 := below_tr ht3 hb4
  have hs4 := below_tr hB0 ht4
  clear hc hf
  obtain ⟨hc, hf⟩ := bcell ht4
  clear hc2
  have hc3 := hK _ hs4
  clear hK
  cases q3
  case false =>
    have H0 : Hid (res = false) := by show _ = _; rw [← Hres.out]; simp []
    clear Hres hc3
    go_wp2
    go_ret
    exact ⟨by rw [H0.out]; rfl, hs4⟩
  replace Hres : Hid ((q4 && l == l' && f == f') = res) := by show _ = _; rw [← Hres.out]; simp
  go_wp2_with fail
  refine hc3.mono ?_
  rintro e w5 ⟨rfl, hb5⟩
  have ht5 := below_tr ht4 hb5
  have hs5 := below_tr hB0 ht5
  clear hc hf
  obtain ⟨hc, hf⟩ := bcell ht5
  clear hc3
  cases q4
  case false =>
    have H0 : Hid (res = false) := by show _ = _; rw [← Hres.out]; simp []
    clear Hres
    go_wp2
    go_ret
    exact ⟨by rw [H0.out]; rfl, hs5⟩
  replace Hres : Hid ((l == l' && f == f') = res) := by show _ = _; rw [← Hres.out]; simp
  cases g5 : (l == l')
  case false =>
    have H0 : Hid (res = false) := by show _ = _; rw [← Hres.out]; simp [g5]
    clear Hres
    go_wp2
    go_ret
    exact ⟨by rw [H0.out]; rfl, hs5⟩
  go_wp2
  go_ret
  exact ⟨by rw [← Hres.out, g5]; rfl, hs5⟩
end Go.Proofs.YtafaanegkoolgaaGreatDoor
