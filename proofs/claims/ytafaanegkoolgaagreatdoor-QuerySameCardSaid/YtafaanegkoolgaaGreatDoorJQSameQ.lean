/- Two queries are the same: query.Same, the kit's SameQuery (printed by gen/sameq.py). -/
import Derived.Test.YtafaanegkoolgaaGreatDoorJQAlike
import Derived.Test.YtafaanegkoolgaaGreatDoorJQRight4
import Derived.Test.YtafaanegkoolgaaGreatDoorJKitTexts
namespace Go.Proofs.YtafaanegkoolgaaGreatDoor
open Go Go.RowKit Um Fm Mt
theorem bne_t {α : Type} [BEq α] {a b : α} (h : (a == b) = false) : (a != b) = true := by rw [bne, h]; rfl
theorem bne_f {α : Type} [BEq α] {a b : α} (h : (a == b) = true) : (a != b) = false := by rw [bne, h]; rfl

set_option maxRecDepth 100000 in
set_option maxHeartbeats 4000000 in
theorem qSameRun (p p' d d' : Bool) (l l' f f' : Int) (a1 a2 a3 a4 b1 b2 b3 b4 : Option Addr) (m1 m2 m3 m4 k1 k2 k3 k4 c1 c2 c3 c4 e1 e2 e3 e4 : Nat) (q1 q2 q3 q4 : Bool) (w : World)
    (hV : ∀ W, Below w.heap.size w W → Calls Tryz.prog 45 #[.slice a1 m1 c1, .slice b1 k1 e1] W fun e w' => e = .returned (.bool q1) ∧ Below W.heap.size W w')
    (hP : ∀ W, Below w.heap.size w W → Calls Tryz.prog 46 #[.slice a2 m2 c2, .slice b2 k2 e2] W fun e w' => e = .returned (.bool q2) ∧ Below W.heap.size W w')
    (hK : ∀ W, Below w.heap.size w W → Calls Tryz.prog 47 #[.slice a4 m4 c4, .slice b4 k4 e4] W fun e w' => e = .returned (.bool q3) ∧ Below W.heap.size W w')
    (hE : ∀ W, Below w.heap.size w W → Calls Tryz.prog 48 #[.slice a3 m3 c3, .slice b3 k3 e3, .func (.func 49) #[] #[]] W fun e w' => e = .returned (.bool q4) ∧ Below W.heap.size W w') :
    Calls Tryz.prog 11 #[.agg #[.bool p, .bool d, .slice a1 m1 c1, .slice a2 m2 c2, .slice a3 m3 c3, .slice a4 m4 c4, .int .i64 l, .int .i64 f], .agg #[.bool p', .bool d', .slice b1 k1 e1, .slice b2 k2 e2, .slice b3 k3 e3, .slice b4 k4 e4, .int .i64 l', .int .i64 f']] w fun e w' => e = .returned (.bool (p == p' && d == d' && l == l' && f == f' && q1 && q2 && q3 && q4)) ∧ Below w.heap.size w w' := by
  have hB0 : Below w.heap.size w ((w.alloc (.cells #[.bool p, .bool d, .slice a1 m1 c1, .slice a2 m2 c2, .slice a3 m3 c3, .slice a4 m4 c4, .int .i64 l, .int .i64 f] 27)).alloc (.cells #[.bool p', .bool d', .slice b1 k1 e1, .slice b2 k2 e2, .slice b3 k3 e3, .slice b4 k4 e4, .int .i64 l', .int .i64 f'] 27)) := (by repeat (first | exact Below.refl _ _ | assumption | exact (Below.refl _ _).alloc (Nat.le_refl _) _ | refine below_tr ?_ (by assumption) | refine below_alloc ?_ | refine below_tr ?_ (below_regrown _ _ _)))
  have HB := Lib.hid hB0
  obtain ⟨res, hres⟩ : ∃ r, (p == p' && d == d' && l == l' && f == f' && q1 && q2 && q3 && q4) = r := ⟨_, rfl⟩
  rw [hres]
  have Hres := Lib.hid hres
  clear hres
  cases g0 : (p == p')
  case false =>
    have n0 := bne_t g0
    have H0 : Hid (res = false) := by show _ = _; rw [← Hres.out]; simp [g0]
    clear Hres hV hP hK hE hB0
    go_enter Tryz.func11, Tryz.ntmps11
    go_wp2
    go_ret
    exact ⟨by rw [H0.out]; rfl, HB.out⟩
  obtain rfl : p = p' := by simpa using g0
  clear g0
  cases g1 : (d == d')
  case false =>
    have n1 := bne_t g1
    have H0 : Hid (res = false) := by show _ = _; rw [← Hres.out]; simp [g1]
    clear Hres hV hP hK hE hB0
    go_enter Tryz.func11, Tryz.ntmps11
    go_wp2
    go_ret
    exact ⟨by rw [H0.out]; rfl, HB.out⟩
  obtain rfl : d = d' := by simpa using g1
  clear g1
  cases g2 : (l == l')
  case false =>
    have n2 := bne_t g2
    have H0 : Hid (res = false) := by show _ = _; rw [← Hres.out]; simp [g2]
    clear Hres hV hP hK hE hB0
    go_enter Tryz.func11, Tryz.ntmps11
    go_wp2
    go_ret
    exact ⟨by rw [H0.out]; rfl, HB.out⟩
  obtain rfl : l = l' := by simpa using g2
  clear g2
  cases g3 : (f == f')
  case false =>
    have n3 := bne_t g3
    have H0 : Hid (res = false) := by show _ = _; rw [← Hres.out]; simp [g3]
    clear Hres hV hP hK hE hB0
    go_enter Tryz.func11, Tryz.ntmps11
    go_wp2
    go_ret
    exact ⟨by rw [H0.out]; rfl, HB.out⟩
  obtain rfl : f = f' := by simpa using g3
  clear g3
  replace Hres : Hid ((q1 && q2 && q3 && q4) = res) := by show _ = _; rw [← Hres.out]; simp
  have hc0 := hV _ hB0
  clear hV HB
  go_enter Tryz.func11, Tryz.ntmps11
  go_wp2_with fail
  refine hc0.mono ?_
  rintro e w2 ⟨rfl, hb2⟩
  have hs2 := below_tr hB0 hb2
  obtain ⟨hc, hf⟩ := bcell hb2
  clear hc0
  have hc1 := hP _ hs2
  clear hP
  cases q1
  case false =>
    have H0 : Hid (res = false) := by show _ = _; rw [← Hres.out]; simp []
    clear Hres hc1
    go_wp2
    go_ret
    exact ⟨by rw [H0.out]; rfl, hs2⟩
  replace Hres : Hid ((q2 && q3 && q4) = res) := by show _ = _; rw [← Hres.out]; simp
  go_wp2_with fail
  refine hc1.mono ?_
  rintro e w3 ⟨rfl, hb3⟩
  have ht3 := below_tr hb2 hb3
  have hs3 := below_tr hB0 ht3
  clear hc hf
  obtain ⟨hc, hf⟩ := bcell ht3
  clear hc1
  have hc2 := hK _ hs3
  clear hK
  cases q2
  case false =>
    have H0 : Hid (res = false) := by show _ = _; rw [← Hres.out]; simp []
    clear Hres hc2
    go_wp2
    go_ret
    exact ⟨by rw [H0.out]; rfl, hs3⟩
  replace Hres : Hid ((q3 && q4) = res) := by show _ = _; rw [← Hres.out]; simp
  go_wp2_with fail
  refine hc2.mono ?_
  rintro e w4 ⟨rfl, hb4⟩
  have ht4 := below_tr ht3 hb4
  have hs4 := below_tr hB0 ht4
  clear hc hf
  obtain ⟨hc, hf⟩ := bcell ht4
  clear hc2
  have hc3 := hE _ hs4
  clear hE
  cases q3
  case false =>
    have H0 : Hid (res = false) := by show _ = _; rw [← Hres.out]; simp []
    clear Hres hc3
    go_wp2
    go_ret
    exact ⟨by rw [H0.out]; rfl, hs4⟩
  replace Hres : Hid ((q4) = res) := by show _ = _; rw [← Hres.out]; simp
  go_wp2_with fail
  refine hc3.mono ?_
  rintro e w5 ⟨rfl, hb5⟩
  have ht5 := below_tr ht4 hb5
  have hs5 := below_tr hB0 ht5
  clear hc hf
  obtain ⟨hc, hf⟩ := bcell ht5
  clear hc3
  go_wp2
  go_ret
  exact ⟨by rw [← Hres.out]; rfl, hs5⟩
set_option maxRecDepth 100000 in
set_option maxHeartbeats 4000000 in
theorem kitSameRun (p p' d d' : Bool) (l l' f f' : Int) (a1 a2 a3 a4 b1 b2 b3 b4 : Option Addr) (m1 m2 m3 m4 k1 k2 k3 k4 c1 c2 c3 c4 e1 e2 e3 e4 : Nat) (q1 q2 q3 q4 : Bool) (w : World)
    (hV : ∀ W, Below w.heap.size w W → Calls Tryz.prog 31 #[.slice a1 m1 c1, .slice b1 k1 e1] W fun e w' => e = .returned (.bool q1) ∧ Below W.heap.size W w')
    (hP : ∀ W, Below w.heap.size w W → Calls Tryz.prog 50 #[.slice a2 m2 c2, .slice b2 k2 e2] W fun e w' => e = .returned (.bool q2) ∧ Below W.heap.size W w')
    (hE : ∀ W, Below w.heap.size w W → Calls Tryz.prog 51 #[.slice a3 m3 c3, .slice b3 k3 e3] W fun e w' => e = .returned (.bool q3) ∧ Below W.heap.size W w')
    (hK : ∀ W, Below w.heap.size w W → Calls Tryz.prog 52 #[.slice a4 m4 c4, .slice b4 k4 e4] W fun e w' => e = .returned (.bool q4) ∧ Below W.heap.size W w') :
    Calls Tryz.prog 12 #[.agg #[.bool p, .bool d, .slice a1 m1 c1, .slice a2 m2 c2, .slice a3 m3 c3, .slice a4 m4 c4, .int .i64 l, .int .i64 f], .agg #[.bool p', .bool d', .slice b1 k1 e1, .slice b2 k2 e2, .slice b3 k3 e3, .slice b4 k4 e4, .int .i64 l', .int .i64 f']] w fun e w' => e = .returned (.bool (p == p' && d == d' && q1 && q2 && q3 && q4 && l == l' && f == f')) ∧ Below w.heap.size w w' := by
  have hB0 : Below w.heap.size w ((w.alloc (.cells #[.bool p, .bool d, .slice a1 m1 c1, .slice a2 m2 c2, .slice a3 m3 c3, .slice a4 m4 c4, .int .i64 l, .int .i64 f] 27)).alloc (.cells #[.bool p', .bool d', .slice b1 k1 e1, .slice b2 k2 e2, .slice b3 k3 e3, .slice b4 k4 e4, .int .i64 l', .int .i64 f'] 27)) := (by repeat (first | exact Below.refl _ _ | assumption | exact (Below.refl _ _).alloc (Nat.le_refl _) _ | refine below_tr ?_ (by assumption) | refine below_alloc ?_ | refine below_tr ?_ (below_regrown _ _ _)))
  have HB := Lib.hid hB0
  obtain ⟨res, hres⟩ : ∃ r, (p == p' && d == d' && q1 && q2 && q3 && q4 && l == l' && f == f') = r := ⟨_, rfl⟩
  rw [hres]
  have Hres := Lib.hid hres
  clear hres
  cases g0 : (p == p')
  case false =>
    have H0 : Hid (res = false) := by show _ = _; rw [← Hres.out]; simp [g0]
    clear Hres hV hP hK hE hB0
    go_enter Tryz.func12, Tryz.ntmps12
    go_wp2
    go_ret
    exact ⟨by rw [H0.out]; rfl, HB.out⟩
  obtain rfl : p = p' := by simpa using g0
  clear g0
  cases g1 : (d == d')
  case false =>
    have H0 : Hid (res = false) := by show _ = _; rw [← Hres.out]; simp [g1]
    clear Hres hV hP hK hE hB0
    go_enter Tryz.func12, Tryz.ntmps12
    go_wp2
    go_ret
    exact ⟨by rw [H0.out]; rfl, HB.out⟩
  obtain rfl : d = d' := by simpa using g1
  clear g1
  replace Hres : Hid ((q1 && q2 && q3 && q4 && l == l' && f == f') = res) := by show _ = _; rw [← Hres.out]; simp
  have hc0 := hV _ hB0
  clear hV HB
  go_enter Tryz.func12, Tryz.ntmps12
  go_wp2_with fail
  refine hc0.mono ?_
  rintro e w2 ⟨rfl, hb2⟩
  have hs2 := below_tr hB0 hb2
  obtain ⟨hc, hf⟩ := bcell hb2
  clear hc0
  have hc1 := hP _ hs2
  clear hP
  cases q1
  case false =>
    have H0 : Hid (res = false) := by show _ = _; rw [← Hres.out]; simp []
    clear Hres hc1
    go_wp2
    go_ret
    exact ⟨by rw [H0.out]; rfl, hs2⟩
  replace Hres : Hid ((q2 && q3 && q4 && l == l' && f == f') = res) := by show _ = _; rw [← Hres.out]; simp
  go_wp2_with fail
  refine hc1.mono ?_
  rintro e w3 ⟨rfl, hb3⟩
  have ht3 := below_tr hb2 hb3
  have hs3 := below_tr hB0 ht3
  clear hc hf
  obtain ⟨hc, hf⟩ := bcell ht3
  clear hc1
  have hc2 := hE _ hs3
  clear hE
  cases q2
  case false =>
    have H0 : Hid (res = false) := by show _ = _; rw [← Hres.out]; simp []
    clear Hres hc2
    go_wp2
    go_ret
    exact ⟨by rw [H0.out]; rfl, hs3⟩
  replace Hres : Hid ((q3 && q4 && l == l' && f == f') = res) := by show _ = _; rw [← Hres.out]; simp
  go_wp2_with fail
  refine hc2.mono ?_
  rintro e w4 ⟨rfl, hb4⟩
  have ht4 := below_tr ht3 hb4
  have hs4 := below_tr hB0 ht4
  clear hc hf
  obtain ⟨hc, hf⟩ := bcell ht4
  clear hc2
  have hc3 := hK _ hs4
  clear hK
  cases q3
  case false =>
    have H0 : Hid (res = false) := by show _ = _; rw [← Hres.out]; simp []
    clear Hres hc3
    go_wp2
    go_ret
    exact ⟨by rw [H0.out]; rfl, hs4⟩
  replace Hres : Hid ((q4 && l == l' && f == f') = res) := by show _ = _; rw [← Hres.out]; simp
  go_wp2_with fail
  refine hc3.mono ?_
  rintro e w5 ⟨rfl, hb5⟩
  have ht5 := below_tr ht4 hb5
  have hs5 := below_tr hB0 ht5
  clear hc hf
  obtain ⟨hc, hf⟩ := bcell ht5
  clear hc3
  cases q4
  case false =>
    have H0 : Hid (res = false) := by show _ = _; rw [← Hres.out]; simp []
    clear Hres
    go_wp2
    go_ret
    exact ⟨by rw [H0.out]; rfl, hs5⟩
  replace Hres : Hid ((l == l' && f == f') = res) := by show _ = _; rw [← Hres.out]; simp
  cases g5 : (l == l')
  case false =>
    have H0 : Hid (res = false) := by show _ = _; rw [← Hres.out]; simp [g5]
    clear Hres
    go_wp2
    go_ret
    exact ⟨by rw [H0.out]; rfl, hs5⟩
  go_wp2
  go_ret
  exact ⟨by rw [← Hres.out, g5]; rfl, hs5⟩
end Go.Proofs.YtafaanegkoolgaaGreatDoor
