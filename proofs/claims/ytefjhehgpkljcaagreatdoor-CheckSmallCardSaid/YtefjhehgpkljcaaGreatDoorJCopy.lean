/- The kit's SameTexts; a law's has. Two queries are the same: query.Same, the kit's SameQuery (printed by gen/sameq.py). The kit's copies: of texts, of patterns, of keys; of conditions. -/
import Derived.Test.YtefjhehgpkljcaaGreatDoorJMet
import Derived.Test.YtefjhehgpkljcaaGreatDoorJQAlike
import Derived.Test.YtefjhehgpkljcaaGreatDoorJLaw22g
import Derived.Test.YtefjhehgpkljcaaGreatDoorJSameMath
namespace Go.Proofs.YtefjhehgpkljcaaGreatDoor
open Go Go.RowKit Mt

theorem below_drewN' {B : Nat} {a w : World} (h : Below B a w) (n : Nat) : Below B a (w.drewN n) := ⟨h.os, h.tape, h.output, h.size, h.block⟩
def sameTs (a b : List ByteArray) : Bool := decide (a = b)
def sameTo (a b : List ByteArray) (k : Nat) : Prop := ∀ j, j < k → a[j]? = b[j]?
set_option maxHeartbeats 1000000 in
theorem sameTexts (a b : List ByteArray) (A B : Option Addr) (c d : Nat) (w : World) (ha : Rd w A (a.map Value.string)) (hb : Rd w B (b.map Value.string)) (hl : a.length ≤ 281474976710656) (hl2 : b.length ≤ 281474976710656) :
    Calls Tryz.prog 19 #[.slice A a.length c, .slice B b.length d] w fun e w' => e = .returned (.bool (sameTs a b)) ∧ Below w.heap.size w w' := by
  by_cases hlen : a.length = b.length
  case neg =>
    have hne : sameTs a b = false := by unfold sameTs; simp; intro h; exact hlen (by rw [h])
    have h1 : ((a.length : Int) != (b.length : Int)) = true := by rw [bne_iff_ne]; omega
    rw [hne]
    clear hne hlen
    go_enter Tryz.func19, Tryz.ntmps19
    go_wp2
    go_ret
    exact ⟨rfl, Below.refl _ _⟩
  have h1 : ((a.length : Int) != (b.length : Int)) = false := by simp; omega
  have hab : a.length ≤ b.length := by omega
  have Hlen := Lib.hid hlen
  clear hlen
  go_enter Tryz.func19, Tryz.ntmps19
  go_wp2
  go_loopw [5] (fun i wr => ∃ k : Nat, k ≤ a.length ∧ i = .int .i64 k ∧ Below w.heap.size w wr ∧ Hid (sameTo a b k)) (fun i _ => a.length - (intOf i).toNat)
  case atStart => exact ⟨0, by omega, rfl, Below.refl _ _, fun j h => by omega⟩
  case round =>
    obtain ⟨k, hk, rfl, hB, H⟩ := hrel
    by_cases hlt : k < a.length
    · obtain ⟨x, hx⟩ : ∃ x, a[k]? = some x := ⟨_, List.getElem?_eq_getElem hlt⟩
      obtain ⟨y, hy⟩ : ∃ x, b[k]? = some x := ⟨_, List.getElem?_eq_getElem (by omega)⟩
      obtain ⟨g, o, rfl, hcx⟩ := (ha.below hB (Nat.le_refl _)).at_ (j := k) (u := .string x) (by simp [hx])
      obtain ⟨g', o', rfl, hcy⟩ := (hb.below hB (Nat.le_refl _)).at_ (j := k) (u := .string y) (by simp [hy])
      have Hx := Lib.hid hx
      have Hy := Lib.hid hy
      have hlt2 : k < b.length := by omega
      clear hx hy ha hb
      cases hq : (x.toList == y.toList)
      · have hne : sameTs a b = false := by
          unfold sameTs; simp; intro h; subst h
          have := Hx.out.symm.trans Hy.out
          injection this with this
          subst this
          simp at hq
        have hq2 : (x.toList != y.toList) = true := by rw [bne, hq]; rfl
        have Hne := Lib.hid hne
        clear hne
        go_wp2
        go_quiet (fail)
        go_wp2
        go_ret
        exact ⟨by rw [Hne.out]; rfl, below_drewN' hB nq⟩
      · have hxy : Hid (x = y) := (Lib.bytes_beq_iff x y).1 hq
        have hq2 : (x.toList != y.toList) = false := by rw [bne, hq]; rfl
        go_wp2
        go_quiet (fail)
        go_wp2
        go_roundw
        case rel => exact ⟨k+1, by omega, by go_num, below_drewN' hB nq, fun j hj => by
          rcases Nat.lt_or_ge j k with h | h
          · exact H.out j h
          · have : j = k := by omega
            subst this; rw [Hx.out, Hy.out, hxy.out]⟩
        case measure => simp [intOf]; omega
    · have he : sameTs a b = true := by
        unfold sameTs; simp
        refine List.ext_getElem? fun j => ?_
        rcases Nat.lt_or_ge j k with h | h
        · exact H.out j h
        · rw [List.getElem?_eq_none (by omega), List.getElem?_eq_none (by have := Hlen.out; omega)]
      have He := Lib.hid he
      clear he ha hb
      go_wp2
      go_ret
      exact ⟨by rw [He.out]; rfl, hB⟩
end Go.Proofs.YtefjhehgpkljcaaGreatDoor
namespace Go.Proofs.YtefjhehgpkljcaaGreatDoor
open Go Go.RowKit Um Fm Mt
theorem bne_t {α : Type} [BEq α] {a b : α} (h : (a == b) = false) : (a != b) = true := by rw [bne, h]; rfl
theorem bne_f {α : Type} [BEq α] {a b : α} (h : (a == b) = true) : (a != b) = false := by rw [bne, h]; rfl

set_option maxRecDepth 100000 in
set_option maxHeartbeats 4000000 in
theorem kitSameRun (p p' d d' : Bool) (l l' f f' : Int) (a1 a2 a3 a4 b1 b2 b3 b4 : Option Addr) (m1 m2 m3 m4 k1 k2 k3 k4 c1 c2 c3 c4 e1 e2 e3 e4 : Nat) (q1 q2 q3 q4 : Bool) (w : World)
    (hV : ∀ W, Below w.heap.size w W → Calls Tryz.prog 19 #[.slice a1 m1 c1, .slice b1 k1 e1] W fun e w' => e = .returned (.bool q1) ∧ Below W.heap.size W w')
    (hP : ∀ W, Below w.heap.size w W → Calls Tryz.prog 126 #[.slice a2 m2 c2, .slice b2 k2 e2] W fun e w' => e = .returned (.bool q2) ∧ Below W.heap.size W w')
    (hE : ∀ W, Below w.heap.size w W → Calls Tryz.prog 127 #[.slice a3 m3 c3, .slice b3 k3 e3] W fun e w' => e = .returned (.bool q3) ∧ Below W.heap.size W w')
    (hK : ∀ W, Below w.heap.size w W → Calls Tryz.prog 128 #[.slice a4 m4 c4, .slice b4 k4 e4] W fun e w' => e = .returned (.bool q4) ∧ Below W.heap.size W w') :
    Calls Tryz.prog 75 #[.agg #[.bool p, .bool d, .slice a1 m1 c1, .slice a2 m2 c2, .slice a3 m3 c3, .slice a4 m4 c4, .int .i64 l, .int .i64 f], .agg #[.bool p', .bool d', .slice b1 k1 e1, .slice b2 k2 e2, .slice b3 k3 e3, .slice b4 k4 e4, .int .i64 l', .int .i64 f']] w fun e w' => e = .returned (.bool (p == p' && d == d' && q1 && q2 && q3 && q4 && l == l' && f == f')) ∧ Below w.heap.size w w' := by
  have hB0 : Below w.heap.size w ((w.alloc (.cells #[.bool p, .bool d, .slice a1 m1 c1, .slice a2 m2 c2, .slice a3 m3 c3, .slice a4 m4 c4, .int .i64 l, .int .i64 f] 40)).alloc (.cells #[.bool p', .bool d', .slice b1 k1 e1, .slice b2 k2 e2, .slice b3 k3 e3, .slice b4 k4 e4, .int .i64 l', .int .i64 f'] 40)) := (by repeat (first | exact Below.refl _ _ | assumption | exact (Below.refl _ _).alloc (Nat.le_refl _) _ | refine below_tr ?_ (by assumption) | refine below_alloc ?_ | refine below_tr ?_ (below_regrown _ _ _)))
  have HB := Lib.hid hB0
  obtain ⟨res, hres⟩ : ∃ r, (p == p' && d == d' && q1 && q2 && q3 && q4 && l == l' && f == f') = r := ⟨_, rfl⟩
  rw [hres]
  have Hres := Lib.hid hres
  clear hres
  cases g0 : (p == p')
  case false =>
    have H0 : Hid (res = false) := by show _ = _; rw [← Hres.out]; simp [g0]
    clear Hres hV hP hK hE hB0
    go_enter Tryz.func75, Tryz.ntmps75
    go_wp2
    go_ret
    exact ⟨by rw [H0.out]; rfl, HB.out⟩
  obtain rfl : p = p' := by simpa using g0
  clear g0
  cases g1 : (d == d')
  case false =>
    have H0 : Hid (res = false) := by show _ = _; rw [← Hres.out]; simp [g1]
    clear Hres hV hP hK hE hB0
    go_enter Tryz.func75, Tryz.ntmps75
    go_wp2
    go_ret
    exact ⟨by rw [H0.out]; rfl, HB.out⟩
  obtain rfl : d = d' := by simpa using g1
  clear g1
  replace Hres : Hid ((q1 && q2 && q3 && q4 && l == l' && f == f') = res) := by show _ = _; rw [← Hres.out]; simp
  have hc0 := hV _ hB0
  clear hV HB
  go_enter Tryz.func75, Tryz.ntmps75
  go_wp2_with fail
  refine hc0.mono ?_
  rintro e w2 ⟨rfl, hb2⟩
  have hs2 := below_tr hB0 hb2
  obtain ⟨hc, hf⟩ := bcell hb2
  clear hc0
  have hc1 := hP _ hs2
  clear hP
  cases q1
  case false =>
    have H0 : Hid (res = false) := by show _ = _; rw [← Hres.out]; simp []
    clear Hres hc1
    go_wp2
    go_ret
    exact ⟨by rw [H0.out]; rfl, hs2⟩
  replace Hres : Hid ((q2 && q3 && q4 && l == l' && f == f') = res) := by show _ = _; rw [← Hres.out]; simp
  go_wp2_with fail
  refine hc1.mono ?_
  rintro e w3 ⟨rfl, hb3⟩
  have ht3 := below_tr hb2 hb3
  have hs3 := below_tr hB0 ht3
  clear hc hf
  obtain ⟨hc, hf⟩ := bcell ht3
  clear hc1
  have hc2 := hE _ hs3
  clear hE
  cases q2
  case false =>
    have H0 : Hid (res = false) := by show _ = _; rw [← Hres.out]; simp []
    clear Hres hc2
    go_wp2
    go_ret
    exact ⟨by rw [H0.out]; rfl, hs3⟩
  replace Hres : Hid ((q3 && q4 && l == l' && f == f') = res) := by show _ = _; rw [← Hres.out]; simp
  go_wp2_with fail
  refine hc2.mono ?_
  rintro e w4 ⟨rfl, hb4⟩
  have ht4 := below_tr ht3 hb4
  have hs4 := below_tr hB0 ht4
  clear hc hf
  obtain ⟨hc, hf⟩ := bcell ht4
  clear hc2
  have hc3 := hK _ hs4
  clear hK
  cases q3
  case false =>
    have H0 : Hid (res = false) := by show _ = _; rw [← Hres.out]; simp []
    clear Hres hc3
    go_wp2
    go_ret
    exact ⟨by rw [H0.out]; rfl, hs4⟩
  replace Hres : Hid ((q4 && l == l' && f == f') = res) := by show _ = _; rw [← Hres.out]; simp
  go_wp2_with fail
  refine hc3.mono ?_
  rintro e w5 ⟨rfl, hb5⟩
  have ht5 := below_tr ht4 hb5
  have hs5 := below_tr hB0 ht5
  clear hc hf
  obtain ⟨hc, hf⟩ := bcell ht5
  clear hc3
  cases q4
  case false =>
    have H0 : Hid (res = false) := by show _ = _; rw [← Hres.out]; simp []
    clear Hres
    go_wp2
    go_ret
    exact ⟨by rw [H0.out]; rfl, hs5⟩
  replace Hres : Hid ((l == l' && f == f') = res) := by show _ = _; rw [← Hres.out]; simp
  cases g5 : (l == l')
  case false =>
    have H0 : Hid (res = false) := by show _ = _; rw [← Hres.out]; simp [g5]
    clear Hres
    go_wp2
    go_ret
    exact ⟨by rw [H0.out]; rfl, hs5⟩
  go_wp2
  go_ret
  exact ⟨by rw [← Hres.out, g5]; rfl, hs5⟩
end Go.Proofs.YtefjhehgpkljcaaGreatDoor
namespace Go.Proofs.YtefjhehgpkljcaaGreatDoor
open Go Go.RowKit Um Fm Mt
theorem patInfoC : (Tryz.prog.info? 58).map (fun i => (i.zero, i.size, i.bytes)) = some (some (vPat ⟨⟨⟨#[]⟩, zTm⟩, ⟨⟨#[]⟩, zTm⟩, ⟨⟨#[]⟩, zTm⟩⟩), 15, 216) := by kernel_rfl
theorem keyInfoC : (Tryz.prog.info? 60).map (fun i => (i.zero, i.size, i.bytes)) = some (some (vKey ⟨⟨#[]⟩, false⟩), 2, 24) := by kernel_rfl
theorem exprInfoC : (Tryz.prog.info? 31).map (fun i => (i.zero, i.size, i.bytes)) = some (some (.agg #[.int .i64 0, .string ⟨#[]⟩, .int .i64 0, .string ⟨#[]⟩, .string ⟨#[]⟩, .string ⟨#[]⟩, .slice none 0 0]), 7, 104) := by kernel_rfl
theorem strs1C (l : List ByteArray) : ∀ u ∈ l.map Value.string, u.oneCell' = true := by intro u hu; obtain ⟨x, _, rfl⟩ := List.mem_map.1 hu; rfl
theorem pats1C (l : List Pat) : ∀ u ∈ l.flatMap cPat, u.oneCell' = true := by
  intro u hu
  obtain ⟨t, _, ht⟩ := List.mem_flatMap.1 hu
  simp only [cPat, List.mem_cons, List.not_mem_nil, or_false] at ht
  rcases ht with rfl | rfl | rfl | rfl | rfl | rfl | rfl | rfl | rfl | rfl | rfl | rfl | rfl | rfl | rfl <;> rfl
theorem keys1C (l : List Ky) : ∀ u ∈ l.flatMap cKey, u.oneCell' = true := by
  intro u hu
  obtain ⟨t, _, ht⟩ := List.mem_flatMap.1 hu
  simp only [cKey, List.mem_cons, List.not_mem_nil, or_false] at ht
  rcases ht with rfl | rfl <;> rfl
theorem pats_lenC (l : List Pat) : (l.flatMap cPat).length = l.length * 15 := by
  induction l with
  | nil => rfl
  | cons a r ih => simp [List.flatMap_cons, ih, cPat, Nat.add_mul]
theorem keys_lenC (l : List Ky) : (l.flatMap cKey).length = l.length * 2 := by
  induction l with
  | nil => rfl
  | cons a r ih => simp [List.flatMap_cons, ih, cKey, Nat.add_mul]
theorem RdL.flatC {α : Type} {f : α → List Value} {sz : Nat} (hf : ∀ e, (f e).length = sz) {w : World} {A : Option Addr} {l : List α} : RdL sz (fun cs y => cs = f y) w A l ↔ Rd w A (l.flatMap f) := by
  constructor
  · rintro ⟨xs, h, ha⟩
    rw [← ha.flat]; exact h
  · intro h
    exact ⟨_, h, All.of_flat l fun e _ => hf e⟩
/-- What a copy of a list says. -/
def CopyR (n : Nat) (xs : List Value) (w : World) (e : Ending) (w' : World) : Prop := ∃ (A : Option Addr) (c : Nat), e = .returned (.slice A n c) ∧ n ≤ c ∧ Rd (wo (oldB w.heap.size) w') A xs ∧ Below w.heap.size w w'
/-- .. and whose row it is. -/
def CopyO (n : Nat) (xs : List Value) (w : World) (e : Ending) (w' : World) : Prop := ∃ (A : Option Addr) (c : Nat), e = .returned (.slice A n c) ∧ n ≤ c ∧ Rd (wo (oldB w.heap.size) w') A xs ∧ w'.ownsRow w.heap.size 58 15 (.slice A n c) n xs ∧ Below w.heap.size w w'
theorem own_row {w : World} {base g : Nat} {e : TypeId} {size n : Nat} {v : Value} {xs : List Value} {vs : Array Value} (h : w.ownsRow base e size v n xs) (hne : v.ownBlock ≠ some g) : (w.setRow g vs).ownsRow base e size v n xs := by
  obtain ⟨h1, h2⟩ := h
  refine ⟨h1, ?_⟩
  rcases h2 with h2 | ⟨g', cap, cur, e1, e2, e3, e4⟩
  · exact .inl h2
  · exact .inr ⟨g', cap, cur, e1, e2, by rw [setRow_other _ _ _ _ (fun e => hne (by rw [e1, e]; rfl))]; exact e3, e4⟩
theorem own_down {w : World} {B B' : Nat} {e : TypeId} {size n : Nat} {v : Value} {xs : List Value} (h : w.ownsRow B e size v n xs) (hb : B' ≤ B) : w.ownsRow B' e size v n xs := by
  obtain ⟨h1, h2⟩ := h
  refine ⟨h1, ?_⟩
  rcases h2 with h2 | ⟨g, cap, cur, e1, e2, e3⟩
  · exact .inl h2
  · exact .inr ⟨g, cap, cur, e1, Nat.le_trans hb e2, e3⟩
theorem own_set {w : World} {B b : Nat} {e : TypeId} {size n : Nat} {v u : Value} {xs : List Value} (h : w.ownsRow B e size v n xs) (hb : b < B) (i : Nat) : (w.setCell ⟨b, i, none⟩ u).ownsRow B e size v n xs := by
  obtain ⟨h1, h2⟩ := h
  refine ⟨h1, ?_⟩
  rcases h2 with h2 | ⟨g, cap, cur, e1, e2, e3, e4⟩
  · exact .inl h2
  · exact .inr ⟨g, cap, cur, e1, e2, by rw [Below.heap_setCell _ _ _ _ (by simp; omega)]; exact e3, e4⟩
/-- A copy of a condition reads what the call made. -/
def CpR (n : Nat) (x : ExT n) (W : World) (e : Ending) (w' : World) : Prop := ∃ ds : List Value, e = .returned (.agg ds.toArray) ∧ RdE n (wo (oldB W.heap.size) w') ds x ∧ Below W.heap.size W w'
def CpI (n : Nat) (l : List (ExT n)) (w : World) (v i : Value) (wr : World) : Prop := ∃ (k : Nat) (v' : Value) (xs : List Value), k ≤ l.length ∧ i = .int .i64 k ∧ v = v' ∧ wr.ownsRow w.heap.size 31 7 v' k xs ∧ Below w.heap.size w wr ∧ All 7 (RdE n (wo (hideR w.heap.size v') wr)) xs (l.take k)
def CpRs (n : Nat) (l : List (ExT n)) (w : World) (e : Ending) (w' : World) : Prop := ∃ (A : Option Addr) (c : Nat), e = .returned (.slice A l.length c) ∧ l.length ≤ c ∧ RdEs n (wo (oldB w.heap.size) w') A l ∧ Below w.heap.size w w'
end Go.Proofs.YtefjhehgpkljcaaGreatDoor
