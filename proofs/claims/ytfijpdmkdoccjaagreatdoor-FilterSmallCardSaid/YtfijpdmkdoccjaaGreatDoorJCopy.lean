/- Two conditions are the same: the program's alike, the kit's SameExpr (printed by gen/alike.py). The kit's SameTexts; a law's has. Two queries are the same: query.Same, the kit's SameQuery (printed by gen/sameq.py). The kit's copies: of texts, of patterns, of keys; of conditions. -/
import Derived.Test.YtfijpdmkdoccjaaGreatDoorJQSame
import Derived.Test.YtfijpdmkdoccjaaGreatDoorJQPart
import Derived.Test.YtfijpdmkdoccjaaGreatDoorJChk5
import Derived.Test.YtfijpdmkdoccjaaGreatDoorJQRight4
namespace Go.Proofs.YtfijpdmkdoccjaaGreatDoor
open Go Go.RowKit Um Fm Mt
def EqE (F : FuncId) (n : Nat) : Prop := ∀ (x y : ExT n) (cs ds : List Value) (W : World), RdE n W cs x → RdE n W ds y → szE n x → szE n y →
  Calls Tryz.prog F #[.agg cs.toArray, .agg ds.toArray] W fun e w' => e = .returned (.bool (sameE n x y)) ∧ Below W.heap.size W w'
theorem rd_spell2 {n : Nat} {w : World} {cs : List Value} {x : ExT n} (h : RdE n w cs x) : ∃ (k : Int) (s : ByteArray) (t : Tm) (A : Option Addr) (m c : Nat), cs = [.int .i64 k, .string s, .int .i64 t.k, .string t.x, .string t.l, .string t.y, .slice A m c] := by
  match n, x, h with
  | n + 1, (k, s, t, kids), ⟨A, c, h, _⟩ => exact ⟨k, s, t, A, _, c, h⟩
set_option maxRecDepth 10000 in
set_option maxHeartbeats 2000000 in
theorem kitExprs (n : Nat) (hE : EqE 65 n) (a b : List (ExT n)) (A B : Option Addr) (c d : Nat) (w : World) (ha : RdEs n w A a) (hb : RdEs n w B b) (hl : a.length ≤ 1353245080300) (hl2 : b.length ≤ 1353245080300) (hza : ∀ x ∈ a, szE n x) (hzb : ∀ x ∈ b, szE n x) :
    Calls Tryz.prog 91 #[.slice A a.length c, .slice B b.length d] w fun e w' => e = .returned (.bool (eqL (sameE n) a b)) ∧ Below w.heap.size w w' := by
  by_cases hlen : a.length = b.length
  case neg =>
    have hne : eqL (sameE n) a b = false := eqL_len hlen
    have h1 : ((a.length : Int) != (b.length : Int)) = true := by rw [bne_iff_ne]; omega
    rw [hne]
    clear hne hlen
    go_enter Tryz.func91, Tryz.ntmps91
    go_wp2
    go_ret
    exact ⟨rfl, Below.refl _ _⟩
  have h1 : ((a.length : Int) != (b.length : Int)) = false := by simp; omega
  have hab : a.length ≤ b.length := by omega
  have Hlen := Lib.hid hlen
  clear hlen
  go_enter Tryz.func91, Tryz.ntmps91
  go_wp2
  go_loopw [5] (fun i wr => ∃ k : Nat, k ≤ a.length ∧ i = .int .i64 k ∧ Below w.heap.size w wr ∧ Hid (eqL (sameE n) a b = eqL (sameE n) (a.drop k) (b.drop k))) (fun i _ => a.length - (intOf i).toNat)
  case atStart => exact ⟨0, by omega, rfl, Below.refl _ _, rfl⟩
  case round =>
    obtain ⟨k, hk, rfl, hB, H⟩ := hrel
    by_cases hlt : k < a.length
    · obtain ⟨x, hx⟩ : ∃ x, a[k]? = some x := ⟨_, List.getElem?_eq_getElem hlt⟩
      obtain ⟨y, hy⟩ : ∃ x, b[k]? = some x := ⟨_, List.getElem?_eq_getElem (by omega)⟩
      have H2 : Hid (eqL (sameE n) a b = (sameE n x y && eqL (sameE n) (a.drop (k + 1)) (b.drop (k + 1)))) := by show _ = _; rw [H.out, eqL_cons hx hy]
      obtain ⟨g, o, k1, s1, t1, A1, m1, e1, rfl, hR, c0, c1, c2, c3, c4, c5, c6⟩ := (RdEs.later ha hB).atv hx
      obtain ⟨g', o', k2, s2, t2, A2, m2, e2, rfl, hS, d0, d1, d2, d3, d4, d5, d6⟩ := (RdEs.later hb hB).atv hy
      have hzx := hza x (List.mem_of_getElem? hx)
      have hzy := hzb y (List.mem_of_getElem? hy)
      have hlt2 : k < b.length := by omega
      have hc := fun d os => hE x y [.int .i64 k1, .string s1, .int .i64 t1.k, .string t1.x, .string t1.l, .string t1.y, .slice A1 m1 e1] [.int .i64 k2, .string s2, .int .i64 t2.k, .string t2.x, .string t2.l, .string t2.y, .slice A2 m2 e2] (Sort.grow (redrawn wr d) os) (hR.later (below_regrown wr d os)) (hS.later (below_regrown wr d os)) hzx hzy
      have p0 := fun d os => cell_regrown c0 d os
      have q0 := fun d os => cell_regrown d0 d os
      have p1 := fun d os => cell_regrown c1 d os
      have q1 := fun d os => cell_regrown d1 d os
      have p2 := fun d os => cell_regrown c2 d os
      have q2 := fun d os => cell_regrown d2 d os
      have p3 := fun d os => cell_regrown c3 d os
      have q3 := fun d os => cell_regrown d3 d os
      have p4 := fun d os => cell_regrown c4 d os
      have q4 := fun d os => cell_regrown d4 d os
      have p5 := fun d os => cell_regrown c5 d os
      have q5 := fun d os => cell_regrown d5 d os
      have p6 := fun d os => cell_regrown c6 d os
      have q6 := fun d os => cell_regrown d6 d os
      have HB := Lib.hid hB
      generalize sameE n x y = q at *
      clear hx hy ha hb hR hS hza hzb hE H hB c0 c1 c2 c3 c4 c5 c6 d0 d1 d2 d3 d4 d5 d6
      cases q
      · go_wp2
        refine wp_region_quiet_below (by kernel_rfl) (by kernel_rfl) ?_; (repeat (any_goals (go_big_quiet_step ((go_at_call 65; with_reducible exact Calls.regrown_of (hc _ _)))))); all_goals (refine wpQuiet_nil ?_; intro _ hw9; obtain ⟨⟨d9, os9⟩, hw8⟩ := hw9; subst hw8)
        have hB9 := below_regrown wr d9 os9
        clear p0 p1 p2 p3 p4 p5 p6 q0 q1 q2 q3 q4 q5 q6 hc
        go_wp2
        go_ret
        exact ⟨by rw [H2.out]; rfl, below_tr HB.out hB9⟩
      · go_wp2
        refine wp_region_quiet_below (by kernel_rfl) (by kernel_rfl) ?_; (repeat (any_goals (go_big_quiet_step ((go_at_call 65; with_reducible exact Calls.regrown_of (hc _ _)))))); all_goals (refine wpQuiet_nil ?_; intro _ hw9; obtain ⟨⟨d9, os9⟩, hw8⟩ := hw9; subst hw8)
        have hB9 := below_regrown wr d9 os9
        clear p0 p1 p2 p3 p4 p5 p6 q0 q1 q2 q3 q4 q5 q6 hc
        go_wp2
        go_roundw
        case rel => exact ⟨k+1, by omega, by go_num, below_tr HB.out hB9, by show _ = _; rw [H2.out]; rfl⟩
        case measure => simp [intOf]; omega
    · have H2 : Hid (eqL (sameE n) a b = true) := by show _ = _; rw [H.out, eqL_done (by omega) (by have := Hlen.out; omega)]
      clear ha hb H hE
      go_wp2
      go_ret
      exact ⟨by rw [H2.out]; rfl, hB⟩
set_option maxRecDepth 20000 in
set_option maxHeartbeats 2000000 in
theorem kitExpr : ∀ n : Nat, EqE 65 n
  | 0 => fun x _ _ _ _ h _ _ _ => h.elim
  | n + 1 => by
    rintro ⟨k, s, t, ks⟩ ⟨k', s', t', ks'⟩ cs ds W ⟨A, c, rfl, hc1, hr⟩ ⟨B, d, rfl, hd1, hr'⟩ ⟨z1, z2, z3, z4⟩ ⟨y1, y2, y3, y4⟩
    have hB2 : Below W.heap.size W ((W.alloc (.cells #[.int .i64 k, .string s, .int .i64 t.k, .string t.x, .string t.l, .string t.y, .slice A ks.length c] 31)).alloc (.cells #[.int .i64 k', .string s', .int .i64 t'.k, .string t'.x, .string t'.l, .string t'.y, .slice B ks'.length d] 31)) := (by repeat (first | exact Below.refl _ _ | assumption | exact (Below.refl _ _).alloc (Nat.le_refl _) _ | refine below_tr ?_ (by assumption) | refine below_alloc ?_ | refine below_tr ?_ (below_regrown _ _ _)))
    have hL := kitExprs n (kitExpr n) ks ks' A B c d _ (RdEs.later hr hB2) (RdEs.later hr' hB2) z3 y3 z4 y4
    have heq := fun W => run_eqTm t t' W
    obtain ⟨res, hres⟩ : ∃ r, sameE (n + 1) (k, s, t, ks) (k', s', t', ks') = r := ⟨_, rfl⟩
    rw [hres]
    have Hres : Hid (res = (k == k' && (s.toList == s'.toList) && sameTm t t' && eqL (sameE n) ks ks')) := by show _ = _; rw [← hres]; rfl
    have HB := Lib.hid hB2
    generalize eqL (sameE n) ks ks' = q4 at *
    generalize sameTm t t' = q3 at *
    clear hres hr hr' z1 z2 z3 z4 y1 y2 y3 y4 hB2 hc1 hd1
    cases h1 : (k == k')
    · have H0 : Hid (res = false) := by show _ = _; rw [Hres.out, h1]; rfl
      clear hL heq Hres
      go_enter Tryz.func65, Tryz.ntmps65
      go_wp2
      go_ret
      exact ⟨by rw [H0.out]; rfl, HB.out⟩
    · cases h2 : (s.toList == s'.toList)
      · have H0 : Hid (res = false) := by show _ = _; rw [Hres.out, h2]; simp
        clear hL heq Hres
        go_enter Tryz.func65, Tryz.ntmps65
        go_wp2
        go_ret
        exact ⟨by rw [H0.out]; rfl, HB.out⟩
      · cases q3
        · have H0 : Hid (res = false) := by show _ = _; rw [Hres.out]; simp
          clear hL Hres
          go_enter Tryz.func65, Tryz.ntmps65
          go_wp2
          go_ret
          exact ⟨by rw [H0.out]; rfl, HB.out⟩
        · have H0 : Hid (res = q4) := by show _ = _; rw [Hres.out, h1, h2]; simp
          clear Hres
          go_enter Tryz.func65, Tryz.ntmps65
          go_wp2_with (go_at_call 91; refine hL.mono ?_; rintro e w2 ⟨rfl, hb2⟩)
          go_ret
          exact ⟨by rw [H0.out]; rfl, below_tr HB.out hb2⟩
end Go.Proofs.YtfijpdmkdoccjaaGreatDoor
namespace Go.Proofs.YtfijpdmkdoccjaaGreatDoor
open Go Go.RowKit Mt

theorem below_drewN' {B : Nat} {a w : World} (h : Below B a w) (n : Nat) : Below B a (w.drewN n) := ⟨h.os, h.tape, h.output, h.size, h.block⟩
def sameTs (a b : List ByteArray) : Bool := decide (a = b)
def sameTo (a b : List ByteArray) (k : Nat) : Prop := ∀ j, j < k → a[j]? = b[j]?
end Go.Proofs.YtfijpdmkdoccjaaGreatDoor
namespace Go.Proofs.YtfijpdmkdoccjaaGreatDoor
open Go Go.RowKit Um Fm Mt
theorem bne_t {α : Type} [BEq α] {a b : α} (h : (a == b) = false) : (a != b) = true := by rw [bne, h]; rfl
theorem bne_f {α : Type} [BEq α] {a b : α} (h : (a == b) = true) : (a != b) = false := by rw [bne, h]; rfl

end Go.Proofs.YtfijpdmkdoccjaaGreatDoor
namespace Go.Proofs.YtfijpdmkdoccjaaGreatDoor
open Go Go.RowKit Um Fm Mt
theorem exprInfoC : (Tryz.prog.info? 31).map (fun i => (i.zero, i.size, i.bytes)) = some (some (.agg #[.int .i64 0, .string ⟨#[]⟩, .int .i64 0, .string ⟨#[]⟩, .string ⟨#[]⟩, .string ⟨#[]⟩, .slice none 0 0]), 7, 104) := by kernel_rfl
theorem strs1C (l : List ByteArray) : ∀ u ∈ l.map Value.string, u.oneCell' = true := by intro u hu; obtain ⟨x, _, rfl⟩ := List.mem_map.1 hu; rfl
theorem pats1C (l : List Pat) : ∀ u ∈ l.flatMap cPat, u.oneCell' = true := by
  intro u hu
  obtain ⟨t, _, ht⟩ := List.mem_flatMap.1 hu
  simp only [cPat, List.mem_cons, List.not_mem_nil, or_false] at ht
  rcases ht with rfl | rfl | rfl | rfl | rfl | rfl | rfl | rfl | rfl | rfl | rfl | rfl | rfl | rfl | rfl <;> rfl
theorem keys1C (l : List Ky) : ∀ u ∈ l.flatMap cKey, u.oneCell' = true := by
  intro u hu
  obtain ⟨t, _, ht⟩ := List.mem_flatMap.1 hu
  simp only [cKey, List.mem_cons, List.not_mem_nil, or_false] at ht
  rcases ht with rfl | rfl <;> rfl
theorem pats_lenC (l : List Pat) : (l.flatMap cPat).length = l.length * 15 := by
  induction l with
  | nil => rfl
  | cons a r ih => simp [List.flatMap_cons, ih, cPat, Nat.add_mul]
theorem keys_lenC (l : List Ky) : (l.flatMap cKey).length = l.length * 2 := by
  induction l with
  | nil => rfl
  | cons a r ih => simp [List.flatMap_cons, ih, cKey, Nat.add_mul]
theorem RdL.flatC {α : Type} {f : α → List Value} {sz : Nat} (hf : ∀ e, (f e).length = sz) {w : World} {A : Option Addr} {l : List α} : RdL sz (fun cs y => cs = f y) w A l ↔ Rd w A (l.flatMap f) := by
  constructor
  · rintro ⟨xs, h, ha⟩
    rw [← ha.flat]; exact h
  · intro h
    exact ⟨_, h, All.of_flat l fun e _ => hf e⟩
/-- What a copy of a list says. -/
def CopyR (n : Nat) (xs : List Value) (w : World) (e : Ending) (w' : World) : Prop := ∃ (A : Option Addr) (c : Nat), e = .returned (.slice A n c) ∧ n ≤ c ∧ Rd (wo (oldB w.heap.size) w') A xs ∧ Below w.heap.size w w'
theorem own_row {w : World} {base g : Nat} {e : TypeId} {size n : Nat} {v : Value} {xs : List Value} {vs : Array Value} (h : w.ownsRow base e size v n xs) (hne : v.ownBlock ≠ some g) : (w.setRow g vs).ownsRow base e size v n xs := by
  obtain ⟨h1, h2⟩ := h
  refine ⟨h1, ?_⟩
  rcases h2 with h2 | ⟨g', cap, cur, e1, e2, e3, e4⟩
  · exact .inl h2
  · exact .inr ⟨g', cap, cur, e1, e2, by rw [setRow_other _ _ _ _ (fun e => hne (by rw [e1, e]; rfl))]; exact e3, e4⟩
theorem own_down {w : World} {B B' : Nat} {e : TypeId} {size n : Nat} {v : Value} {xs : List Value} (h : w.ownsRow B e size v n xs) (hb : B' ≤ B) : w.ownsRow B' e size v n xs := by
  obtain ⟨h1, h2⟩ := h
  refine ⟨h1, ?_⟩
  rcases h2 with h2 | ⟨g, cap, cur, e1, e2, e3⟩
  · exact .inl h2
  · exact .inr ⟨g, cap, cur, e1, Nat.le_trans hb e2, e3⟩
theorem own_set {w : World} {B b : Nat} {e : TypeId} {size n : Nat} {v u : Value} {xs : List Value} (h : w.ownsRow B e size v n xs) (hb : b < B) (i : Nat) : (w.setCell ⟨b, i, none⟩ u).ownsRow B e size v n xs := by
  obtain ⟨h1, h2⟩ := h
  refine ⟨h1, ?_⟩
  rcases h2 with h2 | ⟨g, cap, cur, e1, e2, e3, e4⟩
  · exact .inl h2
  · exact .inr ⟨g, cap, cur, e1, e2, by rw [Below.heap_setCell _ _ _ _ (by simp; omega)]; exact e3, e4⟩
/-- A copy of a condition reads what the call made. -/
def CpR (n : Nat) (x : ExT n) (W : World) (e : Ending) (w' : World) : Prop := ∃ ds : List Value, e = .returned (.agg ds.toArray) ∧ RdE n (wo (oldB W.heap.size) w') ds x ∧ Below W.heap.size W w'
def CpI (n : Nat) (l : List (ExT n)) (w : World) (v i : Value) (wr : World) : Prop := ∃ (k : Nat) (v' : Value) (xs : List Value), k ≤ l.length ∧ i = .int .i64 k ∧ v = v' ∧ wr.ownsRow w.heap.size 31 7 v' k xs ∧ Below w.heap.size w wr ∧ All 7 (RdE n (wo (hideR w.heap.size v') wr)) xs (l.take k)
def CpRs (n : Nat) (l : List (ExT n)) (w : World) (e : Ending) (w' : World) : Prop := ∃ (A : Option Addr) (c : Nat), e = .returned (.slice A l.length c) ∧ l.length ≤ c ∧ RdEs n (wo (oldB w.heap.size) w') A l ∧ Below w.heap.size w w'
end Go.Proofs.YtfijpdmkdoccjaaGreatDoor
