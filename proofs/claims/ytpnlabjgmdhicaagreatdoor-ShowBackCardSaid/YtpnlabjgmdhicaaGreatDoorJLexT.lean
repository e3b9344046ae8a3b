/- The program's package lines: object. The program's package lines: triple. Words of lines: blanks behind a line, and another line behind them. Layer 9's laws, walked: awake, tells, same, blank; LexTells. Layer 9's laws, walked: tells, LexTells. Layer 9's laws, walked: blank, LexParts. -/
import Derived.Test.YtpnlabjgmdhicaaGreatDoorJLn7
import Derived.Test.YtpnlabjgmdhicaaGreatDoorJTx6
import Derived.Test.YtpnlabjgmdhicaaGreatDoorJUtfRef
import Derived.Test.YtpnlabjgmdhicaaGreatDoorJTxRd
namespace Go.Proofs.YtpnlabjgmdhicaaGreatDoor
open Go Go.RowKit Um Fm Lx Tx
/-- The next token, that has to be of one of some kinds, told in a slice made for it. -/
theorem rMustK (ks : List Nat) (cs : Array Value) (hcs : cs.toList = ks.map fun k : Nat => Value.int .i64 k) (T : TypeId) (m : Nat) (hm : m = ks.length) (b n : Nat) (s : Ls) (V : World) (h : CrAt V b n s) (hl : ks.length ≤ 1000) (hk : 0 ∉ ks) :
    Calls Tryz.prog 64 #[.pointer (some ⟨b, 0, none⟩), .slice (some ⟨V.heap.size, 0, none⟩) m m] (V.alloc (.cells cs T)) fun e w' => e = .returned (kA (mustP ks n s).1) ∧ CrAt w' b n (mustP ks n s).2 ∧ V.grownBy w' (some b) := by
  subst hm
  have hb : Below V.heap.size V (V.alloc (.cells cs T)) := (Below.refl _ V).alloc (Nat.le_refl _) _
  refine (rMust ks ks.length b n _ s _ (h.below hb) (Rd.of_block (heap_alloc_new V _) hcs) hl hk).mono ?_
  rintro e w' ⟨rfl, h1, h2⟩
  exact ⟨rfl, h1, (gr_of_below hb).trans h2⟩
theorem rMustD (ks : List Nat) (cs : Array Value) (hcs : cs.toList = ks.map fun k : Nat => Value.int .i64 k) (T : TypeId) (m : Nat) (hm : m = ks.length) (b n : Nat) (s : Ls) (W : World) (h : CrAt W b n s) (hl : ks.length ≤ 1000) (hk : 0 ∉ ks) :
    Calls Tryz.prog 64 #[.pointer (some ⟨b, 0, none⟩), .slice (some ⟨W.heap.size, 0, none⟩) m m] (W.drew.alloc (.cells cs T)) fun e w' => e = .returned (kA (mustP ks n s).1) ∧ CrAt w' b n (mustP ks n s).2 ∧ W.drew.grownBy w' (some b) :=
  rMustK ks cs hcs T m hm b n s W.drew (h.below (Below.refl _ _).drew) hl hk
theorem toksIsK (ks : List Nat) (cs : Array Value) (hcs : cs.toList = ks.map fun k : Nat => Value.int .i64 k) (T : TypeId) (m : Nat) (hm : m = ks.length) (b n : Nat) (s : Ls) (V : World) (h : CrAt V b n s) (hl : ks.length ≤ 1000) (hk : 0 ∉ ks) :
    Calls Tryz.prog 104 #[.pointer (some ⟨b, 0, none⟩), .slice (some ⟨V.heap.size, 0, none⟩) m m] (V.alloc (.cells cs T)) fun e w' => e = .returned (.bool (decide (headK s.r ∈ ks))) ∧ V.alloc (.cells cs T) = w' := by
  subst hm
  have hb : Below V.heap.size V (V.alloc (.cells cs T)) := (Below.refl _ V).alloc (Nat.le_refl _) _
  exact toksIs ks ks.length b n _ s _ (h.below hb) (Rd.of_block (heap_alloc_new V _) hcs) hl hk
def TsOk (r : List LTok) : Prop := ∀ t ∈ r, t.x.size ≤ 1000000
theorem must_ok {ks : List Nat} {n : Nat} {s : Ls} (h : TsOk s.r) : (mustP ks n s).1.x.size ≤ 1000000 ∧ TsOk (mustP ks n s).2.r := by
  obtain ⟨r, bad⟩ := s
  unfold mustP
  cases bad with
  | some p => exact ⟨by show (0 : Nat) ≤ 1000000; decide, h⟩
  | none =>
    cases r with
    | nil => exact ⟨by show (0 : Nat) ≤ 1000000; decide, h⟩
    | cons t r =>
      dsimp only
      split
      · exact ⟨h t (by simp), fun u hu => h u (by simp [hu])⟩
      · exact ⟨by show (0 : Nat) ≤ 1000000; decide, h⟩
/-- A token in its own block. -/
def kT (B : Nat) (t : LTok) (V : World) : Prop := V.heap[B]? = some (.cells #[.int .i64 t.k, .string t.x, .int .i64 t.p] 102 (0, 0))
theorem kT.d {B : Nat} {t : LTok} {V : World} (h : kT B t V) : V.cell? ⟨B, 0, none⟩ = some (.int .i64 t.k) ∧ V.cell? ⟨B, 1, none⟩ = some (.string t.x) ∧ V.cell? ⟨B, 2, none⟩ = some (.int .i64 t.p) :=
  ⟨by rw [Lib.cell_of_heap h]; rfl, by rw [Lib.cell_of_heap h]; rfl, by rw [Lib.cell_of_heap h]; rfl⟩
theorem kT.lt {B : Nat} {t : LTok} {V : World} (h : kT B t V) : B < V.heap.size := (Array.getElem?_eq_some_iff.1 h).1
theorem kT.grown {B b : Nat} {t : LTok} {V V' : World} (h : kT B t V) (hg : V.grownBy V' (some b)) (hb : b ≠ B) : kT B t V' := by
  have hlt := h.lt
  show V'.heap[B]? = _
  rw [hg.block _ hlt (by intro e; cases e; exact hb rfl)]
  exact h
theorem zT.gr {w V V' : World} {b : Nat} (h : zT w V) (hg : V.grownBy V' (some b)) (hb : b < w.heap.size) : zT w V' := h.grown hg hb
set_option maxHeartbeats 4000000 in
set_option maxRecDepth 20000 in
theorem rObject (b n : Nat) (s : Ls) (w : World) (h : CrAt w b n s) (ho : TsOk s.r) :
    Calls Tryz.prog 66 #[.pointer (some ⟨b, 0, none⟩)] w fun e w' => e = .returned (tA (objC n s).1) ∧ CrAt w' b n (objC n s).2 ∧ w.grownBy w' (some b) := by
  obtain ⟨hx, ho2⟩ := must_ok (ks := [1, 2, 3]) (n := n) ho
  have hlt := h.lt
  obtain ⟨W0, hW0⟩ : ∃ W0, W0 = w.alloc (.cells #[.int .i64 0, .string ⟨#[]⟩, .string ⟨#[]⟩, .string ⟨#[]⟩] 29) := ⟨_, rfl⟩
  have hB0 : Below w.heap.size w W0 := hW0 ▸ (Below.refl _ w).alloc (Nat.le_refl _) _
  have hz0 : zT w W0 := hW0 ▸ zT.new w
  have hs0 : W0.heap.size = w.heap.size + 1 := by rw [hW0]; simp
  have hm1 := rMustK [1, 2, 3] #[.int .i64 1, .int .i64 2, .int .i64 3] rfl 100 3 rfl b n s W0 (h.below hB0) (by decide) (by decide)
  have Hz0 := Lib.hid hz0
  have HB0 := Lib.hid hB0
  have Hs0 := Lib.hid hs0
  obtain ⟨res, hres⟩ : ∃ r, objC n s = r := ⟨_, rfl⟩
  rw [hres]
  have Hm : Hid (res = objC n s) := hres.symm
  clear hres
  unfold objC at Hm
  dsimp only at Hm
  generalize hma : mustP [1, 2, 3] n s = a at *
  obtain ⟨ta, s2⟩ := a
  simp only at hx ho2 hm1 Hm
  clear hB0 hz0 hs0 hma h ho
  rw [hW0] at hm1
  rw [show (w.alloc (.cells #[.int .i64 0, .string ⟨#[]⟩, .string ⟨#[]⟩, .string ⟨#[]⟩] 29)).heap.size = w.heap.size + 1 by simp] at hm1
  have HW0 := Lib.hid hW0
  clear hW0
  go_enter Tryz.func66, Tryz.ntmps66
  go_wp2_with fail
  refine hm1.mono ?_
  rintro e W1 ⟨rfl, hC1, hG1⟩
  rw [← HW0.out] at hG1
  have hB2 : Below W1.heap.size W1 (W1.alloc (.cells #[.int .i64 ta.k, .string ta.x, .int .i64 ta.p] 102)) := (Below.refl _ _).alloc (Nat.le_refl _) _
  have HC2 := Lib.hid (hC1.below hB2)
  have HZ2 := Lib.hid ((Hz0.out.grown hG1 hlt).step hB2)
  have HG2 := Lib.hid (((gr_of_below (b := b) HB0.out).trans hG1).trans (gr_of_below hB2))
  have hK2 : kT W1.heap.size ta (W1.alloc (.cells #[.int .i64 ta.k, .string ta.x, .int .i64 ta.p] 102)) := heap_alloc_new W1 _
  have hbB : b ≠ W1.heap.size := by have := hC1.lt; omega
  have HbB := Lib.hid hbB
  have hzB : w.heap.size ≠ W1.heap.size := by have := hG1.size; have := Hs0.out; omega
  have hlt2 : w.heap.size < (W1.alloc (.cells #[.int .i64 ta.k, .string ta.x, .int .i64 ta.p] 102)).heap.size := (Array.getElem?_eq_some_iff.1 HZ2.out).1
  go_upto_region 2 with fail
  change Code.wp _ _ _ _ (W1.alloc (.cells #[.int .i64 ta.k, .string ta.x, .int .i64 ta.p] 102))
  have hltB : W1.heap.size < (W1.alloc (.cells #[.int .i64 ta.k, .string ta.x, .int .i64 ta.p] 102)).heap.size := hK2.lt
  generalize W1.alloc (.cells #[.int .i64 ta.k, .string ta.x, .int .i64 ta.p] 102) = W2 at *
  generalize W1.heap.size = B at *
  obtain ⟨k0, k1, k2⟩ := hK2.d
  have HK2 := Lib.hid hK2
  clear hC1 hG1 hB2 hK2 HB0 Hz0 HW0 Hs0
  by_cases h3 : ta.k = 3
  · have hq3 : ((ta.k : Int) != 3) = false := by simp [h3]
    have hi4 := toksIsK [4] #[.int .i64 4] rfl 100 1 rfl b n s2 W2 HC2.out (by decide) (by decide)
    have hb4 : Below W2.heap.size W2 (W2.alloc (.cells #[.int .i64 4] 100)) := (Below.refl _ _).alloc (Nat.le_refl _) _
    rw [if_pos h3] at Hm
    by_cases h4 : headK s2.r = 4
    · rw [if_pos h4] at Hm
      have hd4 : decide (headK s2.r ∈ [4]) = true := by simp [h4]
      rw [hd4] at hi4
      obtain ⟨W3, hW3⟩ : ∃ W3, W3 = W2.alloc (.cells #[.int .i64 4] 100) := ⟨_, rfl⟩
      rw [← hW3] at hb4
      have HW3 := Lib.hid hW3
      have hs3 : W2.heap.size < W3.heap.size := by rw [hW3]; simp
      clear hW3
      have HC3 := Lib.hid (HC2.out.below hb4)
      have HZ3 := Lib.hid (HZ2.out.step hb4)
      have HG3 := Lib.hid (HG2.out.trans (gr_of_below hb4))
      have HK3 := Lib.hid (HK2.out.grown (gr_of_below (b := b) hb4) hbB)
      have hm4 := rMustD [4] #[.int .i64 4] rfl 100 1 rfl b n s2 W3 HC3.out (by decide) (by decide)
      have hx4 := (must_ok (ks := [4]) (n := n) ho2).1
      generalize mustP [4] n s2 = a4 at *
      obtain ⟨t4, s4⟩ := a4
      simp only at hm4 hx4 Hm
      have hfd : ∀ W : World, (Instr.field 102 (kA t4) 1).run Tryz.prog W = .ok (.string t4.x) W := fun W => by kernel_rfl
      have htg := fun W => termTagged ta.x t4.x W hx4
      clear h3 h4 hd4 hb4 hbB
      go_wp2_with fail
      refine hi4.mono ?_
      rintro e w3 ⟨rfl, hw3⟩
      rw [← HW3.out] at hw3
      subst hw3
      go_wp2_with fail
      have l1 := HK3.out.d.2.1
      have hltB3 := HK3.out.lt
      clear k0 k1 k2 hltB hlt2
      go_region_with (first
        | (go_at_call 64; refine hm4.mono ?_; rintro e W5 ⟨rfl, hC5, hG5⟩; have HC5 := Lib.hid hC5; have HG5 := Lib.hid ((HG3.out.trans (gr_of_below (b := b) (Below.refl _ _).drew)).trans hG5); have HZ5 := Lib.hid ((HZ3.out.step (Below.refl _ _).drew).grown hG5 hlt); have m1 := ((HK3.out.grown (gr_of_below (b := b) (Below.refl _ _).drew) HbB.out).grown hG5 HbB.out).d.2.1; clear hC5 hG5)
        | (go_at_call 25; refine (htg _).mono ?_; rintro e W6 ⟨rfl, hB6⟩; have HC6 := Lib.hid (HC5.out.below hB6); have HG6 := Lib.hid (HG5.out.trans (gr_of_below (b := b) hB6)); obtain ⟨d0, d1, d2, d3, f0⟩ := (HZ5.out.step hB6).d; clear hB6))
      all_goals
        go_wp2
        refine bodyPost_ret (v := tmA 3 ta.x (lowS t4.x) ⟨#[]⟩) (by simp [results, Tryz.results66, go_sem, d0, d1, d2, d3]) rfl ?_
        rw [Hm.out]
        refine ⟨rfl, ?_, ?_⟩
        · exact (((HC6.out.other hlt _ _).other hlt _ _).other hlt _ _).other hlt _ _
        · exact gr_set (gr_set (gr_set (gr_set HG6.out (Nat.le_refl _) _ _) (Nat.le_refl _) _ _) (Nat.le_refl _) _ _) (Nat.le_refl _) _ _
    · rw [if_neg h4] at Hm
      have hd4 : decide (headK s2.r ∈ [4]) = false := by simp [h4]
      rw [hd4] at hi4
      obtain ⟨W3, hW3⟩ : ∃ W3, W3 = W2.alloc (.cells #[.int .i64 4] 100) := ⟨_, rfl⟩
      rw [← hW3] at hb4
      have HW3 := Lib.hid hW3
      have hs3 : W2.heap.size < W3.heap.size := by rw [hW3]; simp
      clear hW3
      have HC3 := Lib.hid (HC2.out.below hb4)
      have HZ3 := Lib.hid (HZ2.out.step hb4)
      have HG3 := Lib.hid (HG2.out.trans (gr_of_below hb4))
      have HK3 := Lib.hid (HK2.out.grown (gr_of_below (b := b) hb4) hbB)
      have hi5 := toksIsK [5] #[.int .i64 5] rfl 100 1 rfl b n s2 W3 HC3.out (by decide) (by decide)
      have hb5 : Below W3.heap.size W3 (W3.alloc (.cells #[.int .i64 5] 100)) := (Below.refl _ _).alloc (Nat.le_refl _) _
      obtain ⟨W4, hW4⟩ : ∃ W4, W4 = W3.alloc (.cells #[.int .i64 5] 100) := ⟨_, rfl⟩
      rw [← hW4] at hb5
      have HW4 := Lib.hid hW4
      have hs4 : W3.heap.size < W4.heap.size := by rw [hW4]; simp
      clear hW4
      have HC4 := Lib.hid (HC3.out.below hb5)
      have HZ4 := Lib.hid (HZ3.out.step hb5)
      have HG4 := Lib.hid (HG3.out.trans (gr_of_below hb5))
      have HK4 := Lib.hid (HK3.out.grown (gr_of_below (b := b) hb5) hbB)
      by_cases h5 : headK s2.r = 5
      · rw [if_pos h5] at Hm
        have hd5 : decide (headK s2.r ∈ [5]) = true := by simp [h5]
        rw [hd5] at hi5
        have hm5 := rMustK [5] #[.int .i64 5] rfl 100 1 rfl b n s2 W4 HC4.out (by decide) (by decide)
        have ho5 := (must_ok (ks := [5]) (n := n) ho2).2
        generalize mustP [5] n s2 = a5 at *
        obtain ⟨t5, s5⟩ := a5
        simp only at hm5 ho5 Hm
        have hm6 := fun W hC => rMustD [1] #[.int .i64 1] rfl 100 1 rfl b n s5 W hC (by decide) (by decide)
        have hx6 := (must_ok (ks := [1]) (n := n) ho5).1
        generalize mustP [1] n s5 = a6 at *
        obtain ⟨t6, s6⟩ := a6
        simp only at hm6 hx6 Hm
        have hfd : ∀ W : World, (Instr.field 102 (kA t6) 1).run Tryz.prog W = .ok (.string t6.x) W := fun W => by kernel_rfl
        have htg := fun W => termTyped ta.x t6.x W
        clear h3 h4 h5 hd4 hd5 hb4 hb5 hbB
        go_wp2_with fail
        refine hi4.mono ?_
        rintro e w3 ⟨rfl, hw3⟩
        rw [← HW3.out] at hw3
        subst hw3
        go_wp2_with fail
        refine hi5.mono ?_
        rintro e w4 ⟨rfl, hw4⟩
        rw [← HW4.out] at hw4
        subst hw4
        go_wp2_with fail
        refine hm5.mono ?_
        rintro e W5 ⟨rfl, hC5, hG5⟩
        have HC5 := Lib.hid hC5
        have HG5 := Lib.hid (HG4.out.trans hG5)
        have HZ5 := Lib.hid (HZ4.out.grown hG5 hlt)
        have HK5 := Lib.hid (HK4.out.grown hG5 HbB.out)
        have hm6 := hm6 W5 hC5
        clear hC5 hG5
        go_wp2_with fail
        have l1 := HK5.out.d.2.1
        have hltB5 := HK5.out.lt
        clear k0 k1 k2 hltB hlt2
        go_region_with (first
          | (go_at_call 64; refine hm6.mono ?_; rintro e W6 ⟨rfl, hC6, hG6⟩; have HC6 := Lib.hid hC6; have HG6 := Lib.hid ((HG5.out.trans (gr_of_below (b := b) (Below.refl _ _).drew)).trans hG6); have HZ6 := Lib.hid ((HZ5.out.step (Below.refl _ _).drew).grown hG6 hlt); have m1 := ((HK5.out.grown (gr_of_below (b := b) (Below.refl _ _).drew) HbB.out).grown hG6 HbB.out).d.2.1; clear hC6 hG6)
          | (go_at_call 26; refine (htg _).mono ?_; rintro e W7 ⟨rfl, hB7⟩; have HC7 := Lib.hid (HC6.out.below hB7); have HG7 := Lib.hid (HG6.out.trans (gr_of_below (b := b) hB7)); obtain ⟨d0, d1, d2, d3, f0⟩ := (HZ6.out.step hB7).d; clear hB7))
        all_goals
          go_wp2
          refine bodyPost_ret (v := tA (typedT ta.x t6.x)) (by simp [results, Tryz.results66, go_sem, d0, d1, d2, d3]) rfl ?_
          rw [Hm.out]
          refine ⟨rfl, ?_, ?_⟩
          · exact (((HC7.out.other hlt _ _).other hlt _ _).other hlt _ _).other hlt _ _
          · exact gr_set (gr_set (gr_set (gr_set HG7.out (Nat.le_refl _) _ _) (Nat.le_refl _) _ _) (Nat.le_refl _) _ _) (Nat.le_refl _) _ _
      · rw [if_neg h5] at Hm
        have hd5 : decide (headK s2.r ∈ [5]) = false := by simp [h5]
        rw [hd5] at hi5
        have htg := fun W => termLiteral ta.x W
        clear h3 h4 h5 hd4 hd5 hb4 hb5 hbB
        go_wp2_with fail
        refine hi4.mono ?_
        rintro e w3 ⟨rfl, hw3⟩
        rw [← HW3.out] at hw3
        subst hw3
        go_wp2_with fail
        refine hi5.mono ?_
        rintro e w4 ⟨rfl, hw4⟩
        rw [← HW4.out] at hw4
        subst hw4
        have l1 := HK4.out.d.2.1
        clear k0 k1 k2 hltB hlt2
        go_wp2_with fail
        refine (htg _).mono ?_
        rintro e W7 ⟨rfl, hB7⟩
        have HC7 := Lib.hid (HC4.out.below hB7)
        have HG7 := Lib.hid (HG4.out.trans (gr_of_below (b := b) hB7))
        obtain ⟨d0, d1, d2, d3, f0⟩ := (HZ4.out.step hB7).d
        clear hB7
        go_wp2
        refine bodyPost_ret (v := tA ⟨3, ta.x, ⟨#[]⟩, ⟨#[]⟩⟩) (by simp [results, Tryz.results66, go_sem, d0, d1, d2, d3]) rfl ?_
        rw [Hm.out]
        refine ⟨rfl, ?_, ?_⟩
        · exact (((HC7.out.other hlt _ _).other hlt _ _).other hlt _ _).other hlt _ _
        · exact gr_set (gr_set (gr_set (gr_set HG7.out (Nat.le_refl _) _ _) (Nat.le_refl _) _ _) (Nat.le_refl _) _ _) (Nat.le_refl _) _ _
  · rw [if_neg h3] at Hm
    have hq3 : ((ta.k : Int) != 3) = true := by simp; omega
    have hnm := linesNamed ta W2
    clear h3
    go_wp2_with fail
    refine hnm.mono ?_
    rintro e W3 ⟨rfl, hB3⟩
    have HC3 := Lib.hid (HC2.out.below hB3)
    have HG3 := Lib.hid (HG2.out.trans (gr_of_below hB3))
    obtain ⟨d0, d1, d2, d3, f0⟩ := (HZ2.out.step hB3).d
    clear hB3
    go_wp2
    refine bodyPost_ret (v := tA (namedP ta)) (by simp [results, Tryz.results66, go_sem, d0, d1, d2, d3]) rfl ?_
    rw [Hm.out]
    refine ⟨rfl, ?_, ?_⟩
    · exact (((HC3.out.other hlt _ _).other hlt _ _).other hlt _ _).other hlt _ _
    · exact gr_set (gr_set (gr_set (gr_set HG3.out (Nat.le_refl _) _ _) (Nat.le_refl _) _ _) (Nat.le_refl _) _ _) (Nat.le_refl _) _ _
end Go.Proofs.YtpnlabjgmdhicaaGreatDoor
namespace Go.Proofs.YtpnlabjgmdhicaaGreatDoor
open Go Go.RowKit Um Fm Lx Tx
/-- A block of cells. -/
def bkT (z : Nat) (T : TypeId) (cs : Array Value) (V : World) : Prop := V.heap[z]? = some (.cells cs T (0, 0))
theorem bkT.lt {z : Nat} {T : TypeId} {cs : Array Value} {V : World} (h : bkT z T cs V) : z < V.heap.size := (Array.getElem?_eq_some_iff.1 h).1
theorem bkT.grown {z b : Nat} {T : TypeId} {cs : Array Value} {V V' : World} (h : bkT z T cs V) (hg : V.grownBy V' (some b)) (hb : b ≠ z) : bkT z T cs V' := by
  have hlt := h.lt
  show V'.heap[z]? = _
  rw [hg.block _ hlt (by intro e; cases e; exact hb rfl)]
  exact h
theorem bkT.step {z : Nat} {T : TypeId} {cs : Array Value} {V V' : World} (h : bkT z T cs V) (hb : Below V.heap.size V V') : bkT z T cs V' := below_blk hb h
theorem bkT.set {z : Nat} {T : TypeId} {cs : Array Value} {V : World} (h : bkT z T cs V) (i : Nat) (v : Value) : bkT z T (cs.setIfInBounds i v) (V.setCell ⟨z, i, none⟩ v) := by
  unfold bkT at *
  simp [World.setCell, Array.getElem?_modify, h]
theorem bkT.cell {z : Nat} {T : TypeId} {cs : Array Value} {V : World} (h : bkT z T cs V) (i : Nat) {u : Value} (hu : cs[i]? = some u) : V.cell? ⟨z, i, none⟩ = some u := by rw [Lib.cell_of_heap h]; exact hu
theorem bkT.fz {z : Nat} {T : TypeId} {cs : Array Value} {V : World} (h : bkT z T cs V) (i : Nat) : V.frozen? ⟨z, i, none⟩ = false := Lib.frozen_of_heap h i
theorem CrAt.set4 {w : World} {b n : Nat} {s : Ls} (h : CrAt w b n s) {tb : Nat} (ht : b < tb) (i : Nat) (v0 v1 v2 v3 : Value) : CrAt ((((w.setCell ⟨tb, i, none⟩ v0).setCell ⟨tb, i + 1, none⟩ v1).setCell ⟨tb, i + 2, none⟩ v2).setCell ⟨tb, i + 3, none⟩ v3) b n s :=
  (((h.other ht _ _).other ht _ _).other ht _ _).other ht _ _
theorem gr_set4 {w wx : World} {b tb : Nat} (h : w.grownBy wx (some b)) (ht : w.heap.size ≤ tb) (i : Nat) (v0 v1 v2 v3 : Value) : w.grownBy ((((wx.setCell ⟨tb, i, none⟩ v0).setCell ⟨tb, i + 1, none⟩ v1).setCell ⟨tb, i + 2, none⟩ v2).setCell ⟨tb, i + 3, none⟩ v3) (some b) :=
  gr_set (gr_set (gr_set (gr_set h ht _ _) ht _ _) ht _ _) ht _ _
theorem bkT.set4 {z : Nat} {T : TypeId} {cs : Array Value} {V : World} (h : bkT z T cs V) (i : Nat) (v0 v1 v2 v3 : Value) : bkT z T ((((cs.setIfInBounds i v0).setIfInBounds (i + 1) v1).setIfInBounds (i + 2) v2).setIfInBounds (i + 3) v3) ((((V.setCell ⟨z, i, none⟩ v0).setCell ⟨z, i + 1, none⟩ v1).setCell ⟨z, i + 2, none⟩ v2).setCell ⟨z, i + 3, none⟩ v3) :=
  (((h.set i v0).set (i + 1) v1).set (i + 2) v2).set (i + 3) v3
def zCs : Array Value := #[.int .i64 0, .string ⟨#[]⟩, .string ⟨#[]⟩, .string ⟨#[]⟩, .int .i64 0, .string ⟨#[]⟩, .string ⟨#[]⟩, .string ⟨#[]⟩, .int .i64 0, .string ⟨#[]⟩, .string ⟨#[]⟩, .string ⟨#[]⟩]
set_option maxHeartbeats 4000000 in
set_option maxRecDepth 20000 in
theorem rTriple (b n : Nat) (s : Ls) (w : World) (h : CrAt w b n s) (ho : TsOk s.r) :
    Calls Tryz.prog 45 #[.pointer (some ⟨b, 0, none⟩)] w fun e w' => e = .returned (tpA ⟨(tripC n s).1.1, (tripC n s).1.2.1, (tripC n s).1.2.2⟩) ∧ CrAt w' b n (tripC n s).2 ∧ w.grownBy w' (some b) := by
  have hlt := h.lt
  obtain ⟨res, hres⟩ : ∃ r, tripC n s = r := ⟨_, rfl⟩
  rw [hres]
  have Hm : Hid (res = tripC n s) := hres.symm
  clear hres
  unfold tripC at Hm
  dsimp only at Hm
  obtain ⟨W0, hW0⟩ : ∃ W0, W0 = w.alloc (.cells zCs 31) := ⟨_, rfl⟩
  have hB0 : Below w.heap.size w W0 := hW0 ▸ (Below.refl _ w).alloc (Nat.le_refl _) _
  have hz0 : bkT w.heap.size 31 zCs W0 := hW0 ▸ heap_alloc_new w _
  have hs0 : W0.heap.size = w.heap.size + 1 := by rw [hW0]; simp
  have hm1 := rMustK [1, 2] #[.int .i64 1, .int .i64 2] rfl 100 2 rfl b n s W0 (h.below hB0) (by decide) (by decide)
  have o1 := (must_ok (ks := [1, 2]) (n := n) ho).2
  generalize mustP [1, 2] n s = a1 at *
  obtain ⟨t1, s1⟩ := a1
  simp only at o1 hm1 Hm
  have hm2 := fun W hC => rMustK [1] #[.int .i64 1] rfl 100 1 rfl b n s1 W hC (by decide) (by decide)
  have o2 := (must_ok (ks := [1]) (n := n) o1).2
  generalize mustP [1] n s1 = a2 at *
  obtain ⟨t2, s2⟩ := a2
  simp only at o2 hm2 Hm
  have hob := fun W hC => rObject b n s2 W hC o2
  generalize objC n s2 = a3 at *
  obtain ⟨o, s3⟩ := a3
  simp only at hob Hm
  have hm4 := fun W hC => rMustK [6] #[.int .i64 6] rfl 100 1 rfl b n s3 W hC (by decide) (by decide)
  generalize mustP [6] n s3 = a4 at *
  obtain ⟨t4, s4⟩ := a4
  simp only at hm4 Hm
  have HZ0 := Lib.hid hz0
  have HB0 := Lib.hid hB0
  have HW0 := Lib.hid hW0
  have hn1 := fun W => linesNamed t1 W
  have hn2 := fun W => linesNamed t2 W
  generalize namedP t1 = m1 at *
  generalize namedP t2 = m2 at *
  rw [hs0, hW0] at hm1
  clear hB0 hz0 hs0 hW0 h ho
  have hbz : b ≠ w.heap.size := by omega
  have Hbz := Lib.hid hbz
  unfold zCs at hm1
  go_enter Tryz.func45, Tryz.ntmps45
  go_wp2_with fail
  refine hm1.mono ?_
  rintro e W1 ⟨rfl, hC1, hG1⟩
  have hG1 : W0.grownBy W1 (some b) := by rw [HW0.out]; exact hG1
  have HC1 := Lib.hid hC1
  have HG1 := Lib.hid ((gr_of_below (b := b) HB0.out).trans hG1)
  have HZ1 := Lib.hid (HZ0.out.grown hG1 Hbz.out)
  clear hC1 hG1
  go_wp2_with fail
  refine (hn1 _).mono ?_
  rintro e W2 ⟨rfl, hB2⟩
  have HC2 := Lib.hid (HC1.out.below hB2)
  have HG2 := Lib.hid (HG1.out.trans (gr_of_below (b := b) hB2))
  have HZ2 := Lib.hid (HZ1.out.step hB2)
  have f2 := HZ2.out.fz
  have c0 := HZ2.out.cell 0 rfl
  have c1 := HZ2.out.cell 1 rfl
  have c2 := HZ2.out.cell 2 rfl
  have c3 := HZ2.out.cell 3 rfl
  clear hB2
  go_upto_region 2 with fail
  change Code.wp _ _ _ _ ((((W2.setCell ⟨w.heap.size, 0, none⟩ (.int .i64 m1.k)).setCell ⟨w.heap.size, 1, none⟩ (.string m1.x)).setCell ⟨w.heap.size, 2, none⟩ (.string m1.l)).setCell ⟨w.heap.size, 3, none⟩ (.string m1.y))
  have HC3 : Hid (CrAt ((((W2.setCell ⟨w.heap.size, 0, none⟩ (.int .i64 m1.k)).setCell ⟨w.heap.size, 1, none⟩ (.string m1.x)).setCell ⟨w.heap.size, 2, none⟩ (.string m1.l)).setCell ⟨w.heap.size, 3, none⟩ (.string m1.y)) b n s1) := HC2.out.set4 hlt 0 (.int .i64 m1.k) (.string m1.x) (.string m1.l) (.string m1.y)
  have HG3 : Hid (w.grownBy ((((W2.setCell ⟨w.heap.size, 0, none⟩ (.int .i64 m1.k)).setCell ⟨w.heap.size, 1, none⟩ (.string m1.x)).setCell ⟨w.heap.size, 2, none⟩ (.string m1.l)).setCell ⟨w.heap.size, 3, none⟩ (.string m1.y)) (some b)) := gr_set4 HG2.out (Nat.le_refl _) 0 (.int .i64 m1.k) (.string m1.x) (.string m1.l) (.string m1.y)
  have HZ3 : Hid (bkT w.heap.size 31 #[.int .i64 m1.k, .string m1.x, .string m1.l, .string m1.y, .int .i64 0, .string ⟨#[]⟩, .string ⟨#[]⟩, .string ⟨#[]⟩, .int .i64 0, .string ⟨#[]⟩, .string ⟨#[]⟩, .string ⟨#[]⟩] ((((W2.setCell ⟨w.heap.size, 0, none⟩ (.int .i64 m1.k)).setCell ⟨w.heap.size, 1, none⟩ (.string m1.x)).setCell ⟨w.heap.size, 2, none⟩ (.string m1.l)).setCell ⟨w.heap.size, 3, none⟩ (.string m1.y))) := HZ2.out.set4 0 (.int .i64 m1.k) (.string m1.x) (.string m1.l) (.string m1.y)
  clear f2 c0 c1 c2 c3
  generalize ((((W2.setCell ⟨w.heap.size, 0, none⟩ (.int .i64 m1.k)).setCell ⟨w.heap.size, 1, none⟩ (.string m1.x)).setCell ⟨w.heap.size, 2, none⟩ (.string m1.l)).setCell ⟨w.heap.size, 3, none⟩ (.string m1.y)) = W3 at *
  go_wp2_with fail
  refine (hm2 W3 HC3.out).mono ?_
  rintro e W4 ⟨rfl, hC4, hG4⟩
  have HC4 := Lib.hid hC4
  have HG4 := Lib.hid (HG3.out.trans hG4)
  have HZ4 := Lib.hid (HZ3.out.grown hG4 Hbz.out)
  clear hC4 hG4
  go_wp2_with fail
  refine (hn2 _).mono ?_
  rintro e W5 ⟨rfl, hB5⟩
  have HC5 := Lib.hid (HC4.out.below hB5)
  have HG5 := Lib.hid (HG4.out.trans (gr_of_below (b := b) hB5))
  have HZ5 := Lib.hid (HZ4.out.step hB5)
  have f5 := HZ5.out.fz
  have c4 := HZ5.out.cell 4 rfl
  have c5 := HZ5.out.cell 5 rfl
  have c6 := HZ5.out.cell 6 rfl
  have c7 := HZ5.out.cell 7 rfl
  clear hB5
  go_upto_region 3 with fail
  change Code.wp _ _ _ _ ((((W5.setCell ⟨w.heap.size, 4, none⟩ (.int .i64 m2.k)).setCell ⟨w.heap.size, 5, none⟩ (.string m2.x)).setCell ⟨w.heap.size, 6, none⟩ (.string m2.l)).setCell ⟨w.heap.size, 7, none⟩ (.string m2.y))
  have HC6 : Hid (CrAt ((((W5.setCell ⟨w.heap.size, 4, none⟩ (.int .i64 m2.k)).setCell ⟨w.heap.size, 5, none⟩ (.string m2.x)).setCell ⟨w.heap.size, 6, none⟩ (.string m2.l)).setCell ⟨w.heap.size, 7, none⟩ (.string m2.y)) b n s2) := HC5.out.set4 hlt 4 (.int .i64 m2.k) (.string m2.x) (.string m2.l) (.string m2.y)
  have HG6 : Hid (w.grownBy ((((W5.setCell ⟨w.heap.size, 4, none⟩ (.int .i64 m2.k)).setCell ⟨w.heap.size, 5, none⟩ (.string m2.x)).setCell ⟨w.heap.size, 6, none⟩ (.string m2.l)).setCell ⟨w.heap.size, 7, none⟩ (.string m2.y)) (some b)) := gr_set4 HG5.out (Nat.le_refl _) 4 (.int .i64 m2.k) (.string m2.x) (.string m2.l) (.string m2.y)
  have HZ6 : Hid (bkT w.heap.size 31 #[.int .i64 m1.k, .string m1.x, .string m1.l, .string m1.y, .int .i64 m2.k, .string m2.x, .string m2.l, .string m2.y, .int .i64 0, .string ⟨#[]⟩, .string ⟨#[]⟩, .string ⟨#[]⟩] ((((W5.setCell ⟨w.heap.size, 4, none⟩ (.int .i64 m2.k)).setCell ⟨w.heap.size, 5, none⟩ (.string m2.x)).setCell ⟨w.heap.size, 6, none⟩ (.string m2.l)).setCell ⟨w.heap.size, 7, none⟩ (.string m2.y))) := HZ5.out.set4 4 (.int .i64 m2.k) (.string m2.x) (.string m2.l) (.string m2.y)
  clear f5 c4 c5 c6 c7
  generalize ((((W5.setCell ⟨w.heap.size, 4, none⟩ (.int .i64 m2.k)).setCell ⟨w.heap.size, 5, none⟩ (.string m2.x)).setCell ⟨w.heap.size, 6, none⟩ (.string m2.l)).setCell ⟨w.heap.size, 7, none⟩ (.string m2.y)) = W6 at *
  go_wp2_with fail
  refine (hob W6 HC6.out).mono ?_
  rintro e W7 ⟨rfl, hC7, hG7⟩
  have HC7 := Lib.hid hC7
  have HG7 := Lib.hid (HG6.out.trans hG7)
  have HZ7 := Lib.hid (HZ6.out.grown hG7 Hbz.out)
  have f7 := HZ7.out.fz
  have c8 := HZ7.out.cell 8 rfl
  have c9 := HZ7.out.cell 9 rfl
  have c10 := HZ7.out.cell 10 rfl
  have c11 := HZ7.out.cell 11 rfl
  clear hC7 hG7
  go_upto_region 4 with fail
  change Code.wp _ _ _ _ ((((W7.setCell ⟨w.heap.size, 8, none⟩ (.int .i64 o.k)).setCell ⟨w.heap.size, 9, none⟩ (.string o.x)).setCell ⟨w.heap.size, 10, none⟩ (.string o.l)).setCell ⟨w.heap.size, 11, none⟩ (.string o.y))
  have HC8 : Hid (CrAt ((((W7.setCell ⟨w.heap.size, 8, none⟩ (.int .i64 o.k)).setCell ⟨w.heap.size, 9, none⟩ (.string o.x)).setCell ⟨w.heap.size, 10, none⟩ (.string o.l)).setCell ⟨w.heap.size, 11, none⟩ (.string o.y)) b n s3) := HC7.out.set4 hlt 8 (.int .i64 o.k) (.string o.x) (.string o.l) (.string o.y)
  have HG8 : Hid (w.grownBy ((((W7.setCell ⟨w.heap.size, 8, none⟩ (.int .i64 o.k)).setCell ⟨w.heap.size, 9, none⟩ (.string o.x)).setCell ⟨w.heap.size, 10, none⟩ (.string o.l)).setCell ⟨w.heap.size, 11, none⟩ (.string o.y)) (some b)) := gr_set4 HG7.out (Nat.le_refl _) 8 (.int .i64 o.k) (.string o.x) (.string o.l) (.string o.y)
  have HZ8 : Hid (bkT w.heap.size 31 (tpC ⟨m1, m2, o⟩) ((((W7.setCell ⟨w.heap.size, 8, none⟩ (.int .i64 o.k)).setCell ⟨w.heap.size, 9, none⟩ (.string o.x)).setCell ⟨w.heap.size, 10, none⟩ (.string o.l)).setCell ⟨w.heap.size, 11, none⟩ (.string o.y))) := HZ7.out.set4 8 (.int .i64 o.k) (.string o.x) (.string o.l) (.string o.y)
  clear f7 c8 c9 c10 c11
  generalize ((((W7.setCell ⟨w.heap.size, 8, none⟩ (.int .i64 o.k)).setCell ⟨w.heap.size, 9, none⟩ (.string o.x)).setCell ⟨w.heap.size, 10, none⟩ (.string o.l)).setCell ⟨w.heap.size, 11, none⟩ (.string o.y)) = W8 at *
  go_wp2_with fail
  refine (hm4 W8 HC8.out).mono ?_
  rintro e W9 ⟨rfl, hC9, hG9⟩
  have HC9 := Lib.hid hC9
  have HG9 := Lib.hid (HG8.out.trans hG9)
  have HZ9 := HZ8.out.grown hG9 Hbz.out
  have f9 := HZ9.fz
  have d0 := HZ9.cell 0 rfl
  have d1 := HZ9.cell 1 rfl
  have d2 := HZ9.cell 2 rfl
  have d3 := HZ9.cell 3 rfl
  have d4 := HZ9.cell 4 rfl
  have d5 := HZ9.cell 5 rfl
  have d6 := HZ9.cell 6 rfl
  have d7 := HZ9.cell 7 rfl
  have d8 := HZ9.cell 8 rfl
  have d9 := HZ9.cell 9 rfl
  have d10 := HZ9.cell 10 rfl
  have d11 := HZ9.cell 11 rfl
  clear hC9 hG9 HZ9
  go_wp2
  refine bodyPost_ret (v := tpA ⟨m1, m2, o⟩) (by simp [results, Tryz.results45, go_sem, d0, d1, d2, d3, d4, d5, d6, d7, d8, d9, d10, d11]) rfl ?_
  rw [Hm.out]
  refine ⟨rfl, ?_, ?_⟩
  · exact ((HC9.out.set4 hlt 0 _ _ _ _).set4 hlt 4 _ _ _ _).set4 hlt 8 _ _ _ _
  · exact gr_set4 (gr_set4 (gr_set4 HG9.out (Nat.le_refl _) 0 _ _ _ _) (Nat.le_refl _) 4 _ _ _ _) (Nat.le_refl _) 8 _ _ _ _
end Go.Proofs.YtpnlabjgmdhicaaGreatDoor
namespace Go.Proofs.YtpnlabjgmdhicaaGreatDoor
namespace Lx
open Go Go.Lib Um
theorem lnL_gap (r : List UInt8) : ∀ (g : List UInt8) (p : Nat), (∀ i, i < g.length → blankC (g.getD i 0).toNat) → lnL (g ++ r) p = lnL r (p + g.length)
  | [], p, _ => rfl
  | c :: g, p, h => by
    rw [List.cons_append, lnL_blank p (by simp) (by have := h 0 (by simp); simpa [c0] using this)]
    rw [List.drop_one, List.tail_cons, lnL_gap r g (p + 1) (fun i hi => by have := h (i + 1) (by simp; omega); simpa using this), List.length_cons]
    congr 1
    omega
theorem gap_head {g r : List UInt8} (h0 : g.length ≠ 0) (h : ∀ i, i < g.length → blankC (g.getD i 0).toNat) : (g ++ r).length ≠ 0 ∧ blankC (c0 (g ++ r)) := by
  refine ⟨by rw [List.length_append]; omega, ?_⟩
  rw [c0_app h0]
  exact h 0 (by omega)
theorem lnL_point (p : Nat) : lnL [46] p = .ok [⟨6, ⟨#[]⟩, p⟩] := by
  rw [lnL_tok p (show tkL [46] = some (6, ⟨#[]⟩, 1) by rfl)]
  rw [lnL_stop _ (.inl rfl)]; rfl
theorem vld_ascii' (l : List UInt8) (h : l.all (fun c => decide (c.toNat < 128)) = true) : vld l := vld_ascii l fun i hi => by
  have := List.all_eq_true.1 h (l.getD i 0) (by rw [List.getD_eq_getElem?_getD, List.getElem?_eq_getElem hi]; exact List.getElem_mem hi)
  simpa using this
/-- A line, blanks, and what stands behind. -/
structure Behind (a g : List UInt8) (ts : List LTok) : Prop where
  none : lineL (a ++ g ++ [35, 32, 46, 32, 60]) = (ts, 0, 0)
  dots : lineL (a ++ g ++ [46]) = (ts, 0, 0) ∨ (lineL (a ++ g ++ [46]) = (ts ++ [⟨6, ⟨#[]⟩, a.length + g.length⟩], 0, 0) ∧
    ∀ b, lineL (a ++ g ++ b) = if (lineL b).2.2 = 0 then (ts ++ (lineL b).1.map (shT (a.length + g.length)), 0, 0) else ([], a.length + g.length + (lineL b).2.1, (lineL b).2.2))
theorem behind {a g : List UInt8} {ts : List LTok} (hv : vld a) (h : lnL a 0 = .ok ts) (h0 : g.length ≠ 0) (hg : ∀ i, i < g.length → blankC (g.getD i 0).toNat) : Behind a g ts := by
  have hvg : vld g := blanks_vld hg
  have ok : ∀ {l : List UInt8} {us : List LTok}, vld l → lnL l 0 = .ok us → lineL l = (us, 0, 0) := fun {l us} h1 h2 => by
    unfold lineL
    rw [show (sgn l).2.2 = true from h1, h2]; rfl
  have v1 : vld (a ++ (g ++ [35, 32, 46, 32, 60])) := vld_app hv (vld_app hvg (vld_ascii' _ (by decide)))
  have v2 : vld (a ++ (g ++ [46])) := vld_app hv (vld_app hvg (vld_ascii' _ (by decide)))
  rcases lnL_app a 0 ts hv h with h1 | h1
  · refine ⟨?_, .inl ?_⟩
    · rw [List.append_assoc]; exact ok v1 (h1 _ (gap_head h0 hg).1 (gap_head h0 hg).2)
    · rw [List.append_assoc]; exact ok v2 (h1 _ (gap_head h0 hg).1 (gap_head h0 hg).2)
  · refine ⟨?_, .inr ⟨?_, fun b => ?_⟩⟩
    · rw [List.append_assoc]
      refine ok v1 ?_
      rw [h1 _ (gap_head h0 hg).1 (gap_head h0 hg).2, lnL_gap _ g _ hg, lnL_stop _ (.inr rfl)]
      show Except.ok (ts ++ []) = _
      rw [List.append_nil]
    · rw [List.append_assoc]
      refine ok v2 ?_
      rw [h1 _ (gap_head h0 hg).1 (gap_head h0 hg).2, lnL_gap _ g _ hg, lnL_point, Nat.zero_add]; rfl
    · by_cases hb : (sgn b).2.2 = true
      · have v3 : vld (a ++ (g ++ b)) := vld_app hv (vld_app hvg hb)
        have e1 := h1 (g ++ b) (gap_head h0 hg).1 (gap_head h0 hg).2
        rw [lnL_gap b g _ hg, Nat.zero_add, show a.length + g.length = 0 + (a.length + g.length) by omega, lnL_shift] at e1
        rw [List.append_assoc]
        unfold lineL
        rw [show (sgn (a ++ (g ++ b))).2.2 = true from v3, hb, if_pos rfl, if_pos rfl, e1]
        cases lnL b 0 with
        | ok us => rfl
        | error e =>
          show (([] : List LTok), e + (a.length + g.length), (10 : Int)) = if (10 : Int) = 0 then _ else ([], a.length + g.length + e, 10)
          rw [if_neg (by decide), Nat.add_comm]
      · have hb : (sgn b).2.2 = false := by simpa using hb
        rw [line_right (vld_app hv hvg) hb]
        have e2 : lineL b = ([], (sgn b).2.1, 11) := by unfold lineL; rw [hb]; rfl
        rw [e2]
        show _ = if (11 : Int) = 0 then _ else ([], a.length + g.length + (sgn b).2.1, (11 : Int))
        rw [if_neg (by decide), List.length_append]
theorem lnL_p {l : List UInt8} {ts : List LTok} (h : lnL l 0 = .ok ts) : ∀ t ∈ ts, t.p ≤ l.length := by
  intro t ht
  obtain ⟨i, hi⟩ := List.getElem?_of_mem ht
  obtain ⟨a, b, h1, _, h2, h3, _⟩ := lnL_parts i l 0 ts t h hi
  omega
end Lx
end Go.Proofs.YtpnlabjgmdhicaaGreatDoor
namespace Go.Proofs.YtpnlabjgmdhicaaGreatDoor
open Go Go.RowKit Um Lx

/-- Tokens in memory. -/
def RdTk (w : World) (A : Option Addr) (ts : List LTok) : Prop := Rd w A (ts.flatMap tokC)
theorem RdTk.later {w w' : World} {A : Option Addr} {ts : List LTok} (h : RdTk w A ts) (hb : Below w.heap.size w w') : RdTk w' A ts := Rd.later h hb
end Go.Proofs.YtpnlabjgmdhicaaGreatDoor
namespace Go.Proofs.YtpnlabjgmdhicaaGreatDoor
open Go Go.RowKit Um Lx

end Go.Proofs.YtpnlabjgmdhicaaGreatDoor
namespace Go.Proofs.YtpnlabjgmdhicaaGreatDoor
open Go Go.RowKit Um Lx

theorem lineL_ok {l : List UInt8} {ts : List LTok} (hv : vld l) (h : lnL l 0 = .ok ts) : lineL l = (ts, 0, 0) := by
  unfold lineL
  rw [show (sgn l).2.2 = true from hv, h]; rfl
theorem lineL_no {l : List UInt8} {e : Nat} (hv : vld l) (h : lnL l 0 = .error e) : lineL l = ([], e, 10) := by
  unfold lineL
  rw [show (sgn l).2.2 = true from hv, h]; rfl
theorem sigR_ok {l : List UInt8} (hv : vld l) : sigR l = ((sgn l).1, 0, 0) := by
  unfold sigR
  rw [show (sgn l).2.2 = true from hv]; rfl
end Go.Proofs.YtpnlabjgmdhicaaGreatDoor
