/- The answer for query (ossuaryref22): a text behind others, if it is not among them. The answer for query (ossuaryref22): a condition's variables, behind others; those of filters. -/
import Derived.Test.YtefjhehgpkljcaaGreatDoorJLaw22b
import Derived.Test.YtefjhehgpkljcaaGreatDoorJLaw24a
import Derived.Test.YtefjhehgpkljcaaGreatDoorJSameMath
import Derived.Test.YtefjhehgpkljcaaGreatDoorJUsed
namespace Go.Proofs.YtefjhehgpkljcaaGreatDoor
open Go Go.RowKit Um Fm Mt
/-- All blocks but a row's own stay; the row lies where it lay, or anew. -/
def RowOn (v v' : Value) (w w' : World) : Prop := (∀ (g : Nat) (o : Obj), v.ownBlock ≠ some g → w.heap[g]? = some o → w'.heap[g]? = some o) ∧ (v'.ownBlock = v.ownBlock ∨ ∃ m, v'.ownBlock = some m ∧ w.heap.size ≤ m)
theorem RowOn.refl (v : Value) (w : World) : RowOn v v w w := ⟨fun _ _ _ h => h, .inl rfl⟩
set_option maxRecDepth 20000 in
set_option maxHeartbeats 2000000 in
theorem r22WithR (base : Nat) (l : List ByteArray) (x : ByteArray) (v : Value) (w : World) (hl : l.length ≤ 1000000) (hbase : base ≤ w.heap.size) (own : w.ownsRow base 9 1 v l.length (l.map Value.string)) :
    Calls Tryz.prog 124 #[v, .string x] w fun e w' => ∃ v', e = .returned v' ∧ w'.ownsRow base 9 1 v' (metN l x).length ((metN l x).map Value.string) ∧ Below base w w' ∧ RowOn v v' w w' := by
  obtain ⟨A, c, rfl, hc, hr⟩ := own_slice own
  have Own := Lib.hid own
  have B2 : Below w.heap.size w (w.alloc (.cells #[.string x] 9)) := (by repeat (first | exact Below.refl _ _ | assumption | exact (Below.refl _ _).alloc (Nat.le_refl _) _ | refine below_tr ?_ (by assumption) | refine below_alloc ?_ | refine below_tr ?_ (below_regrown _ _ _)))
  have own2 := own_below own B2 (Nat.le_refl _)
  have R2 : ∀ (j : Nat) (u : Value), ([.string x] : List Value)[j]? = some u → (w.alloc (.cells #[.string x] 9)).cell? ⟨w.heap.size, 0 + j, none⟩ = some u := by
    intro j u hu
    rw [World.cell?, heap_alloc_new, Nat.zero_add]
    simpa using hu
  have HB2 := Lib.hid (B2.mono hbase)
  have HS : Hid (∀ (g : Nat) (o : Obj), w.heap[g]? = some o → (w.alloc (.cells #[.string x] 9)).heap[g]? = some o) := fun g o h => Stays.below B2 g o (Nat.le_refl _) h
  clear own B2
  go_enter Tryz.func124, Tryz.ntmps124
  go_wp2
  go_loop [5] (fun i => ∃ k : Nat, k ≤ l.length ∧ i = .int .i64 k ∧ Hid (hasS l x = hasS (l.drop k) x)) (fun i => l.length - (intOf i).toNat)
  case atStart => exact ⟨0, by omega, rfl, rfl⟩
  case round =>
    obtain ⟨k, hk, rfl, H⟩ := hrel
    by_cases hlt : k < l.length
    · obtain ⟨y, hx⟩ : ∃ x, l[k]? = some x := ⟨_, List.getElem?_eq_getElem hlt⟩
      obtain ⟨g, o, rfl, hcx⟩ := hr.at_ (j := k) (u := .string y) (by simp [hx])
      have hd := drop_cons_of hx
      have H2 : Hid (hasS l x = ((y.toList == x.toList) || hasS (l.drop (k+1)) x)) := by
        show _ = _
        rw [H.out, hd, hasS_cons24]
      clear hx hd H hr own2 R2
      cases hx0 : (y.toList == x.toList)
      · rw [hx0] at H2
        go_wp2
        go_round
        case rel => exact ⟨k+1, by omega, by go_num, H2⟩
        case measure => simp [intOf]; omega
      · rw [hx0] at H2
        go_wp2
        go_ret
        refine ⟨_, rfl, ?_, Below.refl _ _, RowOn.refl _ _⟩
        rw [metN_has (by rw [H2.out]; rfl)]
        exact Own.out
    · have H2 : Hid (hasS l x = false) := by
        show hasS l x = _
        rw [H.out, List.drop_eq_nil_of_le (by omega)]; rfl
      have Hm : Hid (metN l x = l ++ [x]) := by show _ = _; unfold metN; rw [H2.out]; rfl
      clear H hr
      go_wp2_with (at_builtin; refine wpList_appF rfl rfl Tryz.underlying24 stringInfo' rfl (by omega) rfl own2 rfl R2 rfl (by intro u hu; simp at hu; subst hu; rfl) (by omega) (by omega) (by simp; omega) ?_; intro v5 w5 own5 hb5 hg5 hv5)
      go_ret
      have hlt : ∀ (g : Nat) (o : Obj), (w.alloc (.cells #[.string x] 9)).heap[g]? = some o → g < (w.alloc (.cells #[.string x] 9)).heap.size := fun g o h => (Array.getElem?_eq_some_iff.1 h).1
      refine ⟨_, rfl, ?_, HB2.out.trans hb5, fun g o hne h => by rw [hg5.block g (hlt g o (HS.out g o h)) (fun e => hne e.symm)]; exact HS.out g o h, hv5.imp id fun h => ⟨_, h, by simp⟩⟩
      rw [Hm.out, List.length_append, List.map_append]
      exact own5
end Go.Proofs.YtefjhehgpkljcaaGreatDoor
namespace Go.Proofs.YtefjhehgpkljcaaGreatDoor
open Go Go.RowKit Um Fm Mt
theorem RowOn.trans {a b c : Value} {w w1 w2 : World} (h : RowOn a b w w1) (k : RowOn b c w1 w2) (hz : w.heap.size ≤ w1.heap.size) : RowOn a c w w2 := by
  obtain ⟨h1, h2⟩ := h
  obtain ⟨k1, k2⟩ := k
  refine ⟨fun g o hne hg => k1 g o (fun e => ?_) (h1 g o hne hg), ?_⟩
  · rcases h2 with e2 | ⟨m, e2, hm⟩
    · exact hne (e2 ▸ e)
    · rw [e2] at e
      injection e with e
      subst e
      have := (Array.getElem?_eq_some_iff.1 hg).1
      omega
  · rcases k2 with e2 | ⟨m, e2, hm⟩
    · rcases h2 with e3 | h3
      · exact .inl (e2.trans e3)
      · obtain ⟨m, e3, hm⟩ := h3
        exact .inr ⟨m, e2.trans e3, hm⟩
    · exact .inr ⟨m, e2, by omega⟩
theorem RowOn.ne {a b : Value} {w w1 : World} (h : RowOn a b w w1) {g : Nat} (hg : g < w.heap.size) (hne : a.ownBlock ≠ some g) : b.ownBlock ≠ some g := by
  rcases h.2 with e | ⟨m, e, hm⟩
  · rw [e]; exact hne
  · rw [e]
    intro e2
    injection e2 with e2
    omega
def UsedLp (n : Nat) (w0 w1 : World) (v1 : Value) (l1 : List ByteArray) (kids : List (ExT n)) (v i : Value) (wr : World) : Prop := ∃ (j : Nat) (l' : List ByteArray), j ≤ kids.length ∧ i = .int .i64 j ∧ wr.ownsRow w0.heap.size 9 1 v l'.length (l'.map Value.string) ∧ Hid (l' = metsN l1 (((kids.take j).flatMap (preE n)).flatMap ptV)) ∧ Below w0.heap.size w1 wr ∧ RowOn v1 v w1 wr
def R22Us (n : Nat) : Prop := ∀ (w0 : World) (x : ExT n) (cs : List Value) (l : List ByteArray) (v : Value) (w : World), RdE n w0 cs x → szE n x → l.length + (preE n x).length ≤ 900000 → Below w0.heap.size w0 w → w.ownsRow w0.heap.size 9 1 v l.length (l.map Value.string) →
  Calls Tryz.prog 173 #[v, .agg cs.toArray] w fun e w' => ∃ v' l', e = .returned v' ∧ l' = metsN l ((preE n x).flatMap ptV) ∧ w'.ownsRow w0.heap.size 9 1 v' l'.length (l'.map Value.string) ∧ Below w0.heap.size w w' ∧ RowOn v v' w w'
theorem usedLp_len (n : Nat) (l1 : List ByteArray) (kids : List (ExT n)) (j : Nat) {l' : List ByteArray} (h : l' = metsN l1 (((kids.take j).flatMap (preE n)).flatMap ptV)) : l'.length ≤ l1.length + ((kids.take j).flatMap (preE n)).length := by
  have h1 := metsN_len (((kids.take j).flatMap (preE n)).flatMap ptV) l1
  have h2 := ptV_flat ((kids.take j).flatMap (preE n))
  rw [h]; omega
theorem usedLp_next (n : Nat) (l1 : List ByteArray) {kids : List (ExT n)} {j : Nat} {x : ExT n} (hx : kids[j]? = some x) {l' : List ByteArray} (h : l' = metsN l1 (((kids.take j).flatMap (preE n)).flatMap ptV)) : metsN l' ((preE n x).flatMap ptV) = metsN l1 (((kids.take (j + 1)).flatMap (preE n)).flatMap ptV) := by
  rw [h, ← metsN_app, take_snoc_of hx]
  simp
theorem own_row_lt {w : World} {base n : Nat} {e : TypeId} {size : Nat} {v : Value} {xs : List Value} (h : w.ownsRow base e size v n xs) {g : Nat} (hg : w.heap.size ≤ g) : v.ownBlock ≠ some g := fun e => by
  have := (h.lt _ e).2
  omega
set_option maxRecDepth 20000 in
set_option maxHeartbeats 4000000 in
theorem r22Used1 : ∀ n : Nat, R22Us n
  | 0 => fun _ x _ _ _ _ h _ _ _ _ => h.elim
  | n + 1 => by
    rintro w0 ⟨k, s, t, ks⟩ cs l v w ⟨A, c, rfl, hc1, hr⟩ ⟨z1, z2, z3, z4⟩ hN hB own
    have ih := r22Used1 n
    obtain ⟨b, hb0⟩ : ∃ b : Nat, b = w.heap.size := ⟨_, rfl⟩
    obtain ⟨W, hW⟩ : ∃ W : World, w.alloc (.cells #[.int .i64 k, .string s, .int .i64 t.k, .string t.x, .string t.l, .string t.y, .slice A ks.length c] 31) = W := ⟨_, rfl⟩
    have hBW : Below w.heap.size w W := by rw [← hW]; exact (by repeat (first | exact Below.refl _ _ | assumption | exact (Below.refl _ _).alloc (Nat.le_refl _) _ | refine below_tr ?_ (by assumption) | refine below_alloc ?_ | refine below_tr ?_ (below_regrown _ _ _)))
    have hbox : W.heap[w.heap.size]? = some (.cells #[.int .i64 k, .string s, .int .i64 t.k, .string t.x, .string t.l, .string t.y, .slice A ks.length c] 31 (0, 0)) := by rw [← hW]; exact heap_alloc_new _ _
    have hWz : W.heap.size = w.heap.size + 1 := by rw [← hW]; simp
    have hvb := own_row_lt own (Nat.le_refl _)
    have ownW := own_below own hBW (Nat.le_refl _)
    have hB0w := hB.size
    have hOn0 : RowOn v v w W := ⟨fun g o _ h => by rw [hBW.block g (Array.getElem?_eq_some_iff.1 h).1]; exact h, .inl rfl⟩
    have hL : (preE (n + 1) ((k, s, t, ks) : ExT (n + 1))).flatMap ptV = (if k == 1 then [s] else []) ++ (ks.flatMap (preE n)).flatMap ptV := by rw [preE, List.flatMap_cons]; rfl
    have hp : (preE (n + 1) ((k, s, t, ks) : ExT (n + 1))).length = (ks.flatMap (preE n)).length + 1 := by rw [preE, List.length_cons]
    rw [hp] at hN
    rw [hL]
    have c0 : W.cell? ⟨w.heap.size, 0, none⟩ = some (.int .i64 k) := by rw [World.cell?, hbox]; rfl
    have c1 : W.cell? ⟨w.heap.size, 1, none⟩ = some (.string s) := by rw [World.cell?, hbox]; rfl
    -- what stands when the loop begins
    have key : ∃ l1, l1 = metsN l (if k == 1 then [s] else []) ∧ l1.length ≤ l.length + 1 := ⟨_, rfl, by
      have h1 := metsN_len (if k == 1 then [s] else []) l
      have h2 : (if k == 1 then [s] else [] : List ByteArray).length ≤ 1 := by split <;> simp
      omega⟩
    obtain ⟨l1, hl1, hl1n⟩ := key
    rw [metsN_app, ← hl1]
    have hWith := r22WithR w0.heap.size l s v W (by omega) (by omega) ownW
    have HW := Lib.hid hW
    have HBW := Lib.hid (hB.trans (hBW.mono hB0w))
    have HBW2 := Lib.hid (hBW.mono hB0w)
    have HR := Lib.hid hr
    have Hbox := Lib.hid hbox
    have HWz := Lib.hid hWz
    have HOn0 := Lib.hid hOn0
    have Hvb := Lib.hid hvb
    have hle0 : w0.heap.size ≤ W.heap.size := by omega
    clear hW hB hBW hr hbox hWz hOn0 hb0 hvb own hp hL
    cases hk1 : (k == 1)
    all_goals
      rw [hk1] at hl1
      simp only [Bool.false_eq_true, if_false, if_true, metsN_nil, metsN_one] at hl1
      have Hl1 := Lib.hid hl1
      clear hl1
      go_enter Tryz.func173, Tryz.ntmps173
      go_wp2_with fail
      simp only [HW.out]
    · -- no
      have own1 : W.ownsRow w0.heap.size 9 1 v l1.length (l1.map Value.string) := by rw [Hl1.out]; exact ownW
      have Hb1 : Hid (Below w0.heap.size W W) := Below.refl _ _
      have Hne : Hid (v.ownBlock ≠ some w.heap.size) := Hvb.out
      have Hbox1 : Hid (W.heap[w.heap.size]? = some (.cells #[.int .i64 k, .string s, .int .i64 t.k, .string t.x, .string t.l, .string t.y, .slice A ks.length c] 31 (0, 0))) := Hbox.out
      clear ownW
      go_wp2
      go_loopw [0, 5] (UsedLp n w0 W v l1 ks) (fun _ i _ => ks.length - (intOf i).toNat)
      case atStart => exact ⟨0, l1, by omega, rfl, own1, rfl, Below.refl _ _, RowOn.refl _ _⟩
      case round =>
        obtain ⟨j, l', hj, rfl, own', Hl', hBr, hOn⟩ := hrel
        have hBx := Hb1.out.trans hBr
        have hbr : wr.heap[w.heap.size]? = some (.cells #[.int .i64 k, .string s, .int .i64 t.k, .string t.x, .string t.l, .string t.y, .slice A ks.length c] 31 (0, 0)) :=
          hOn.1 _ _ (Hne.out) (Hbox1.out)
        have q3 : wr.cell? ⟨w.heap.size, 6, none⟩ = some (.slice A ks.length c) := by rw [World.cell?, hbr]; rfl
        have Hbr := Lib.hid hbr
        clear hbr own1 c0 c1 hWith
        by_cases hlt : j < ks.length
        · obtain ⟨x, hx⟩ : ∃ x, ks[j]? = some x := ⟨_, List.getElem?_eq_getElem hlt⟩
          obtain ⟨g, o, k1, s1, t1, A1, m1, e1, rfl, hR, d0, d1, d2, d3, d4, d5, d6⟩ := RdEs.atv (n := n) HR.out hx
          have hB0r := HBW.out.trans hBx
          replace d0 := cell_on d0 hB0r
          replace d1 := cell_on d1 hB0r
          replace d2 := cell_on d2 hB0r
          replace d3 := cell_on d3 hB0r
          replace d4 := cell_on d4 hB0r
          replace d5 := cell_on d5 hB0r
          replace d6 := cell_on d6 hB0r
          have hle := flat_take_le (preE n) ks (j + 1)
          have hsn := flat_snoc (preE n) hx
          have hln := usedLp_len n l1 ks j Hl'.out
          have hnx := usedLp_next n l1 hx Hl'.out
          have hcall := ih w0 x _ l' _ wr hR (z4 x (List.mem_of_getElem? hx)) (by omega) hB0r own'
          have Hnx := Lib.hid hnx
          have HOn := Lib.hid hOn
          have HBr := Lib.hid hBr
          clear hx hR ih z4 hle hsn hN hnx own' hOn hBr hBx hB0r hln
          go_wp2_with (go_at_call 173; refine hcall.mono ?_; rintro e w2 ⟨v2, l2, rfl, hl2, own2, hb2, hon2⟩)
          have hl2' := hl2.trans Hnx.out
          clear hl2
          have Hl2 := Lib.hid hl2'
          clear hl2'
          go_roundw
          case rel => exact ⟨j + 1, l2, by omega, by go_num, own2, Hl2, HBr.out.trans hb2, HOn.out.trans hon2 HBr.out.size⟩
          case measure => simp [intOf]; omega
        · obtain rfl : j = ks.length := by omega
          have hH := Hl'.out
          rw [List.take_length] at hH
          have HH := Lib.hid hH
          have HOn := Lib.hid hOn
          have HBx := Lib.hid hBx
          have HBr := Lib.hid hBr
          clear Hl' ih z4 hOn hBx hH hBr
          obtain ⟨A5, m5, rfl, _, _⟩ := own_slice own'
          go_wp2
          go_ret
          exact ⟨_, l', rfl, HH.out, own', HBW2.out.trans HBx.out, (HOn0.out.trans ((RowOn.refl _ _).trans HOn.out (Nat.le_refl _)) (by have := HWz.out; omega))⟩
    · -- yes
      rw [← Hl1.out] at hWith
      go_wp2_with fail
      refine hWith.mono ?_
      rintro e w1 ⟨v1, rfl, own1, hb1, hon1⟩
      have Hon1 := Lib.hid hon1
      have Hb1 := Lib.hid hb1
      have Hbox1 := Lib.hid (hon1.1 _ _ Hvb.out Hbox.out)
      have Hne : Hid (v1.ownBlock ≠ some w.heap.size) := hon1.ne (by have := HWz.out; omega) Hvb.out
      clear hon1 hb1 ownW
      go_wp2
      go_loopw [0, 5] (UsedLp n w0 w1 v1 l1 ks) (fun _ i _ => ks.length - (intOf i).toNat)
      case atStart => exact ⟨0, l1, by omega, rfl, own1, rfl, Below.refl _ _, RowOn.refl _ _⟩
      case round =>
        obtain ⟨j, l', hj, rfl, own', Hl', hBr, hOn⟩ := hrel
        have hBx := Hb1.out.trans hBr
        have hbr : wr.heap[w.heap.size]? = some (.cells #[.int .i64 k, .string s, .int .i64 t.k, .string t.x, .string t.l, .string t.y, .slice A ks.length c] 31 (0, 0)) :=
          hOn.1 _ _ (Hne.out) (Hbox1.out)
        have q3 : wr.cell? ⟨w.heap.size, 6, none⟩ = some (.slice A ks.length c) := by rw [World.cell?, hbr]; rfl
        have Hbr := Lib.hid hbr
        clear hbr own1 c0 c1 hWith
        by_cases hlt : j < ks.length
        · obtain ⟨x, hx⟩ : ∃ x, ks[j]? = some x := ⟨_, List.getElem?_eq_getElem hlt⟩
          obtain ⟨g, o, k1, s1, t1, A1, m1, e1, rfl, hR, d0, d1, d2, d3, d4, d5, d6⟩ := RdEs.atv (n := n) HR.out hx
          have hB0r := HBW.out.trans hBx
          replace d0 := cell_on d0 hB0r
          replace d1 := cell_on d1 hB0r
          replace d2 := cell_on d2 hB0r
          replace d3 := cell_on d3 hB0r
          replace d4 := cell_on d4 hB0r
          replace d5 := cell_on d5 hB0r
          replace d6 := cell_on d6 hB0r
          have hle := flat_take_le (preE n) ks (j + 1)
          have hsn := flat_snoc (preE n) hx
          have hln := usedLp_len n l1 ks j Hl'.out
          have hnx := usedLp_next n l1 hx Hl'.out
          have hcall := ih w0 x _ l' _ wr hR (z4 x (List.mem_of_getElem? hx)) (by omega) hB0r own'
          have Hnx := Lib.hid hnx
          have HOn := Lib.hid hOn
          have HBr := Lib.hid hBr
          clear hx hR ih z4 hle hsn hN hnx own' hOn hBr hBx hB0r hln
          go_wp2_with (go_at_call 173; refine hcall.mono ?_; rintro e w2 ⟨v2, l2, rfl, hl2, own2, hb2, hon2⟩)
          have hl2' := hl2.trans Hnx.out
          clear hl2
          have Hl2 := Lib.hid hl2'
          clear hl2'
          go_roundw
          case rel => exact ⟨j + 1, l2, by omega, by go_num, own2, Hl2, HBr.out.trans hb2, HOn.out.trans hon2 HBr.out.size⟩
          case measure => simp [intOf]; omega
        · obtain rfl : j = ks.length := by omega
          have hH := Hl'.out
          rw [List.take_length] at hH
          have HH := Lib.hid hH
          have HOn := Lib.hid hOn
          have HBx := Lib.hid hBx
          have HBr := Lib.hid hBr
          clear Hl' ih z4 hOn hBx hH hBr
          obtain ⟨A5, m5, rfl, _, _⟩ := own_slice own'
          go_wp2
          go_ret
          exact ⟨_, l', rfl, HH.out, own', HBW2.out.trans HBx.out, (HOn0.out.trans (Hon1.out.trans HOn.out Hb1.out.size) (by have := HWz.out; omega))⟩
/-- The variables that filters use. -/
def UsedFl (n : Nat) (w : World) (es : List (ExT n)) (v i : Value) (wr : World) : Prop := ∃ (j : Nat) (l' : List ByteArray), j ≤ es.length ∧ i = .int .i64 j ∧ wr.ownsRow w.heap.size 9 1 v l'.length (l'.map Value.string) ∧ Hid (l' = metsN [] (((es.take j).flatMap (preE n)).flatMap ptV)) ∧ Below w.heap.size w wr
set_option maxRecDepth 20000 in
set_option maxHeartbeats 4000000 in
theorem r22Used (n : Nat) (es : List (ExT n)) (A : Option Addr) (c : Nat) (w : World) (hr : RdEs n w A es) (hl : es.length ≤ 1353245080300) (hz : ∀ x ∈ es, szE n x) (hN : (es.flatMap (preE n)).length ≤ 500000) :
    Calls Tryz.prog 125 #[.slice A es.length c] w (NamesR (usedN n es) w) := by
  have hl' : (es.length : Int) ≤ 1353245080300 := by omega
  go_enter Tryz.func125, Tryz.ntmps125
  go_wp2
  go_loopw [3, 4] (UsedFl n w es) (fun _ i _ => es.length - (intOf i).toNat)
  case atStart => exact ⟨0, [], by omega, rfl, World.ownsRow_nil _ _ _ _, rfl, Below.refl _ _⟩
  case round =>
    obtain ⟨j, l', hj, rfl, own', Hl', hB⟩ := hrel
    by_cases hlt : j < es.length
    · obtain ⟨x, hx⟩ : ∃ x, es[j]? = some x := ⟨_, List.getElem?_eq_getElem hlt⟩
      obtain ⟨g, o, k1, s1, t1, A1, m1, e1, rfl, hR, d0, d1, d2, d3, d4, d5, d6⟩ := RdEs.atv (n := n) hr hx
      replace d0 := cell_on d0 hB
      replace d1 := cell_on d1 hB
      replace d2 := cell_on d2 hB
      replace d3 := cell_on d3 hB
      replace d4 := cell_on d4 hB
      replace d5 := cell_on d5 hB
      replace d6 := cell_on d6 hB
      have hle := flat_take_le (preE n) es (j + 1)
      have hsn := flat_snoc (preE n) hx
      have hln := usedLp_len n [] es j Hl'.out
      have hnx := usedLp_next n [] hx Hl'.out
      rw [List.length_nil] at hln
      have hcall := r22Used1 n w x _ l' _ wr hR (hz x (List.mem_of_getElem? hx)) (by omega) hB own'
      have Hnx := Lib.hid hnx
      have HB := Lib.hid hB
      clear hx hR hr hz hle hsn hN hnx own' hB hln
      go_wp2_with (go_at_call 173; refine hcall.mono ?_; rintro e w2 ⟨v2, l2, rfl, hl2, own2, hb2, -⟩)
      have hl2' := hl2.trans Hnx.out
      clear hl2
      have Hl2 := Lib.hid hl2'
      clear hl2'
      go_roundw
      case rel => exact ⟨j + 1, l2, by omega, by go_num, own2, Hl2, HB.out.trans hb2⟩
      case measure => simp [intOf]; omega
    · obtain rfl : j = es.length := by omega
      have hH := Hl'.out
      rw [List.take_length] at hH
      have hH2 : l' = usedN n es := hH
      subst hH2
      clear Hl' hr hz hH
      obtain ⟨A5, m5, rfl, _, _⟩ := own_slice own'
      go_wp2
      go_ret
      exact ⟨_, rfl, own', hB⟩
end Go.Proofs.YtefjhehgpkljcaaGreatDoor
