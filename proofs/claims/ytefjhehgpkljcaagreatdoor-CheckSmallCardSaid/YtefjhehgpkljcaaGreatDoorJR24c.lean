/- The answer for check (ossuaryref24): used, Query, Needs. -/
import Derived.Test.YtefjhehgpkljcaaGreatDoorJUtfRef
import Derived.Test.YtefjhehgpkljcaaGreatDoorJR22j
import Derived.Test.YtefjhehgpkljcaaGreatDoorJLaw22b
import Derived.Test.YtefjhehgpkljcaaGreatDoorJChk8
namespace Go.Proofs.YtefjhehgpkljcaaGreatDoor
open Go Go.RowKit Um Fm Mt

theorem ones_txt (l : List ByteArray) : ∀ u ∈ l.map Value.string, u.oneCell' = true := fun u hu => by
  obtain ⟨s, _, rfl⟩ := List.mem_map.1 hu
  rfl
theorem usedN_few {n : Nat} {q : Qy n} (hf : fewQ q) : (usedN n q.fils).length ≤ 500000 := Nat.le_trans (usedN_len n q.fils) hf.2.2.2.2.2
set_option maxRecDepth 20000 in
set_option maxHeartbeats 4000000 in
theorem r24Used (n : Nat) (q : Qy n) (a1 a2 a3 a4 : Option Addr) (c1 c2 c3 c4 : Nat) (w : World) (hf : fewQ q) (h1 : Rd w a1 (q.vars.map Value.string)) (h3 : RdEs n w a3 q.fils) (h4 : RdKey w a4 q.ord) :
    Calls Tryz.prog 73 #[.agg #[.bool q.ask, .bool q.dist, .slice a1 q.vars.length c1, .slice a2 q.pats.length c2, .slice a3 q.fils.length c3, .slice a4 q.ord.length c4, .int .i64 q.lim, .int .i64 q.off]] w (NamesR (saidQ q) w) := by
  obtain ⟨W, hW⟩ : ∃ W : World, w.alloc (.cells #[.bool q.ask, .bool q.dist, .slice a1 q.vars.length c1, .slice a2 q.pats.length c2, .slice a3 q.fils.length c3, .slice a4 q.ord.length c4, .int .i64 q.lim, .int .i64 q.off] 40) = W := ⟨_, rfl⟩
  have hB0 : Below w.heap.size w W := by rw [← hW]; exact (by repeat (first | exact Below.refl _ _ | assumption | exact (Below.refl _ _).alloc (Nat.le_refl _) _ | refine below_tr ?_ (by assumption) | refine below_alloc ?_ | refine below_tr ?_ (below_regrown _ _ _)))
  have b0 : W.cell? ⟨w.heap.size, 0, none⟩ = some (.bool q.ask) := by rw [← hW, World.cell?, heap_alloc_new]; rfl
  have b1 : W.cell? ⟨w.heap.size, 1, none⟩ = some (.bool q.dist) := by rw [← hW, World.cell?, heap_alloc_new]; rfl
  have b2 : W.cell? ⟨w.heap.size, 2, none⟩ = some (.slice a1 q.vars.length c1) := by rw [← hW, World.cell?, heap_alloc_new]; rfl
  have b3 : W.cell? ⟨w.heap.size, 3, none⟩ = some (.slice a2 q.pats.length c2) := by rw [← hW, World.cell?, heap_alloc_new]; rfl
  have b4 : W.cell? ⟨w.heap.size, 4, none⟩ = some (.slice a3 q.fils.length c3) := by rw [← hW, World.cell?, heap_alloc_new]; rfl
  have b5 : W.cell? ⟨w.heap.size, 5, none⟩ = some (.slice a4 q.ord.length c4) := by rw [← hW, World.cell?, heap_alloc_new]; rfl
  have b6 : W.cell? ⟨w.heap.size, 6, none⟩ = some (.int .i64 q.lim) := by rw [← hW, World.cell?, heap_alloc_new]; rfl
  have b7 : W.cell? ⟨w.heap.size, 7, none⟩ = some (.int .i64 q.off) := by rw [← hW, World.cell?, heap_alloc_new]; rfl
  have R1 := h1.later hB0
  have k3 := RdEs.later h3 hB0
  have k4 := RdL.mono h4 hB0 (fun _ _ _ h => h)
  have hsz : W.heap.size = w.heap.size + 1 := by rw [← hW]; simp
  have own0 : (W.alloc (.cells #[] 9)).ownsRow W.heap.size 9 1 (.slice (some ⟨w.heap.size + 1, 0, none⟩) 0 0) 0 ([] : List Value) := by
    rw [← hsz]
    exact ⟨rfl, .inr ⟨W.heap.size, 0, #[], rfl, Nat.le_refl _, heap_alloc_new W _, Nat.le_refl _, by simp, rfl, rfl⟩⟩
  have z0 : Below W.heap.size W (W.alloc (.cells #[] 9)) := (by repeat (first | exact Below.refl _ _ | assumption | exact (Below.refl _ _).alloc (Nat.le_refl _) _ | refine below_tr ?_ (by assumption) | refine below_alloc ?_ | refine below_tr ?_ (below_regrown _ _ _)))
  have R1' := R1.later z0
  have hvn : q.vars.length ≤ 100000 := hf.1
  have hon : q.ord.length ≤ 100000 := hf.2.2.1
  have hkl : (keysN q.ord).length ≤ 100000 := by rw [keysN_len]; exact hon
  have hul : (usedN n q.fils).length ≤ 500000 := usedN_few hf
  have ho1 := ones_txt q.vars
  have ho2 := ones_txt (keysN q.ord)
  have ho3 := ones_txt (usedN n q.fils)
  have hU := fun W' hb => r22Used n q.fils a3 c3 W' (RdEs.later k3 (w' := W') hb) hf.2.2.2.1 hf.2.2.2.2.1 hf.2.2.2.2.2
  have hK := fun W' hb => r24Keys n q a1 a2 a3 a4 c1 c2 c3 c4 W' (RdL.mono k4 (w' := W') hb (fun _ _ _ h => h)) (by omega)
  have hws : w.heap.size ≤ W.heap.size := hB0.size
  have b4W := Lib.hid b4
  have HW := Lib.hid hW
  have HB0 := Lib.hid hB0
  have Hz0 := Lib.hid z0
  have hs : Hid (saidQ q = q.vars ++ (keysN q.ord ++ usedN n q.fils)) := rfl
  generalize keysN q.ord = ks at *
  generalize usedN n q.fils = us at *
  generalize saidQ q = all at *
  clear hW R1 k3 k4 h1 h3 h4 hf hB0 z0 hsz
  go_enter Tryz.func73, Tryz.ntmps73
  go_wp2_with (at_builtin; simp only [HW.out]; refine wpList_appG rfl rfl Tryz.underlying24 stringInfo' rfl (by omega) rfl own0 rfl R1' (by simp) ho1 (by omega) (by omega) (by simp) ?_; intro v2 w2 own2 hb2 _; have hB2 := Hz0.out.trans hb2; rw [List.nil_append, Nat.zero_add] at own2; obtain ⟨A2, d2, rfl, hd2, _⟩ := own_slice own2; replace b0 := cell_on b0 hB2; replace b1 := cell_on b1 hB2; replace b2 := cell_on b2 hB2; replace b3 := cell_on b3 hB2; replace b4 := cell_on b4 hB2; replace b5 := cell_on b5 hB2; replace b6 := cell_on b6 hB2; replace b7 := cell_on b7 hB2)
  have hK2 := hK w2 hB2
  have H2 := Lib.hid hB2
  clear own0 R1' hb2 hB2 hK
  refine hK2.mono ?_
  rintro e w3 ⟨v3, rfl, own3, hb3⟩
  obtain ⟨A3, d3, rfl, _, r3⟩ := own_slice own3
  have own23 := own_below own2 hb3 (Nat.le_refl _)
  have hB3 := below_tr H2.out hb3
  have hs3 := hB3.size
  have H3 := Lib.hid hB3
  replace b4 := cell_on b4 hb3
  clear hK2 own2 own3 hb3 hB3 b0 b1 b2 b3 b5 b6 b7
  go_wp2_with (at_builtin; refine wpList_appG rfl rfl Tryz.underlying24 stringInfo' rfl (by omega) rfl own23 rfl r3 (by simp) ho2 (by omega) (by omega) hs3 ?_; intro v4 w4 own4 hb4 _; have hB4 := H3.out.trans hb4; replace b4 := cell_on b4W.out hB4; obtain ⟨A4, d4, rfl, hd4, _⟩ := own_slice own4)
  have hU4 := hU w4 hB4
  have hs4 := hB4.size
  have H4 := Lib.hid hB4
  clear own23 r3 hb4 hB4 hU
  refine hU4.mono ?_
  rintro e w5 ⟨v5, rfl, own5, hb5⟩
  obtain ⟨A5, d5, rfl, _, r5⟩ := own_slice own5
  have own45 := own_below own4 hb5 (Nat.le_refl _)
  have hB5 := below_tr H4.out hb5
  have hs5 := hB5.size
  have H5 := Lib.hid hB5
  clear hU4 own4 own5 hb5 hB5 b4
  go_wp2_with (at_builtin; refine wpList_appG rfl rfl Tryz.underlying24 stringInfo' rfl (by omega) rfl own45 rfl r5 (by simp) ho3 (by omega) (by omega) hs5 ?_; intro v6 w6 own6 hb6 _)
  obtain ⟨A6, d6, rfl, hd6, _⟩ := own_slice own6
  go_ret
  refine ⟨.slice A6 (q.vars.length + ks.length + us.length) d6, rfl, ?_, HB0.out.trans ((H5.out.trans hb6).mono hws)⟩
  have h := own_mono own6 hws
  rw [← List.map_append, ← List.map_append, List.append_assoc] at h
  have e : q.vars.length + ks.length + us.length = (q.vars ++ (ks ++ us)).length := by simp only [List.length_append]; omega
  rw [hs.out, ← e]
  exact h
def ErrLp (known l : List ByteArray) (W : World) (i : Value) (wr : World) : Prop := ∃ k : Nat, k ≤ l.length ∧ i = .int .i64 k ∧ Hid (lackB known l = lackB known (l.drop k)) ∧ Below W.heap.size W wr
theorem lack_drop {known l : List ByteArray} {k : Nat} {s : ByteArray} (h : l[k]? = some s) : lackB known (l.drop k) = (!hasS known s || lackB known (l.drop (k + 1))) := by rw [drop_cons_of h]; rfl
theorem has_idx (l : List ByteArray) (s : ByteArray) : hasS l s = decide (0 ≤ Lib.idxOfS l s) := rfl
theorem idx_neg {l : List ByteArray} {s : ByteArray} (h : hasS l s = false) : Lib.idxOfS l s = -1 := by
  have h1 := (idxOfS_lt l s).1
  unfold hasS at h
  simp at h
  omega
theorem idx_pos {l : List ByteArray} {s : ByteArray} (h : hasS l s = true) : 0 ≤ Lib.idxOfS l s := by
  unfold hasS at h
  simpa using h
set_option maxRecDepth 20000 in
set_option maxHeartbeats 8000000 in
theorem r24Query (n : Nat) (q : Qy n) (a1 a2 a3 a4 : Option Addr) (c1 c2 c3 c4 : Nat) (w : World) (hf : fewQ q) (hz : szQu q) (hq : RdQ n w [.bool q.ask, .bool q.dist, .slice a1 q.vars.length c1, .slice a2 q.pats.length c2, .slice a3 q.fils.length c3, .slice a4 q.ord.length c4, .int .i64 q.lim, .int .i64 q.off] q) (o1 : q.vars.length ≤ c1)
    (h1 : Rd w a1 (q.vars.map Value.string)) (h2 : RdPat w a2 q.pats) (h3 : RdEs n w a3 q.fils) (h4 : RdKey w a4 q.ord) :
    Calls Tryz.prog 18 #[.agg #[.bool q.ask, .bool q.dist, .slice a1 q.vars.length c1, .slice a2 q.pats.length c2, .slice a3 q.fils.length c3, .slice a4 q.ord.length c4, .int .i64 q.lim, .int .i64 q.off]] w fun e w' => e = .returned (.int .i64 (errOf q)) ∧ Below w.heap.size w w' := by
  obtain ⟨W, hW⟩ : ∃ W : World, w.alloc (.cells #[.bool q.ask, .bool q.dist, .slice a1 q.vars.length c1, .slice a2 q.pats.length c2, .slice a3 q.fils.length c3, .slice a4 q.ord.length c4, .int .i64 q.lim, .int .i64 q.off] 40) = W := ⟨_, rfl⟩
  have hB0 : Below w.heap.size w W := by rw [← hW]; exact (by repeat (first | exact Below.refl _ _ | assumption | exact (Below.refl _ _).alloc (Nat.le_refl _) _ | refine below_tr ?_ (by assumption) | refine below_alloc ?_ | refine below_tr ?_ (below_regrown _ _ _)))
  have b0 : W.cell? ⟨w.heap.size, 0, none⟩ = some (.bool q.ask) := by rw [← hW, World.cell?, heap_alloc_new]; rfl
  have b1 : W.cell? ⟨w.heap.size, 1, none⟩ = some (.bool q.dist) := by rw [← hW, World.cell?, heap_alloc_new]; rfl
  have b2 : W.cell? ⟨w.heap.size, 2, none⟩ = some (.slice a1 q.vars.length c1) := by rw [← hW, World.cell?, heap_alloc_new]; rfl
  have b3 : W.cell? ⟨w.heap.size, 3, none⟩ = some (.slice a2 q.pats.length c2) := by rw [← hW, World.cell?, heap_alloc_new]; rfl
  have b4 : W.cell? ⟨w.heap.size, 4, none⟩ = some (.slice a3 q.fils.length c3) := by rw [← hW, World.cell?, heap_alloc_new]; rfl
  have b5 : W.cell? ⟨w.heap.size, 5, none⟩ = some (.slice a4 q.ord.length c4) := by rw [← hW, World.cell?, heap_alloc_new]; rfl
  have b6 : W.cell? ⟨w.heap.size, 6, none⟩ = some (.int .i64 q.lim) := by rw [← hW, World.cell?, heap_alloc_new]; rfl
  have b7 : W.cell? ⟨w.heap.size, 7, none⟩ = some (.int .i64 q.off) := by rw [← hW, World.cell?, heap_alloc_new]; rfl
  have hR := r22Right n q _ W (hq.later hB0) hz hf.2.2.2.2.2
  have T1 := fun W' hb => r24Twice q.vars a1 c1 W' (by have := hf.1; omega) o1 ((h1.later hB0).later (w' := W') hb)
  have K4 := fun W' hb => r24Keys n q a1 a2 a3 a4 c1 c2 c3 c4 W' (RdL.mono (RdL.mono h4 hB0 (fun _ _ _ h => h)) (w' := W') hb (fun _ _ _ h => h)) (by have := hf.2.2.1; omega)
  have V2 := fun W' hb => r22Vars q.pats a2 c2 W' (RdL.mono (RdL.mono h2 hB0 (fun _ _ _ h => h)) (w' := W') hb (fun _ _ _ h => h)) hf.2.1
  have U3 := fun W' hb => r24Used n q a1 a2 a3 a4 c1 c2 c3 c4 W' hf ((h1.later hB0).later (w' := W') hb) (RdEs.later (RdEs.later h3 hB0) hb) (RdL.mono (RdL.mono h4 hB0 (fun _ _ _ h => h)) hb (fun _ _ _ h => h))
  have hkl : (keysN q.ord).length ≤ 100000 := by rw [keysN_len]; exact hf.2.2.1
  have hsl := saidQ_len hf
  have hvl := varsN_len q.pats
  have hpl := hf.2.1
  have HW := Lib.hid hW
  have HB0 := Lib.hid hB0
  have HK4 := Lib.hid K4
  have HV2 := Lib.hid V2
  have HU3 := Lib.hid U3
  have HT1 := Lib.hid T1
  clear hW h1 h2 h3 h4 hf hB0 hq hz K4 V2 U3 T1
  cases hrq : rightQ q
  · rw [hrq] at hR
    have He := Lib.hid (errOf_no hrq)
    clear hrq
    go_enter Tryz.func18, Tryz.ntmps18
    go_wp2_with fail
    simp only [HW.out]
    go_wp2_with (refine hR.mono ?_; rintro e w2 ⟨rfl, hb⟩)
    go_ret
    exact ⟨congrArg (fun b => Ending.returned (Value.int .i64 b)) He.out.symm, below_tr HB0.out hb⟩
  rw [hrq] at hR
  have Hrq := Lib.hid hrq
  clear hrq
  go_enter Tryz.func18, Tryz.ntmps18
  go_wp2_with fail
  simp only [HW.out]
  go_wp2_with fail
  refine hR.mono ?_
  rintro e w2 ⟨rfl, hb2⟩
  replace b0 := cell_on b0 hb2
  replace b1 := cell_on b1 hb2
  replace b2 := cell_on b2 hb2
  replace b3 := cell_on b3 hb2
  replace b4 := cell_on b4 hb2
  replace b5 := cell_on b5 hb2
  replace b6 := cell_on b6 hb2
  replace b7 := cell_on b7 hb2
  have hT2 := HT1.out w2 hb2
  have H2 := Lib.hid hb2
  clear hR hb2
  cases hd1 : dupB q.vars
  case true =>
    rw [hd1] at hT2
    have He := Lib.hid (errOf_twice Hrq.out (by rw [hd1]; rfl))
    clear hd1
    go_wp2_with (go_at_call 70; refine hT2.mono ?_; rintro e w3 ⟨rfl, hb3⟩)
    go_ret
    exact ⟨congrArg (fun b => Ending.returned (Value.int .i64 b)) He.out.symm, below_tr HB0.out (below_tr H2.out hb3)⟩
  rw [hd1] at hT2
  have Hd1 := Lib.hid hd1
  clear hd1
  go_wp2_with fail
  refine hT2.mono ?_
  rintro e w3 ⟨rfl, hb3⟩
  replace b0 := cell_on b0 hb3
  replace b1 := cell_on b1 hb3
  replace b2 := cell_on b2 hb3
  replace b3 := cell_on b3 hb3
  replace b4 := cell_on b4 hb3
  replace b5 := cell_on b5 hb3
  replace b6 := cell_on b6 hb3
  replace b7 := cell_on b7 hb3
  have hB3 := below_tr H2.out hb3
  have hK3 := HK4.out w3 hB3
  have H3 := Lib.hid hB3
  clear hT2 hb3 hB3 H2
  go_wp2_with fail
  refine hK3.mono ?_
  rintro e w4 ⟨v4, rfl, own4, hb4⟩
  replace b0 := cell_on b0 hb4
  replace b1 := cell_on b1 hb4
  replace b2 := cell_on b2 hb4
  replace b3 := cell_on b3 hb4
  replace b4 := cell_on b4 hb4
  replace b5 := cell_on b5 hb4
  replace b6 := cell_on b6 hb4
  replace b7 := cell_on b7 hb4
  have hB4 := below_tr H3.out hb4
  obtain ⟨A4, d4, rfl, hd4, r4⟩ := own_slice own4
  have hT4 := r24Twice (keysN q.ord) A4 d4 w4 (by omega) hd4 r4
  have H4 := Lib.hid hB4
  clear hK3 own4 hb4 hB4 r4 H3
  cases hd2 : dupB (keysN q.ord)
  case true =>
    rw [hd2] at hT4
    have He := Lib.hid (errOf_twice Hrq.out (by rw [hd2, Bool.or_true]))
    clear hd2
    go_wp2_with (go_at_call 70; refine hT4.mono ?_; rintro e w5 ⟨rfl, hb5⟩)
    go_ret
    exact ⟨congrArg (fun b => Ending.returned (Value.int .i64 b)) He.out.symm, below_tr HB0.out (below_tr H4.out hb5)⟩
  rw [hd2] at hT4
  have He := Lib.hid (errOf_lack Hrq.out (by rw [Hd1.out, hd2]; rfl))
  clear hd2
  go_wp2_with fail
  refine hT4.mono ?_
  rintro e w5 ⟨rfl, hb5⟩
  replace b0 := cell_on b0 hb5
  replace b1 := cell_on b1 hb5
  replace b2 := cell_on b2 hb5
  replace b3 := cell_on b3 hb5
  replace b4 := cell_on b4 hb5
  replace b5 := cell_on b5 hb5
  replace b6 := cell_on b6 hb5
  replace b7 := cell_on b7 hb5
  have hB5 := below_tr H4.out hb5
  have hV5 := HV2.out w5 hB5
  have H5 := Lib.hid hB5
  clear hT4 hb5 hB5 H4
  go_wp2_with fail
  refine hV5.mono ?_
  rintro e w6 ⟨v6, rfl, own6, hb6⟩
  replace b0 := cell_on b0 hb6
  replace b1 := cell_on b1 hb6
  replace b2 := cell_on b2 hb6
  replace b3 := cell_on b3 hb6
  replace b4 := cell_on b4 hb6
  replace b5 := cell_on b5 hb6
  replace b6 := cell_on b6 hb6
  replace b7 := cell_on b7 hb6
  have hB6 := below_tr H5.out hb6
  obtain ⟨A6, d6, rfl, hd6, r6⟩ := own_slice own6
  have hU6 := HU3.out w6 hB6
  have H6 := Lib.hid hB6
  clear hV5 own6 hb6 hB6 H5
  go_wp2_with fail
  refine hU6.mono ?_
  rintro e w7 ⟨v7, rfl, own7, hb7⟩
  have hB7 := below_tr H6.out hb7
  obtain ⟨A7, d7, rfl, hd7, r7⟩ := own_slice own7
  replace r6 := r6.later hb7
  have H7 := Lib.hid hB7
  clear hU6 own7 hb7 hB7 H6 b0 b1 b2 b3 b4 b5 b6 b7
  generalize saidQ q = all at *
  generalize varsN q.pats = known at *
  have hal : (all.length : Int) ≤ 700000 := by omega
  go_wp2
  go_loopw [5] (ErrLp known all w7) (fun i _ => all.length - (intOf i).toNat)
  case atStart => exact ⟨0, by omega, rfl, rfl, Below.refl _ _⟩
  case round =>
    obtain ⟨k, hk, rfl, H, hB⟩ := hrel
    by_cases hlt : k < all.length
    · obtain ⟨s, hs⟩ : ∃ x, all[k]? = some x := ⟨_, List.getElem?_eq_getElem hlt⟩
      obtain ⟨g, o, rfl, cx⟩ := (r7.later hB).at_ (j := k) (u := .string s) (by simp [hs])
      have hA := r24At known s A6 d6 wr (by omega) (r6.later hB)
      have Hl : Hid (lackB known all = (!hasS known s || lackB known (all.drop (k + 1)))) := by show _ = _; rw [H.out, lack_drop hs]
      have HBk := Lib.hid hB
      clear hs H r6 r7
      cases hh : hasS known s
      · have hi := idx_neg hh
        rw [hi] at hA
        have He2 : Hid (errOf q = 15) := by show _ = _; rw [He.out, Hl.out, hh]; rfl
        clear hh hi
        go_wp2_with (go_at_call 74; refine hA.mono ?_; rintro e w8 ⟨rfl, hb8⟩; try subst hb8)
        go_ret
        exact ⟨congrArg (fun b => Ending.returned (Value.int .i64 b)) He2.out.symm, below_tr HB0.out (below_tr H7.out hB)⟩
      · have hi := idx_pos hh
        have Hl2 : Hid (lackB known all = lackB known (all.drop (k + 1))) := by show _ = _; rw [Hl.out, hh]; rfl
        generalize Lib.idxOfS known s = ii at *
        clear hh
        go_wp2_with (go_at_call 74; refine hA.mono ?_; rintro e w8 ⟨rfl, hb8⟩; try subst hb8)
        go_roundw
        case rel => exact ⟨k + 1, by omega, by go_num, Hl2, HBk.out⟩
        case measure => simp [intOf]; omega
    · have Hl : Hid (lackB known all = false) := by show _ = _; rw [H.out, List.drop_eq_nil_of_le (by omega)]; rfl
      have He2 : Hid (errOf q = 0) := by show _ = _; rw [He.out, Hl.out]; rfl
      clear r6 r7
      go_wp2
      go_ret
      exact ⟨congrArg (fun b => Ending.returned (Value.int .i64 b)) He2.out.symm, below_tr HB0.out (below_tr H7.out hB)⟩
def NeedLp (known l : List ByteArray) (W : World) (v i : Value) (wr : World) : Prop := ∃ (k : Nat) (v' : Value), k ≤ known.length ∧ i = .int .i64 k ∧ v = v' ∧ wr.ownsRow W.heap.size 9 1 v' (needN (known.take k) l).length ((needN (known.take k) l).map Value.string) ∧ Below W.heap.size W wr
set_option maxRecDepth 20000 in
set_option maxHeartbeats 8000000 in
theorem r24Needs (n : Nat) (q : Qy n) (a1 a2 a3 a4 : Option Addr) (c1 c2 c3 c4 : Nat) (w : World) (hf : fewQ q)
    (h1 : Rd w a1 (q.vars.map Value.string)) (h2 : RdPat w a2 q.pats) (h3 : RdEs n w a3 q.fils) (h4 : RdKey w a4 q.ord) :
    Calls Tryz.prog 20 #[.agg #[.bool q.ask, .bool q.dist, .slice a1 q.vars.length c1, .slice a2 q.pats.length c2, .slice a3 q.fils.length c3, .slice a4 q.ord.length c4, .int .i64 q.lim, .int .i64 q.off]] w (NamesR (needsOf q) w) := by
  obtain ⟨W, hW⟩ : ∃ W : World, w.alloc (.cells #[.bool q.ask, .bool q.dist, .slice a1 q.vars.length c1, .slice a2 q.pats.length c2, .slice a3 q.fils.length c3, .slice a4 q.ord.length c4, .int .i64 q.lim, .int .i64 q.off] 40) = W := ⟨_, rfl⟩
  have hB0 : Below w.heap.size w W := by rw [← hW]; exact (by repeat (first | exact Below.refl _ _ | assumption | exact (Below.refl _ _).alloc (Nat.le_refl _) _ | refine below_tr ?_ (by assumption) | refine below_alloc ?_ | refine below_tr ?_ (below_regrown _ _ _)))
  have b0 : W.cell? ⟨w.heap.size, 0, none⟩ = some (.bool q.ask) := by rw [← hW, World.cell?, heap_alloc_new]; rfl
  have b1 : W.cell? ⟨w.heap.size, 1, none⟩ = some (.bool q.dist) := by rw [← hW, World.cell?, heap_alloc_new]; rfl
  have b2 : W.cell? ⟨w.heap.size, 2, none⟩ = some (.slice a1 q.vars.length c1) := by rw [← hW, World.cell?, heap_alloc_new]; rfl
  have b3 : W.cell? ⟨w.heap.size, 3, none⟩ = some (.slice a2 q.pats.length c2) := by rw [← hW, World.cell?, heap_alloc_new]; rfl
  have b4 : W.cell? ⟨w.heap.size, 4, none⟩ = some (.slice a3 q.fils.length c3) := by rw [← hW, World.cell?, heap_alloc_new]; rfl
  have b5 : W.cell? ⟨w.heap.size, 5, none⟩ = some (.slice a4 q.ord.length c4) := by rw [← hW, World.cell?, heap_alloc_new]; rfl
  have b6 : W.cell? ⟨w.heap.size, 6, none⟩ = some (.int .i64 q.lim) := by rw [← hW, World.cell?, heap_alloc_new]; rfl
  have b7 : W.cell? ⟨w.heap.size, 7, none⟩ = some (.int .i64 q.off) := by rw [← hW, World.cell?, heap_alloc_new]; rfl
  have V2 := r22Vars q.pats a2 c2 W (RdL.mono h2 hB0 (fun _ _ _ h => h)) hf.2.1
  have U3 := fun W' hb => r24Used n q a1 a2 a3 a4 c1 c2 c3 c4 W' hf ((h1.later hB0).later (w' := W') hb) (RdEs.later (RdEs.later h3 hB0) hb) (RdL.mono (RdL.mono h4 hB0 (fun _ _ _ h => h)) hb (fun _ _ _ h => h))
  have hsl := saidQ_len hf
  have hvl := varsN_len q.pats
  have hpl := hf.2.1
  have HW := Lib.hid hW
  have HB0 := Lib.hid hB0
  have HU3 := Lib.hid U3
  rw [show needsOf q = needN (varsN q.pats) (saidQ q) from rfl]
  clear hW h1 h2 h3 h4 hf hB0 U3
  go_enter Tryz.func20, Tryz.ntmps20
  go_wp2_with fail
  simp only [HW.out]
  go_wp2_with fail
  refine V2.mono ?_
  rintro e w6 ⟨v6, rfl, own6, hb6⟩
  replace b0 := cell_on b0 hb6
  replace b1 := cell_on b1 hb6
  replace b2 := cell_on b2 hb6
  replace b3 := cell_on b3 hb6
  replace b4 := cell_on b4 hb6
  replace b5 := cell_on b5 hb6
  replace b6 := cell_on b6 hb6
  replace b7 := cell_on b7 hb6
  obtain ⟨A6, d6, rfl, hd6, r6⟩ := own_slice own6
  have hU6 := HU3.out w6 hb6
  have H6 := Lib.hid hb6
  clear V2 own6 hb6
  go_wp2_with fail
  refine hU6.mono ?_
  rintro e w7 ⟨v7, rfl, own7, hb7⟩
  have hB7 := below_tr H6.out hb7
  obtain ⟨A7, d7, rfl, hd7, r7⟩ := own_slice own7
  replace r6 := r6.later hb7
  have H7 := Lib.hid (below_tr HB0.out hB7)
  clear hU6 own7 hb7 hB7 H6 b0 b1 b2 b3 b4 b5 b6 b7
  generalize saidQ q = all at *
  generalize varsN q.pats = known at *
  have hal : (known.length : Int) ≤ 900000 := by omega
  go_wp2
  go_loopw [5, 6] (NeedLp known all w7) (fun _ i _ => known.length - (intOf i).toNat)
  case atStart => exact ⟨0, _, by omega, rfl, rfl, by simpa [needN] using World.ownsRow_nil _ _ _ _, Below.refl _ _⟩
  case round =>
    obtain ⟨k, v', hk, rfl, rfl, own, hB⟩ := hrel
    by_cases hlt : k < known.length
    · obtain ⟨s, hs⟩ : ∃ x, known[k]? = some x := ⟨_, List.getElem?_eq_getElem hlt⟩
      obtain ⟨g, o, rfl, cx⟩ := (r6.later hB).at_ (j := k) (u := .string s) (by simp [hs])
      have hA := r24At all s A7 d7 wr (by omega) (r7.later hB)
      have hbs : w7.heap.size ≤ wr.heap.size := hB.size
      have hnt := needN_take known all hs
      have hnl2 := needN_len (known.take k) all
      rw [List.length_take] at hnl2
      generalize needN (known.take k) all = so at *
      have Hnt := Lib.hid hnt
      have HB := Lib.hid hB
      clear hs hnt r6 r7
      cases hh : hasS all s
      · have hi := idx_neg hh
        rw [hi] at hA
        rw [hh] at Hnt
        clear hh hi hB
        go_wp2_with (go_at_call 74; refine hA.mono ?_; rintro e w8 ⟨rfl, hb8⟩; try subst hb8)
        go_roundw
        case rel => exact ⟨k + 1, _, by omega, by go_num, rfl, by rw [Hnt.out]; simpa using own, HB.out⟩
        case measure => simp [intOf]; omega
      · have hi := idx_pos hh
        rw [hh] at Hnt
        generalize Lib.idxOfS all s = ii at *
        have B2 : Below wr.heap.size wr (wr.alloc (.cells #[.string s] 9)) := (by repeat (first | exact Below.refl _ _ | assumption | exact (Below.refl _ _).alloc (Nat.le_refl _) _ | refine below_tr ?_ (by assumption) | refine below_alloc ?_ | refine below_tr ?_ (below_regrown _ _ _)))
        have own2 := own_below own B2 (Nat.le_refl _)
        have R2 : Rd (wr.alloc (.cells #[.string s] 9)) (some ⟨wr.heap.size, 0, none⟩) [.string s] := Rd.of_block (heap_alloc_new _ _) rfl
        have B02 := Lib.hid (below_tr hB B2)
        obtain ⟨A2, m2, rfl, _, _⟩ := own_slice own
        clear hh hB own B2
        go_wp2_with (first
          | (go_at_call 74; refine hA.mono ?_; rintro e w8 ⟨rfl, hb8⟩; try subst hb8)
          | (at_builtin; refine wpList_appG rfl rfl Tryz.underlying24 stringInfo' rfl (by omega) rfl own2 rfl R2 rfl (by intro u hu; simp at hu; subst hu; rfl) (by omega) (by omega) (by simp; omega) ?_; intro v5 w5 own5 hb5 _))
        go_roundw
        case rel => exact ⟨k + 1, v5, by omega, by go_num, rfl, by rw [Hnt.out]; simpa using own5, B02.out.trans hb5⟩
        case measure => simp [intOf]; omega
    · have hk2 : known.take k = known := List.take_of_length_le (by omega)
      rw [hk2] at own
      obtain ⟨A2, m2, rfl, _, _⟩ := own_slice own
      clear r6 r7
      go_wp2
      go_ret
      exact ⟨.slice A2 (needN known all).length m2, rfl, own_mono own H7.out.size, below_tr H7.out hB⟩
end Go.Proofs.YtefjhehgpkljcaaGreatDoor
