/- The program's package utf, walked: at, next, Signs, Text. -/
import Derived.Test.YtdplnlbplgmijaaDoorUtfProg2
namespace Go.Proofs.YtdplnlbplgmijaaDoor
open Go Go.RowKit Um

theorem get!_getD (t : ByteArray) (i : Nat) : t.get! i = t.data.toList.getD i 0 := by
  cases t with
  | mk d =>
    show d[i]! = _
    by_cases h : i < d.size
    · simp [List.getD_eq_getElem?_getD, h]
    · simp [List.getD_eq_getElem?_getD, h]
      rfl

theorem decodeGo_nx (s : ByteArray) (k : Nat) (_hk : k ≤ s.size) :
    (if (Lib.decodeGo (s.extract k s.size)).1 = 65533 ∧ (Lib.decodeGo (s.extract k s.size)).2 < 2 then (0, 0) else Lib.decodeGo (s.extract k s.size)) = nx (from_ s k) := by
  have hl : (s.extract k s.size).data.toList = from_ s k := by
    rw [extract_toList, from_, List.take_of_length_le]
    simp
  have hsz : (s.extract k s.size).size = s.size - k := by simp [ByteArray.size_extract]
  have hfl := from_length s k
  unfold Lib.decodeGo nx
  by_cases h0 : s.size - k = 0
  · rw [hsz, if_pos h0, hfl, if_pos h0, if_pos ⟨rfl, by decide⟩]
  · rw [hsz, if_neg h0, hfl, if_neg h0, Lib.decode_at, hsz]
    simp only [get!_getD, hl, Nat.sub_zero, Nat.zero_add]
    have hp := decodeN_pos (s.size - k) ((from_ s k).getD 0 0).toNat ((from_ s k).getD 1 0).toNat ((from_ s k).getD 2 0).toNat ((from_ s k).getD 3 0).toNat
    generalize Lib.decodeN (s.size - k) ((from_ s k).getD 0 0).toNat ((from_ s k).getD 1 0).toNat ((from_ s k).getD 2 0).toNat ((from_ s k).getD 3 0).toNat = d at hp
    by_cases hd : d = (65533, 1)
    · rw [if_pos hd, if_pos (by rw [hd]; exact ⟨rfl, by decide⟩)]
    · rw [if_neg hd, if_neg]
      intro ⟨h1, h2⟩
      exact hd (Prod.ext h1 (by show d.2 = 1; omega))

theorem utfAt (s : ByteArray) (k : Nat) (w : World) (hC : Ctx w) (hk : k ≤ s.size) (_hs : s.size ≤ 1000000) :
    Calls Tryd.prog 49 #[.agg #[.string s], .int .i64 k] w fun e w' => e = .returned (.tuple #[.int .i32 (nx (from_ s k)).1, .int .i64 (nx (from_ s k)).2]) ∧ Below w.heap.size w w' := by
  have hdec := Tryd.utf8_DecodeRuneInString (s.extract k s.size) (w.alloc (.cells #[.string s] 46)) (hC.step ((Below.refl _ _).alloc (Nat.le_refl _) _)).tabs
  have hn := decodeGo_nx s k hk
  rw [← hn]
  clear hn hC
  generalize Lib.decodeGo (s.extract k s.size) = d at hdec
  obtain ⟨x, n⟩ := d
  simp only at hdec
  have fin : ∀ {w1 : World}, Below (w.alloc (.cells #[.string s] 46)).heap.size (w.alloc (.cells #[.string s] 46)) w1 → Below w.heap.size w w1 := fun h => ((Below.refl _ _).alloc (Nat.le_refl _) _).trans (h.mono (by simp))
  by_cases h1 : x = 65533
  · have h1' : ((x : Int) == 65533) = true := by simp; omega
    by_cases h2 : n < 2
    · rw [if_pos ⟨h1, h2⟩]
      clear h1
      go_enter Tryd.func49, Tryd.ntmps49
      go_wp2_with (go_at_call 56; refine hdec.mono ?_; rintro e w1 ⟨rfl, hb⟩)
      go_ret2
      exact ⟨rfl, fin hb⟩
    · rw [if_neg (fun h => h2 h.2)]
      clear h1
      go_enter Tryd.func49, Tryd.ntmps49
      go_wp2_with (go_at_call 56; refine hdec.mono ?_; rintro e w1 ⟨rfl, hb⟩)
      go_ret2
      exact ⟨rfl, fin hb⟩
  · have h1' : ((x : Int) == 65533) = false := by simp; omega
    rw [if_neg (fun h => h1 h.1)]
    clear h1
    go_enter Tryd.func49, Tryd.ntmps49
    go_wp2_with (go_at_call 56; refine hdec.mono ?_; rintro e w1 ⟨rfl, hb⟩)
    go_ret2
    exact ⟨rfl, fin hb⟩

/-- A cursor: a text and a place in it, in a block of their own. -/
def CurAt (w : World) (g : Nat) (s : ByteArray) (k : Nat) : Prop := w.heap[g]? = some (.cells #[.string s, .int .i64 k] 48 (0, 0))

theorem CurAt.c0 {w : World} {g : Nat} {s : ByteArray} {k : Nat} (h : CurAt w g s k) : w.cell? ⟨g, 0, none⟩ = some (.string s) := by
  unfold CurAt at h; simp [World.cell?, h]
theorem CurAt.c1 {w : World} {g : Nat} {s : ByteArray} {k : Nat} (h : CurAt w g s k) : w.cell? ⟨g, 1, none⟩ = some (.int .i64 k) := by
  unfold CurAt at h; simp [World.cell?, h]
theorem CurAt.fz {w : World} {g : Nat} {s : ByteArray} {k : Nat} (h : CurAt w g s k) (i : Nat) : w.frozen? ⟨g, i, none⟩ = false := by
  unfold CurAt at h; simp [World.frozen?, h]
theorem CurAt.lt {w : World} {g : Nat} {s : ByteArray} {k : Nat} (h : CurAt w g s k) : g < w.heap.size := cell_lt h.c0
theorem CurAt.below {w w' : World} {g : Nat} {s : ByteArray} {k : Nat} (h : CurAt w g s k) {B : Nat} (hb : Below B w w') (hB : w.heap.size ≤ B) : CurAt w' g s k := by
  unfold CurAt
  rw [hb.block g (by have := h.lt; omega)]; exact h
theorem CurAt.keep {w w' : World} {g : Nat} {s : ByteArray} {k : Nat} (h : CurAt w g s k) {B : Nat} (hb : Below B w w') (hg : g < B) : CurAt w' g s k := by
  unfold CurAt
  rw [hb.block g hg]; exact h
theorem CurAt.set {w : World} {g : Nat} {s : ByteArray} {k : Nat} (h : CurAt w g s k) (k' : Nat) : CurAt (w.setCell ⟨g, 1, none⟩ (.int .i64 k')) g s k' := by
  unfold CurAt at *
  simp [World.setCell, Array.getElem?_modify, h]

/-- Only block g has turned, and what is new. -/
theorem only_set {a w : World} {g : Nat} (h : Below a.heap.size a w) (_hg : g < a.heap.size) (i : Nat) (u : Value) : a.grownBy (w.setCell ⟨g, i, none⟩ u) (some g) :=
  ⟨h.os, h.tape, h.output, by simpa [World.setCell] using h.size, fun j hj hne => (Below.heap_setCell w ⟨g, i, none⟩ u j (fun e => hne (by rw [e]))).trans (h.block j hj)⟩

set_option maxHeartbeats 1000000 in
theorem curNext (s : ByteArray) (k g : Nat) (w : World) (hC : Ctx w) (hc : CurAt w g s k) (hk : k ≤ s.size) (hs : s.size ≤ 1000000) :
    Calls Tryd.prog 32 #[.pointer (some ⟨g, 0, none⟩)] w fun e w' => e = .returned (.tuple #[.int .i32 (nx (from_ s k)).1, .bool (decide (0 < (nx (from_ s k)).2))]) ∧
      w.grownBy w' (some g) ∧ CurAt w' g s (k + (nx (from_ s k)).2) := by
  have hat := fun W h => utfAt s k W h hk hs
  have hk4 : (nx (from_ s k)).2 ≤ 4 := by
    by_cases h0 : (nx (from_ s k)).2 = 0
    · omega
    · exact (nx_step s k h0).2.1
  generalize (nx (from_ s k)).1 = x at hat
  generalize (nx (from_ s k)).2 = n at hat hk4
  have hw0 : ∀ (d : Nat) (os : Array Obj), (Sort.grow (redrawn w d) os).cell? ⟨g, 0, none⟩ = some (.string s) := fun d os => cell_regrown hc.c0 d os
  have hw1 : ∀ (d : Nat) (os : Array Obj), (Sort.grow (redrawn w d) os).cell? ⟨g, 1, none⟩ = some (.int .i64 k) := fun d os => cell_regrown hc.c1 d os
  have Hc := Lib.hid hc
  clear hc
  go_enter Tryd.func32, Tryd.ntmps32
  go_wp2
  refine Rg.wp_region_plan [(true, [0,1,2,3,4,5,6,7]), (false, [8]), (true, [9,10,11,12,13])] _ (by kernel_rfl) (by kernel_rfl)
    (by simp only [List.map_cons, List.map_nil, Rg.pickOps, List.getElem?_toArray, List.getElem?_cons_zero, List.getElem?_cons_succ, Option.getD_some]; rfl) (fun K hK => ?_)
  refine Rg.plan_quiet ?_
  iterate 8 go_big_quiet_step (fail)
  refine wpQuiet_nil (Rg.plan_chain ?_)
  clear hw0 hw1
  intro W1 hW1
  go_wp2_with (go_at_call 49; refine (hat _ ?_).mono ?_; exact hC.step hW1; rintro e w2 ⟨rfl, hb⟩)
  refine ⟨hb, Rg.plan_quiet ?_⟩
  iterate 5 go_big_quiet_step (fail)
  refine wpQuiet_nil (Rg.plan_end ?_)
  intro W4 hW4
  refine hK _ _ ?_
  clear hK hat
  have hall : Below w.heap.size w W4 := Rg.tr hW1 (Rg.tr hb hW4)
  have hc4 := Hc.out.below hall (Nat.le_refl _)
  have f0 := hc4.c0
  have f1 := hc4.c1
  have f2 := hc4.fz 1
  have Hc4 := Lib.hid hc4
  clear hc4
  go_wp2
  go_ret2
  have e1 : ((k : Int) + (n : Int)) = ((k + n : Nat) : Int) := by omega
  refine ⟨?_, only_set hall Hc.out.lt 1 _, ?_⟩
  · congr 3
  · rw [e1]; exact Hc4.out.set (k + n)
theorem own_grown {w w' : World} {base : Nat} {e : TypeId} {size n : Nat} {v : Value} {xs : List Value} {g : Nat} (h : w.ownsRow base e size v n xs) (hg : w.grownBy w' (some g)) (hlt : g < base) : w'.ownsRow base e size v n xs := by
  refine h.kept hg ?_
  cases hv : v.ownBlock with
  | none => exact .inl rfl
  | some k => exact .inr (fun e => by injection e with e; have := (h.lt k hv).1; omega)

theorem below_grown {B g : Nat} {a w w' : World} (h : Below B a w) (hg : w.grownBy w' (some g)) (hB : B ≤ w.heap.size) (hgB : B ≤ g) : Below B a w' :=
  h.grown hg hB (fun k hk => by injection hk with hk; omega)

theorem Ctx.grown {w' : World} {w0 : World} (h0 : Ctx w0) (hb : Below w0.heap.size w0 w') : Ctx w' := h0.step hb

set_option maxHeartbeats 2000000 in
theorem utfSigns (s : ByteArray) (w : World) (hC : Ctx w) (hs : s.size ≤ 1000000) :
    Calls Tryd.prog 19 #[.string s] w fun e w' => ∃ v n, e = .returned (.tuple #[v, .int .i64 (sigR s.data.toList).2.1, .int .i64 (sigR s.data.toList).2.2]) ∧
      w'.ownsRow w.heap.size 3 1 v n ((sigR s.data.toList).1.map (Value.int .i64)) ∧ Below w.heap.size w w' := by
  go_enter Tryd.func19, Tryd.ntmps19
  go_wp2
  go_loopw [2] (fun v wr => ∃ k n : Nat, ∃ acc : List Int, k ≤ s.size ∧ n ≤ k ∧ CurAt wr w.heap.size s k ∧ wr.ownsRow (w.heap.size + 1) 3 1 v n (acc.map (Value.int .i64)) ∧ Below w.heap.size w wr ∧ w.heap.size + 1 ≤ wr.heap.size ∧ Hid (sgRest s.data.toList k acc)) (fun _ wr => s.size - (intOf ((wr.cell? ⟨w.heap.size, 1, none⟩).getD undef)).toNat)
  case atStart => exact ⟨0, 0, [], by omega, by omega, heap_alloc_new w _, by simpa using World.ownsRow_nil _ _ _ _, (Below.refl _ _).alloc (Nat.le_refl _) _, by simp, sgRest_start _⟩
  case round =>
    obtain ⟨k, n, acc, hk, hnk, hcu, hown, hB, hsz1, H⟩ := hrel
    have hsz : s.data.toList.length = s.size := size_toList s
    have f0 := hcu.c0
    have f1 := hcu.c1
    by_cases hlt : k < s.size
    · have hnx := fun W h1 h2 => curNext s k w.heap.size W h1 h2 hk hs
      have hCr := hC.step hB
      by_cases h0 : (nx (from_ s k)).2 = 0
      · have hres := Lib.hid (sgRest_bad H.out (by rw [hsz]; exact hlt) h0)
        rw [h0] at hnx
        clear hsz
        generalize (nx (from_ s k)).1 = x at hnx
        go_wp2_with (go_at_call 32; refine (hnx _ ?_ ?_).mono ?_; exact hCr; exact hcu; rintro e w1 ⟨rfl, hg1, hc1⟩)
        have f2 := hc1.c1
        have f3 := hc1.c0
        have hB1 := below_grown hB hg1 (by omega) (Nat.le_refl _)
        go_quiet (fail)
        go_wp2
        go_ret3
        refine ⟨_, 0, by rw [hres.out]; rfl, ?_, hB1.trans ⟨rfl, rfl, rfl, Nat.le_refl _, fun _ _ => rfl⟩⟩
        rw [hres.out]
        simpa using World.ownsRow_nil _ _ _ _
      · have hres := Lib.hid (sgRest_go H.out (by rw [hsz]; exact hlt) h0)
        obtain ⟨h1, h2, h3⟩ := nx_step s k h0
        clear hsz
        have hpos : decide (0 < (nx (from_ s k)).2) = true := by simp; omega
        rw [hpos] at hnx
        clear hpos
        generalize (nx (from_ s k)).1 = x at hnx h3 hres
        generalize (nx (from_ s k)).2 = d at hnx h0 h1 h2 hres
        go_wp2_with (first
          | (go_at_call 32; refine (hnx _ ?_ ?_).mono ?_; exact hCr; exact hcu; rintro e w1 ⟨rfl, hg1, hc1⟩; have hown1 := own_grown hown hg1 (by omega); have hB1 := below_grown hB hg1 (by omega) (Nat.le_refl _); have hz1 : wr.heap.size ≤ w1.heap.size := hg1.size)
          | (at_builtin; refine wpList_app rfl rfl Tryd.underlying22 intInfo rfl (by omega) rfl (hown1.alloc _) rfl (Rd.of_block (heap_alloc_new w1 _) rfl) rfl (ints_oneCell _ [(x : Int)]) (by omega) (by omega) (by simp; omega) ?_; intro v2 w2 hown2 hb2))
        have hcu2 := (show CurAt (w1.alloc (.cells #[.int .i64 x] 3)) w.heap.size s (k + d) from (Below.heap_alloc w1 _ _ (by omega)).trans hc1).keep hb2 (by omega)
        go_roundw
        case rel =>
          refine ⟨k+d, n+1, acc ++ [(x : Int)], by omega, by omega, hcu2, by simpa using hown2, (hB1.alloc hB1.size _).trans (hb2.mono (by omega)), by have := hb2.size; simp at this; omega, hres.out⟩
        case measure =>
          have e1 := hcu2.c1
          have e2 := hcu.c1
          simp only [e1, e2]
          simp [intOf]; omega
    · have hkl : k = s.size := by omega
      have hres := Lib.hid (sgRest_end H.out (by rw [hsz]; omega))
      clear hkl hsz
      go_wp2
      go_ret3
      refine ⟨_, n, by rw [hres.out]; rfl, ?_, hB⟩
      rw [hres.out]
      exact ⟨hown.1, hown.2.imp id fun ⟨g, cap, cur, h1, h2, h3⟩ => ⟨g, cap, cur, h1, by omega, h3⟩⟩
set_option maxHeartbeats 1000000 in
theorem utfText (l : List Int) (A : Option Addr) (c : Nat) (w : World) (hl : l.length ≤ 1000000) (hr : Rd w A (l.map (Value.int .i64))) :
    Calls Tryd.prog 10 #[.slice A l.length c] w fun e w' => e = .returned (textR l) ∧ Below w.heap.size w w' := by
  go_enter Tryd.func10, Tryd.ntmps10
  go_wp2
  go_loopw [4, 9] (fun v i wr => ∃ k n : Nat, k ≤ l.length ∧ i = .int .i64 k ∧ wr.ownsRow w.heap.size 5 1 v n ((encL (l.take k)).map (Value.int .u8)) ∧ Below w.heap.size w wr ∧ Hid (∀ j x, j < k → l[j]? = some x → isB x = true)) (fun _ i _ => l.length - (intOf i).toNat)
  case atStart => exact ⟨0, 0, by omega, rfl, by simpa [encL] using World.ownsRow_nil _ _ _ _, Below.refl _ _, fun j x h => by omega⟩
  case round =>
    obtain ⟨k, n, hk, rfl, hown, hB, H⟩ := hrel
    have hn1 : n ≤ 4 * l.length := by
      have h1 := hown.1
      have h2 := encL_length (l.take k)
      simp at h1 h2
      omega
    by_cases hlt : k < l.length
    · obtain ⟨x, hx⟩ : ∃ x, l[k]? = some x := ⟨_, List.getElem?_eq_getElem hlt⟩
      have hrr := hr.below hB (Nat.le_refl _)
      obtain ⟨g, o, rfl, h0⟩ := hrr.at_ (j := k) (u := .int .i64 x) (by simp [hx])
      have his := fun W => utfIs x W
      by_cases hi : isB x = true
      · have hxb := (isB_iff x).1 hi
        have hap := fun W v n xs (h : World.ownsRow W w.heap.size 5 1 v n xs) (hn : n + 4 ≤ 140737488355328) (hB : w.heap.size ≤ W.heap.size) => Tryd.utf8_AppendRune_plain w.heap.size v n xs x (by omega) (by omega) W h hn hB
        rw [hi] at his
        have hs := encL_take_succ l k x hx
        have Hs := Lib.hid hs
        have Hx := Lib.hid hx
        obtain ⟨⟨hx0, hx1⟩, _⟩ := hxb
        clear hx hs hr hrr
        go_wp2_with (first
          | (go_at_call 12; refine (his _).mono ?_; rintro e w1 ⟨rfl, rfl⟩)
          | (go_at_call 27; refine (hap _ _ _ _ hown (by omega) hB.size).mono ?_; rintro e w1 ⟨v', rfl, hown', ob, hgb⟩))
        go_roundw
        case rel =>
          refine ⟨k+1, n + (Lib.runeCells x).length, by omega, by go_num, ?_, ?_, fun j y hj hy => ?_⟩
          · rw [Hs.out, List.map_append]; exact hown'
          · refine (hB.alloc hB.size ob).grown hgb (by have := hB.size; simp; omega) fun q hq => (hown.lt q hq).1
          · rcases Nat.lt_or_ge j k with h | h
            · exact H.out j y h hy
            · have : j = k := by omega
              subst this
              rw [Hx.out] at hy
              injection hy with hy; subst hy; exact hi
        case measure => simp [intOf]; omega
      · have hi : isB x = false := by simpa using hi
        rw [hi] at his
        have hno := Lib.hid (textR_no l k x hx hi)
        clear hx hr hrr
        go_wp2_with (first
          | (go_at_call 12; refine (his _).mono ?_; rintro e w1 ⟨rfl, rfl⟩))
        go_ret2
        exact ⟨by rw [hno.out]; rfl, hB⟩
    · have hkl : k = l.length := by omega
      have hyes := Lib.hid (textR_yes l (fun j x hj => H.out j x (by have := (List.getElem?_eq_some_iff.1 hj).1; omega) hj))
      obtain ⟨A', c', rfl⟩ := own_form hown
      have hcv := run_conv_bytes (P := Tryd.prog) (c := c') 38 9 5 Tryd.underlying38 Tryd.underlying5 Tryd.underlying9 (Rd.of_own hown) (by simpa using hown.1)
      rw [hkl, List.take_length] at hcv
      have hts : strOfNums (encL l) = textS l := rfl
      rw [hts] at hcv
      clear hts
      have Hkl := Lib.hid hkl
      clear hkl
      go_wp2
      go_ret2
      exact ⟨by rw [hyes.out]; rfl, hB⟩
end Go.Proofs.YtdplnlbplgmijaaDoor
