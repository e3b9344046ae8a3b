/- The program's package lines: long, Term. The answer for lines: end, Term. The answer for lines: Term. The program's package lines: Parse; what it tells, plainly. -/
import Derived.Test.YtpnlabjgmdhicaaGreatDoorJLn14
import Derived.Test.YtpnlabjgmdhicaaGreatDoorJTx6
import Derived.Test.YtpnlabjgmdhicaaGreatDoorJRep2m
namespace Go.Proofs.YtpnlabjgmdhicaaGreatDoor
open Go Go.RowKit Um Fm Lx Tx
/-- Is a term's text too long? -/
def longB (t : Tm) : Bool := (showP t).2 == 3
theorem longOne (t : Tm) (w : World) (hC : CtxT w) (hs : smallT t) : Calls Tryz.prog 68 #[tA t] w fun e w' => e = .returned (.bool (longB t)) ∧ Below w.heap.size w w' := by
  have hB : Below w.heap.size w (w.alloc (.cells (tC8 t) 29)) := (Below.refl _ w).alloc (Nat.le_refl _) _
  have hS := termShow t _ (hC.step hB) hs
  have HB := Lib.hid hB
  have hl : Hid (longB t = ((showP t).2 == 3)) := rfl
  generalize showP t = q at *
  obtain ⟨qs, qe⟩ := q
  simp only at hS hl
  clear hB hC
  go_enter Tryz.func68, Tryz.ntmps68
  go_wp2_with (go_at_call 55; refine hS.mono ?_; rintro e w1 ⟨rfl, b1⟩)
  go_ret
  exact ⟨by rw [hl.out]; rfl, below_tr HB.out b1⟩
def idxL (p : Tm → Bool) : List Tm → Int
  | [] => -1
  | y :: r => if p y then 0 else if idxL p r = -1 then -1 else idxL p r + 1
theorem idxL_any (p : Tm → Bool) : ∀ l : List Tm, -1 ≤ idxL p l ∧ (0 ≤ idxL p l ↔ l.any p = true)
  | [] => by simp [idxL]
  | y :: r => by
    obtain ⟨h1, h2⟩ := idxL_any p r
    unfold idxL
    rw [List.any_cons]
    cases p y
    · rw [if_neg (by simp), Bool.false_or]
      by_cases e2 : idxL p r = -1
      · rw [if_pos e2]
        rw [e2] at h2
        exact ⟨by omega, h2⟩
      · rw [if_neg e2]
        exact ⟨by omega, ⟨fun _ => h2.1 (by omega), fun _ => by omega⟩⟩
    · rw [if_pos rfl]; simp
def idxLAt (p : Tm → Bool) (l : List Tm) (k : Nat) : Prop := idxL p l = if idxL p (l.drop k) = -1 then -1 else idxL p (l.drop k) + k
theorem idxLAt_next {p : Tm → Bool} {l : List Tm} {k : Nat} {y : Tm} (h : idxLAt p l k) (hy : l[k]? = some y) (hne : p y = false) : idxLAt p l (k + 1) := by
  unfold idxLAt at h ⊢
  have hm := (idxL_any p (l.drop (k + 1))).1
  rw [h, drop_cons_of hy, idxL, hne, if_neg (show ¬ (false = true) by simp)]
  split <;> split <;> omega
theorem longIndex (l : List Tm) (A : Option Addr) (c : Nat) (w : World) (hr : RdTs w A l) (hC : CtxT w) (hs : ∀ t ∈ l, smallT t) (hl : l.length ≤ 1000) :
    Calls Tryz.prog 106 #[.slice A l.length c, .func (.func 68) #[] #[]] w fun e w' => e = .returned (.int .i64 (idxL longB l)) ∧ Below w.heap.size w w' := by
  have HC := Lib.hid hC
  have Hs := Lib.hid hs
  clear hC hs
  go_enter Tryz.func106, Tryz.ntmps106
  go_wp2
  go_loopw [5, 8] (fun _ i wr => ∃ k : Nat, k ≤ l.length ∧ i = .int .i64 k ∧ Hid (idxLAt longB l k) ∧ Below w.heap.size w wr) (fun _ i _ => l.length - (intOf i).toNat)
  case atStart => exact ⟨0, by omega, rfl, by show idxLAt _ _ _; unfold idxLAt; rw [List.drop_zero]; split <;> omega, Below.refl _ _⟩
  case round =>
    obtain ⟨k, hk, rfl, H, hB⟩ := hrel
    have HB := Lib.hid hB
    by_cases hlt : k < l.length
    · obtain ⟨y, hy⟩ : ∃ y, l[k]? = some y := ⟨_, List.getElem?_eq_getElem hlt⟩
      obtain ⟨g, o, rfl, e0, e1, e2, e3⟩ := (hr.later hB).at4 hy
      have hone := longOne y wr (HC.out.step hB) (Hs.out y (List.mem_of_getElem? hy))
      have Hy := Lib.hid hy
      clear hB hr hy
      cases hq : longB y
      · rw [hq] at hone
        have H2 := Lib.hid (idxLAt_next H.out Hy.out hq)
        clear H hq
        go_wp2_with (refine hone.mono ?_; rintro e w1 ⟨rfl, b1⟩)
        go_roundw
        case rel => exact ⟨k + 1, by omega, by go_num, H2, below_tr HB.out b1⟩
        case measure => simp [intOf]; omega
      · rw [hq] at hone
        have H2 : Hid (idxL longB l = k) := by
          have h0 := H.out
          unfold idxLAt at h0
          rw [drop_cons_of Hy.out, idxL, if_pos hq] at h0
          show _ = _
          rw [h0]; simp
        clear H hq
        go_wp2_with (refine hone.mono ?_; rintro e w1 ⟨rfl, b1⟩)
        go_ret
        exact ⟨by rw [H2.out]; rfl, below_tr HB.out b1⟩
    · have H2 : Hid (idxL longB l = -1) := by
        have h0 := H.out
        unfold idxLAt at h0
        rw [List.drop_eq_nil_of_le (by omega)] at h0
        show _ = _
        rw [h0]; rfl
      clear H hr hB
      go_wp2
      go_ret
      exact ⟨by rw [H2.out]; rfl, HB.out⟩
theorem linesLong (l : List Tm) (A : Option Addr) (c : Nat) (w : World) (hr : RdTs w A l) (hC : CtxT w) (hs : ∀ t ∈ l, smallT t) (hl : l.length ≤ 1000) :
    Calls Tryz.prog 46 #[.slice A l.length c] w fun e w' => e = .returned (.bool (l.any longB)) ∧ Below w.heap.size w w' := by
  have hI := longIndex l A c w hr hC hs hl
  have hm := (idxL_any longB l).2
  have hd : Hid (l.any longB = decide (0 ≤ idxL longB l)) := by
    show _ = _
    rw [Bool.eq_iff_iff, decide_eq_true_iff]
    exact hm.symm
  clear hm hr hC hs
  generalize idxL longB l = z at *
  have hCF : Calls Tryz.prog 67 #[.slice A l.length c, .func (.func 68) #[] #[]] w fun e w' => e = .returned (.bool (decide (0 ≤ z))) ∧ Below w.heap.size w w' := by
    go_enter Tryz.func67, Tryz.ntmps67
    go_wp2_with (go_at_call 106; refine hI.mono ?_; rintro e w1 ⟨rfl, b1⟩)
    go_ret
    exact ⟨rfl, b1⟩
  clear hI
  go_enter Tryz.func46, Tryz.ntmps46
  go_wp2_with (go_at_call 67; refine hCF.mono ?_; rintro e w1 ⟨rfl, b1⟩)
  go_ret
  exact ⟨by rw [hd.out]; rfl, b1⟩
theorem lowS_size (x : ByteArray) : (lowS x).size = x.size := by
  unfold lowS
  rw [mkS_size, List.length_map, size_toList]
theorem small_z : smallT zTm := ⟨by decide, by decide, by decide⟩
theorem objC_small {n : Nat} {s : Ls} (h : TsOk s.r) : smallT (objC n s).1 := by
  have z : (⟨#[]⟩ : ByteArray).size ≤ 1000000 := by decide
  obtain ⟨h1, h2⟩ := must_ok (ks := [1, 2, 3]) (n := n) h
  obtain ⟨h3, h4⟩ := must_ok (ks := [4]) (n := n) h2
  obtain ⟨h5, h6⟩ := must_ok (ks := [5]) (n := n) h2
  obtain ⟨h7, h8⟩ := must_ok (ks := [1]) (n := n) h6
  unfold objC
  dsimp only
  split
  · split
    · exact ⟨h1, by rw [lowS_size]; exact h3, z⟩
    · split
      · show smallT (typedT _ _)
        unfold typedT
        split
        · exact ⟨h1, z, z⟩
        · exact ⟨h1, z, h7⟩
      · exact ⟨h1, z, z⟩
  · show smallT (namedP _)
    unfold namedP
    split <;> exact ⟨h1, z, z⟩
theorem told_fst {α : Type} (z : α) (o : α × Ls) : (told z o).1 = z ∨ (told z o).1 = o.1 := by
  unfold told
  split
  · exact .inl rfl
  · exact .inr rfl
end Go.Proofs.YtpnlabjgmdhicaaGreatDoor
namespace Go.Proofs.YtpnlabjgmdhicaaGreatDoor
open Go Go.RowKit Um Fm Lx Tx
end Go.Proofs.YtpnlabjgmdhicaaGreatDoor
namespace Go.Proofs.YtpnlabjgmdhicaaGreatDoor
open Go Go.RowKit Um Fm Lx Tx
end Go.Proofs.YtpnlabjgmdhicaaGreatDoor
namespace Go.Proofs.YtpnlabjgmdhicaaGreatDoor
open Go Go.RowKit Um Fm Lx Tx
/-- A line's triple, if it has one; or where it can't be, and why. -/
def rowT (r : List UInt8) : Tp × Bool × Nat × Int := readL true tripT zTp r
def longP (t : Tp) : Bool := [t.s, t.p, t.o].any longB
/-- Lines, one by one: the triples so far; the first line with too long a term. -/
def goP : List (List UInt8) → Nat → List Tp → Nat → List Tp × Nat × Nat × Int
  | [], _, acc, over => if over = 0 then (acc, 0, 0, 0) else ([], over, 0, 3)
  | r :: rs, k, acc, over =>
    if (rowT r).2.2.2 ≠ 0 then ([], k + 1, (rowT r).2.2.1, (rowT r).2.2.2)
    else goP rs (k + 1) (if (rowT r).2.1 = true then acc ++ [(rowT r).1] else acc) (if over = 0 ∧ (rowT r).2.1 = true ∧ longP (rowT r).1 = true then k + 1 else over)
def parL (l : List UInt8) : List Tp × Nat × Nat × Int := goP (splitL l) 0 [] 0
def smallP3 (t : Tp) : Prop := smallT t.s ∧ smallT t.p ∧ smallT t.o
theorem named_small {ks : List Nat} {n : Nat} {s : Ls} (h : TsOk s.r) : smallT (namedP (mustP ks n s).1) := by
  have z : (⟨#[]⟩ : ByteArray).size ≤ 1000000 := by decide
  have h1 := (must_ok (ks := ks) (n := n) h).1
  unfold namedP
  split <;> exact ⟨h1, z, z⟩
theorem trip_small {n : Nat} {s : Ls} (h : TsOk s.r) : smallP3 (tripT n s).1 := by
  have h1 := (must_ok (ks := [1, 2]) (n := n) h).2
  have h2 := (must_ok (ks := [1]) (n := n) h1).2
  exact ⟨named_small h, named_small h1, objC_small h2⟩
theorem rowT_small {l : List UInt8} (hl : l.length ≤ 100000) : smallP3 (rowT l).1 := by
  have z : smallP3 zTp := ⟨small_z, small_z, small_z⟩
  unfold rowT readL
  split
  · split
    · exact z
    · rcases told_fst zTp (tripT l.length ⟨(lineL l).1, none⟩) with e | e
      · rw [e]; exact z
      · rw [e]; exact trip_small (line_toks l hl).1
  · exact z
/-- A triple's cells. -/
def tpL (t : Tp) : List Value := (tpC t).toList
theorem tpL_len (ts : List Tp) : (ts.flatMap tpL).length = ts.length * 12 := by
  induction ts with
  | nil => rfl
  | cons t r ih => rw [List.flatMap_cons, List.length_append, ih, List.length_cons]; simp [tpL]; omega
theorem tpL_one (t : Tp) : ∀ u ∈ tpL t, u.oneCell' = true := by
  intro u hu
  simp only [tpL, List.mem_cons, List.not_mem_nil, or_false] at hu
  rcases hu with rfl | rfl | rfl | rfl | rfl | rfl | rfl | rfl | rfl | rfl | rfl | rfl <;> rfl
theorem info_trip : (Tryz.prog.info? 31).map (fun i => (i.zero, i.size, i.bytes)) = some (some (.agg zCs), 12, 168) := by kernel_rfl
/-- What Parse says. -/
def ParseR (l : List UInt8) (w : World) (e : Ending) (w' : World) : Prop := ∃ v, e = .returned (.tuple #[v, .int .i64 (parL l).2.1, .int .i64 (parL l).2.2.1, .int .i64 (parL l).2.2.2]) ∧ w'.ownsRow w.heap.size 31 12 v (parL l).1.length ((parL l).1.flatMap tpL) ∧ Below w.heap.size w w'
/-- What a round of Parse keeps. -/
def ParL (l : List UInt8) (W1 : World) (v o i : Value) (wr : World) : Prop := ∃ (k : Nat) (acc : List Tp) (over : Nat), k ≤ (splitL l).length ∧ i = .int .i64 k ∧ o = .int .i64 over ∧ over ≤ k ∧ acc.length ≤ k ∧
  wr.ownsRow W1.heap.size 31 12 v acc.length (acc.flatMap tpL) ∧ Below W1.heap.size W1 wr ∧ Hid (parL l = goP ((splitL l).drop k) k acc over)
theorem mkS_data (l : List UInt8) : (mkS l).data.toList = l := List.toList_toArray
set_option maxHeartbeats 8000000 in
set_option maxRecDepth 20000 in
theorem linesParse2 (s : ByteArray) (w : World) (hC : CtxL w) (hT : CtxT w) (hs : s.size ≤ 1000000) (hrs' : ∀ a ∈ splitL s.data.toList, a.length ≤ 100000) : Calls Tryz.prog 27 #[.string s] w (ParseR s.data.toList w) := by
  have hsp := linesSplit s w hC.1 (by omega)
  obtain ⟨hrl, hrs⟩ := split_size s.data.toList
  rw [size_toList] at hrl
  have Hp : Hid (parL s.data.toList = goP (splitL s.data.toList) 0 [] 0) := rfl
  have HC := Lib.hid hC
  have HT := Lib.hid hT
  clear hC hT hrs
  have hPR : ∀ e w', ParseR s.data.toList w e w' → ParseR s.data.toList w e w' := fun _ _ h => h
  generalize hsl : splitL s.data.toList = rows at *
  have Hsl := Lib.hid hsl
  go_enter Tryz.func27, Tryz.ntmps27
  go_wp2_with fail
  refine hsp.mono ?_
  rintro e W1 ⟨v1, rfl, own1, hB1⟩
  rw [hsl] at own1
  clear hsl hsp
  obtain ⟨A1, c1, rfl, hc1, hR1⟩ := own_slice own1
  have HB1 := Lib.hid hB1
  clear own1 hB1
  go_wp2
  go_loopw [2, 6, 19] (ParL s.data.toList W1) (fun _ _ i _ => rows.length - (intOf i).toNat)
  case atStart =>
    exact ⟨0, [], 0, by omega, rfl, rfl, by omega, by simp, World.ownsRow_nil _ _ _ _, Below.refl _ _, by show _ = _; rw [List.drop_zero]; exact Hp.out.trans (by rw [Hsl.out])⟩
  case round =>
    obtain ⟨k, acc, over, hk, rfl, rfl, hok, hak, own, hB, HI⟩ := hrel
    rw [Hsl.out] at hk HI
    have HB := Lib.hid hB
    have Own := Lib.hid own
    obtain ⟨A, c, rfl, hac, _⟩ := own_slice own
    by_cases hlt : k < rows.length
    · obtain ⟨r, hr⟩ : ∃ r, rows[k]? = some r := ⟨_, List.getElem?_eq_getElem hlt⟩
      obtain ⟨g, o, rfl, e0⟩ := (hR1.later hB).at_ (j := k) (u := .string (mkS r)) (by rw [List.getElem?_map, hr]; rfl)
      have hrlen := hrs' r (List.mem_of_getElem? hr)
      have hrd := rReadP (mkS r) wr ((HC.out.step HB1.out).step hB) (by rw [mkS_size]; exact hrlen)
      rw [mkS_data] at hrd
      have hsm := rowT_small hrlen
      have HI2 : Hid (parL s.data.toList = if (rowT r).2.2.2 ≠ 0 then ([], k + 1, (rowT r).2.2.1, (rowT r).2.2.2)
        else goP (rows.drop (k + 1)) (k + 1) (if (rowT r).2.1 = true then acc ++ [(rowT r).1] else acc) (if over = 0 ∧ (rowT r).2.1 = true ∧ longP (rowT r).1 = true then k + 1 else over)) := by
        show _ = _
        rw [HI.out, drop_cons_of hr]
        rfl
      change Calls Tryz.prog 44 #[.string (mkS r), .bool true, .func (.func 45) #[] #[]] wr fun e w' => e = .returned (.tuple #[tpA (rowT r).1, .bool (rowT r).2.1, .int .i64 (rowT r).2.2.1, .int .i64 (rowT r).2.2.2]) ∧ Below wr.heap.size wr w' at hrd
      generalize rowT r = q at *
      obtain ⟨t, ok, at1, er⟩ := q
      simp only at hrd hsm HI2
      clear HI hB own hr hrlen
      by_cases he : er = 0
      · subst he
        have HI3 : Hid (parL s.data.toList = goP (rows.drop (k + 1)) (k + 1) (if ok = true then acc ++ [t] else acc) (if over = 0 ∧ ok = true ∧ longP t = true then k + 1 else over)) := by
          show _ = _
          rw [HI2.out, if_neg (by simp)]
        clear HI2
        have hq : ((over : Int) == 0) = decide (over = 0) := by
          by_cases h : over = 0
          · subst h; rfl
          · rw [decide_eq_false h]; simp; omega
        cases ok
        · have HI4 : Hid (parL s.data.toList = goP (rows.drop (k + 1)) (k + 1) acc over) := by
            show _ = _
            rw [HI3.out, if_neg (by simp), if_neg (by simp)]
          clear HI3
          by_cases ho : over = 0
          · rw [decide_eq_true ho] at hq
            clear ho
            go_wp2_with fail
            refine hrd.mono ?_
            rintro e W2 ⟨rfl, hB2⟩
            have HB2 := Lib.hid (below_tr HB.out hB2)
            have Own2 := Lib.hid (own_below Own.out hB2 (Nat.le_refl _))
            clear hB2
            go_wp2
            go_roundw
            case rel =>
              refine ⟨k + 1, acc, over, by rw [Hsl.out]; omega, by go_num, rfl, by omega, by omega, Own2.out.alloc _, below_alloc HB2.out, ?_⟩
              rw [Hsl.out]; exact HI4
            case measure => simp [intOf]; omega
          · rw [decide_eq_false ho] at hq
            clear ho
            go_wp2_with fail
            refine hrd.mono ?_
            rintro e W2 ⟨rfl, hB2⟩
            have HB2 := Lib.hid (below_tr HB.out hB2)
            have Own2 := Lib.hid (own_below Own.out hB2 (Nat.le_refl _))
            clear hB2
            go_wp2
            go_roundw
            case rel =>
              refine ⟨k + 1, acc, over, by rw [Hsl.out]; omega, by go_num, rfl, by omega, by omega, Own2.out.alloc _, below_alloc HB2.out, ?_⟩
              rw [Hsl.out]; exact HI4
            case measure => simp [intOf]; omega
        · have hoL := Own.out.lt
          by_cases ho : over = 0
          · rw [decide_eq_true ho] at hq
            have HI4 : Hid (parL s.data.toList = goP (rows.drop (k + 1)) (k + 1) (acc ++ [t]) (if longP t = true then k + 1 else over)) := by
              show _ = _
              rw [HI3.out, if_pos rfl]
              simp only [ho, true_and]
            clear HI3 ho
            go_wp2_with fail
            refine hrd.mono ?_
            rintro e W2 ⟨rfl, hB2⟩
            have hz2 := hB2.size
            have Own2 := own_below Own.out hB2 (Nat.le_refl _)
            have hb2 := below_tr HB.out hB2
            have HB2 := Lib.hid hb2
            have ownN : ((W2.alloc (.cells (tpC t) 31)).alloc (.cells (tpC t) 31)).ownsRow W1.heap.size 31 12 (.slice A acc.length c) acc.length (acc.flatMap tpL) := (Own2.alloc _).alloc _
            have hrN : Rd ((W2.alloc (.cells (tpC t) 31)).alloc (.cells (tpC t) 31)) (some ⟨W2.heap.size + 1, 0, none⟩) (tpL t) := rd_two' _ _ _ _ _ rfl
            have hT9 : bkT W2.heap.size 31 (tpC t) ((W2.alloc (.cells (tpC t) 31)).alloc (.cells (tpC t) 31)) := heap_two_1 W2 _ _
            have HT9 := Lib.hid hT9
            have hbs : W1.heap.size ≤ W2.heap.size := hb2.size
            have HBN : Hid (Below W1.heap.size W1 ((W2.alloc (.cells (tpC t) 31)).alloc (.cells (tpC t) 31))) := below_alloc (below_alloc hb2)
            have hnT : ∀ q, (Value.slice A acc.length c).ownBlock = some q → W2.heap.size ≠ q := fun q hq => by have := (hoL q hq).2; omega
            clear hB2 Own2 hT9 hb2
            go_wp2_with (at_builtin; refine wpList_appG (m := 1) rfl rfl Tryz.underlying22 info_trip rfl (by omega) rfl ownN rfl hrN rfl (tpL_one _) (by omega) (by omega) (by simp; omega) ?_; intro v5 w5 own5 hb5 hg5; obtain ⟨A5, c5, rfl, _, _⟩ := own_slice own5; have T9 : bkT W2.heap.size 31 (tpC t) w5 := (hg5.block _ HT9.out.lt (fun e => hnT _ e.symm rfl)).trans HT9.out; have HB5 := Lib.hid (HBN.out.trans hb5); have Own5 := Lib.hid own5; have l5 := T9.lt; have s0 := T9.cell 0 rfl; have s1 := T9.cell 1 rfl; have s2 := T9.cell 2 rfl; have s3 := T9.cell 3 rfl; have s4 := T9.cell 4 rfl; have s5 := T9.cell 5 rfl; have s6 := T9.cell 6 rfl; have s7 := T9.cell 7 rfl; have s8 := T9.cell 8 rfl; have s9 := T9.cell 9 rfl; have s10 := T9.cell 10 rfl; have s11 := T9.cell 11 rfl; clear hb5 hg5 own5 T9 ownN hrN)
            have hlg := linesLong [t.s, t.p, t.o] (some ⟨w5.heap.size, 0, none⟩) 3 (w5.alloc (.cells (tpC t) 29)) ⟨_, Rd.of_block (heap_alloc_new w5 _) rfl, All.of_flat (f := tmC) [t.s, t.p, t.o] fun _ _ => rfl⟩ ((HT.out.step (below_tr HB1.out HB5.out)).step ((Below.refl _ _).alloc (Nat.le_refl _) _)) (fun u hu => by simp at hu; rcases hu with rfl | rfl | rfl <;> first | exact hsm.1 | exact hsm.2.1 | exact hsm.2.2) (by simp)
            change Calls Tryz.prog 46 #[.slice (some ⟨w5.heap.size, 0, none⟩) 3 3] (w5.alloc (.cells (tpC t) 29)) fun e w' => e = .returned (.bool (longP t)) ∧ Below (w5.alloc (.cells (tpC t) 29)).heap.size (w5.alloc (.cells (tpC t) 29)) w' at hlg
            have hb6 : Below w5.heap.size w5 (w5.alloc (.cells (tpC t) 29)) := (Below.refl _ _).alloc (Nat.le_refl _) _
            have HB6 := Lib.hid hb6
            clear hb6
            cases hq2 : longP t
            · rw [hq2] at hlg
              rw [hq2, if_neg (by simp)] at HI4
              go_wp2_with fail
              refine hlg.mono ?_
              rintro e W7 ⟨rfl, hB7⟩
              have HB7 := Lib.hid (below_tr HB6.out hB7)
              clear hB7
              go_wp2
              go_roundw
              case rel =>
                refine ⟨k + 1, acc ++ [t], over, by rw [Hsl.out]; omega, by go_num, rfl, by omega, by simp; omega, ?_, below_tr HB5.out HB7.out, ?_⟩
                · rw [List.length_append, List.flatMap_append, List.flatMap_cons, List.flatMap_nil, List.append_nil]
                  exact own_below Own5.out HB7.out (Nat.le_refl _)
                · rw [Hsl.out]; exact HI4
              case measure => simp [intOf]; omega
            · rw [hq2] at hlg
              rw [hq2, if_pos rfl] at HI4
              go_wp2_with fail
              refine hlg.mono ?_
              rintro e W7 ⟨rfl, hB7⟩
              have HB7 := Lib.hid (below_tr HB6.out hB7)
              clear hB7
              go_wp2
              go_roundw
              case rel =>
                refine ⟨k + 1, acc ++ [t], k + 1, by rw [Hsl.out]; omega, by go_num, by go_num, by omega, by simp; omega, ?_, below_tr HB5.out HB7.out, ?_⟩
                · rw [List.length_append, List.flatMap_append, List.flatMap_cons, List.flatMap_nil, List.append_nil]
                  exact own_below Own5.out HB7.out (Nat.le_refl _)
                · rw [Hsl.out]; exact HI4
              case measure => simp [intOf]; omega
          · rw [decide_eq_false ho] at hq
            have HI4 : Hid (parL s.data.toList = goP (rows.drop (k + 1)) (k + 1) (acc ++ [t]) over) := by
              show _ = _
              rw [HI3.out, if_pos rfl, if_neg (fun h => ho h.1)]
            clear HI3 ho
            go_wp2_with fail
            refine hrd.mono ?_
            rintro e W2 ⟨rfl, hB2⟩
            have hz2 := hB2.size
            have Own2 := own_below Own.out hB2 (Nat.le_refl _)
            have hb2 := below_tr HB.out hB2
            have HB2 := Lib.hid hb2
            have ownN : ((W2.alloc (.cells (tpC t) 31)).alloc (.cells (tpC t) 31)).ownsRow W1.heap.size 31 12 (.slice A acc.length c) acc.length (acc.flatMap tpL) := (Own2.alloc _).alloc _
            have hrN : Rd ((W2.alloc (.cells (tpC t) 31)).alloc (.cells (tpC t) 31)) (some ⟨W2.heap.size + 1, 0, none⟩) (tpL t) := rd_two' _ _ _ _ _ rfl
            have hT9 : bkT W2.heap.size 31 (tpC t) ((W2.alloc (.cells (tpC t) 31)).alloc (.cells (tpC t) 31)) := heap_two_1 W2 _ _
            have HT9 := Lib.hid hT9
            have hbs : W1.heap.size ≤ W2.heap.size := hb2.size
            have HBN : Hid (Below W1.heap.size W1 ((W2.alloc (.cells (tpC t) 31)).alloc (.cells (tpC t) 31))) := below_alloc (below_alloc hb2)
            have hnT : ∀ q, (Value.slice A acc.length c).ownBlock = some q → W2.heap.size ≠ q := fun q hq => by have := (hoL q hq).2; omega
            clear hB2 Own2 hT9 hb2
            go_wp2_with (at_builtin; refine wpList_appG (m := 1) rfl rfl Tryz.underlying22 info_trip rfl (by omega) rfl ownN rfl hrN rfl (tpL_one _) (by omega) (by omega) (by simp; omega) ?_; intro v5 w5 own5 hb5 hg5; obtain ⟨A5, c5, rfl, _, _⟩ := own_slice own5; have T9 : bkT W2.heap.size 31 (tpC t) w5 := (hg5.block _ HT9.out.lt (fun e => hnT _ e.symm rfl)).trans HT9.out; have HB5 := Lib.hid (HBN.out.trans hb5); have Own5 := Lib.hid own5; have l5 := T9.lt; have s0 := T9.cell 0 rfl; have s1 := T9.cell 1 rfl; have s2 := T9.cell 2 rfl; have s3 := T9.cell 3 rfl; have s4 := T9.cell 4 rfl; have s5 := T9.cell 5 rfl; have s6 := T9.cell 6 rfl; have s7 := T9.cell 7 rfl; have s8 := T9.cell 8 rfl; have s9 := T9.cell 9 rfl; have s10 := T9.cell 10 rfl; have s11 := T9.cell 11 rfl; clear hb5 hg5 own5 T9 ownN hrN)
            go_wp2
            go_roundw
            case rel =>
              refine ⟨k + 1, acc ++ [t], over, by rw [Hsl.out]; omega, by go_num, rfl, by omega, by simp; omega, ?_, HB5.out, ?_⟩
              · rw [List.length_append, List.flatMap_append, List.flatMap_cons, List.flatMap_nil, List.append_nil]
                exact Own5.out
              · rw [Hsl.out]; exact HI4
            case measure => simp [intOf]; omega
      · have hm : Hid (parL s.data.toList = ([], k + 1, at1, er)) := by show _ = _; rw [HI2.out, if_pos he]
        have hne : (er != (0 : Int)) = true := by simpa using he
        clear HI2 he
        go_wp2_with fail
        refine hrd.mono ?_
        rintro e W2 ⟨rfl, hB2⟩
        have HB2 := Lib.hid (below_tr HB1.out (below_tr HB.out hB2))
        clear hB2
        go_wp2
        refine bodyPost_ret (v := .tuple #[.slice none 0 0, .int .i64 ((k : Int) + 1), .int .i64 at1, .int .i64 er]) (by simp [results, Tryz.results27, go_sem]) rfl ?_
        refine ⟨.slice none 0 0, by rw [hm.out]; rfl, by rw [hm.out]; exact World.ownsRow_nil _ _ _ _, ?_⟩
        exact below_alloc HB2.out
    · have hd : rows.drop k = [] := List.drop_eq_nil_of_le (by omega)
      rw [hd] at HI
      by_cases ho : over = 0
      · have hm : Hid (parL s.data.toList = (acc, 0, 0, 0)) := by show _ = _; rw [HI.out, goP, if_pos ho]
        subst ho
        clear HI hB own hd
        go_wp2
        refine bodyPost_ret (v := .tuple #[.slice A acc.length c, .int .i64 0, .int .i64 0, .int .i64 0]) (by simp [results, Tryz.results27, go_sem]) rfl ?_
        refine ⟨_, by rw [hm.out]; rfl, by rw [hm.out]; exact own_downL Own.out HB1.out.size, below_tr HB1.out HB.out⟩
      · have hm : Hid (parL s.data.toList = ([], over, 0, 3)) := by show _ = _; rw [HI.out, goP, if_neg ho]
        clear HI hB own hd
        go_wp2
        refine bodyPost_ret (v := .tuple #[.slice none 0 0, .int .i64 over, .int .i64 0, .int .i64 3]) (by simp [results, Tryz.results27, go_sem]) rfl ?_
        refine ⟨.slice none 0 0, by rw [hm.out]; rfl, by rw [hm.out]; exact World.ownsRow_nil _ _ _ _, below_tr HB1.out HB.out⟩
end Go.Proofs.YtpnlabjgmdhicaaGreatDoor
