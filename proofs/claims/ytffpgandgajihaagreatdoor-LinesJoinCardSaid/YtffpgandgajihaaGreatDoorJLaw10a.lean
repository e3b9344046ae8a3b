/- The program's package lines: Parse; what it tells, plainly. Two terms, compared by Go's ==. Layer 10's laws, walked: awake, LinesTerm. -/
import Derived.Test.YtffpgandgajihaaGreatDoorJLn17
import Derived.Test.YtffpgandgajihaaGreatDoorJRep2m
import Derived.Test.YtffpgandgajihaaGreatDoorJR8e
import Derived.Test.YtffpgandgajihaaGreatDoorJTxPU
namespace Go.Proofs.YtffpgandgajihaaGreatDoor
open Go Go.RowKit Um Fm Lx Tx
/-- A line's triple, if it has one; or where it can't be, and why. -/
def rowT (r : List UInt8) : Tp × Bool × Nat × Int := readL true tripT zTp r
def longP (t : Tp) : Bool := [t.s, t.p, t.o].any longB
/-- Lines, one by one: the triples so far; the first line with too long a term. -/
def goP : List (List UInt8) → Nat → List Tp → Nat → List Tp × Nat × Nat × Int
  | [], _, acc, over => if over = 0 then (acc, 0, 0, 0) else ([], over, 0, 3)
  | r :: rs, k, acc, over =>
    if (rowT r).2.2.2 ≠ 0 then ([], k + 1, (rowT r).2.2.1, (rowT r).2.2.2)
    else goP rs (k + 1) (if (rowT r).2.1 = true then acc ++ [(rowT r).1] else acc) (if over = 0 ∧ (rowT r).2.1 = true ∧ longP (rowT r).1 = true then k + 1 else over)
def parL (l : List UInt8) : List Tp × Nat × Nat × Int := goP (splitL l) 0 [] 0
def smallP3 (t : Tp) : Prop := smallT t.s ∧ smallT t.p ∧ smallT t.o
theorem named_small {ks : List Nat} {n : Nat} {s : Ls} (h : TsOk s.r) : smallT (namedP (mustP ks n s).1) := by
  have z : (⟨#[]⟩ : ByteArray).size ≤ 1000000 := by decide
  have h1 := (must_ok (ks := ks) (n := n) h).1
  unfold namedP
  split <;> exact ⟨h1, z, z⟩
theorem trip_small {n : Nat} {s : Ls} (h : TsOk s.r) : smallP3 (tripT n s).1 := by
  have h1 := (must_ok (ks := [1, 2]) (n := n) h).2
  have h2 := (must_ok (ks := [1]) (n := n) h1).2
  exact ⟨named_small h, named_small h1, objC_small h2⟩
theorem rowT_small {l : List UInt8} (hl : l.length ≤ 100000) : smallP3 (rowT l).1 := by
  have z : smallP3 zTp := ⟨small_z, small_z, small_z⟩
  unfold rowT readL
  split
  · split
    · exact z
    · rcases told_fst zTp (tripT l.length ⟨(lineL l).1, none⟩) with e | e
      · rw [e]; exact z
      · rw [e]; exact trip_small (line_toks l hl).1
  · exact z
/-- A triple's cells. -/
def tpL (t : Tp) : List Value := (tpC t).toList
theorem tpL_len (ts : List Tp) : (ts.flatMap tpL).length = ts.length * 12 := by
  induction ts with
  | nil => rfl
  | cons t r ih => rw [List.flatMap_cons, List.length_append, ih, List.length_cons]; simp [tpL]; omega
theorem tpL_one (t : Tp) : ∀ u ∈ tpL t, u.oneCell' = true := by
  intro u hu
  simp only [tpL, List.mem_cons, List.not_mem_nil, or_false] at hu
  rcases hu with rfl | rfl | rfl | rfl | rfl | rfl | rfl | rfl | rfl | rfl | rfl | rfl <;> rfl
theorem info_trip : (Tryz.prog.info? 37).map (fun i => (i.zero, i.size, i.bytes)) = some (some (.agg zCs), 12, 168) := by kernel_rfl
/-- What Parse says. -/
def ParseR (l : List UInt8) (w : World) (e : Ending) (w' : World) : Prop := ∃ v, e = .returned (.tuple #[v, .int .i64 (parL l).2.1, .int .i64 (parL l).2.2.1, .int .i64 (parL l).2.2.2]) ∧ w'.ownsRow w.heap.size 37 12 v (parL l).1.length ((parL l).1.flatMap tpL) ∧ Below w.heap.size w w'
/-- What a round of Parse keeps. -/
def ParL (l : List UInt8) (W1 : World) (v o i : Value) (wr : World) : Prop := ∃ (k : Nat) (acc : List Tp) (over : Nat), k ≤ (splitL l).length ∧ i = .int .i64 k ∧ o = .int .i64 over ∧ over ≤ k ∧ acc.length ≤ k ∧
  wr.ownsRow W1.heap.size 37 12 v acc.length (acc.flatMap tpL) ∧ Below W1.heap.size W1 wr ∧ Hid (parL l = goP ((splitL l).drop k) k acc over)
theorem mkS_data (l : List UInt8) : (mkS l).data.toList = l := List.toList_toArray
set_option maxHeartbeats 8000000 in
set_option maxRecDepth 20000 in
theorem linesParse (s : ByteArray) (w : World) (hC : CtxL w) (hT : CtxT w) (hs : s.size ≤ 100000) : Calls Tryz.prog 8 #[.string s] w (ParseR s.data.toList w) := by
  have hsp := linesSplit s w hC.1 hs
  obtain ⟨hrl, hrs⟩ := split_size s.data.toList
  rw [size_toList] at hrl
  have hrs' : ∀ a ∈ splitL s.data.toList, a.length ≤ 100000 := fun a ha => by have := hrs a ha; rw [size_toList] at this; omega
  have Hp : Hid (parL s.data.toList = goP (splitL s.data.toList) 0 [] 0) := rfl
  have HC := Lib.hid hC
  have HT := Lib.hid hT
  clear hC hT hrs
  have hPR : ∀ e w', ParseR s.data.toList w e w' → ParseR s.data.toList w e w' := fun _ _ h => h
  generalize hsl : splitL s.data.toList = rows at *
  have Hsl := Lib.hid hsl
  go_enter Tryz.func8, Tryz.ntmps8
  go_wp2_with fail
  refine hsp.mono ?_
  rintro e W1 ⟨v1, rfl, own1, hB1⟩
  rw [hsl] at own1
  clear hsl hsp
  obtain ⟨A1, c1, rfl, hc1, hR1⟩ := own_slice own1
  have HB1 := Lib.hid hB1
  clear own1 hB1
  go_wp2
  go_loopw [2, 6, 19] (ParL s.data.toList W1) (fun _ _ i _ => rows.length - (intOf i).toNat)
  case atStart =>
    exact ⟨0, [], 0, by omega, rfl, rfl, by omega, by simp, World.ownsRow_nil _ _ _ _, Below.refl _ _, by show _ = _; rw [List.drop_zero]; exact Hp.out.trans (by rw [Hsl.out])⟩
  case round =>
    obtain ⟨k, acc, over, hk, rfl, rfl, hok, hak, own, hB, HI⟩ := hrel
    rw [Hsl.out] at hk HI
    have HB := Lib.hid hB
    have Own := Lib.hid own
    obtain ⟨A, c, rfl, hac, _⟩ := own_slice own
    by_cases hlt : k < rows.length
    · obtain ⟨r, hr⟩ : ∃ r, rows[k]? = some r := ⟨_, List.getElem?_eq_getElem hlt⟩
      obtain ⟨g, o, rfl, e0⟩ := (hR1.later hB).at_ (j := k) (u := .string (mkS r)) (by rw [List.getElem?_map, hr]; rfl)
      have hrlen := hrs' r (List.mem_of_getElem? hr)
      have hrd := rReadP (mkS r) wr ((HC.out.step HB1.out).step hB) (by rw [mkS_size]; exact hrlen)
      rw [mkS_data] at hrd
      have hsm := rowT_small hrlen
      have HI2 : Hid (parL s.data.toList = if (rowT r).2.2.2 ≠ 0 then ([], k + 1, (rowT r).2.2.1, (rowT r).2.2.2)
        else goP (rows.drop (k + 1)) (k + 1) (if (rowT r).2.1 = true then acc ++ [(rowT r).1] else acc) (if over = 0 ∧ (rowT r).2.1 = true ∧ longP (rowT r).1 = true then k + 1 else over)) := by
        show _ = _
        rw [HI.out, drop_cons_of hr]
        rfl
      change Calls Tryz.prog 21 #[.string (mkS r), .bool true, .func (.func 22) #[] #[]] wr fun e w' => e = .returned (.tuple #[tpA (rowT r).1, .bool (rowT r).2.1, .int .i64 (rowT r).2.2.1, .int .i64 (rowT r).2.2.2]) ∧ Below wr.heap.size wr w' at hrd
      generalize rowT r = q at *
      obtain ⟨t, ok, at1, er⟩ := q
      simp only at hrd hsm HI2
      clear HI hB own hr hrlen
      by_cases he : er = 0
      · subst he
        have HI3 : Hid (parL s.data.toList = goP (rows.drop (k + 1)) (k + 1) (if ok = true then acc ++ [t] else acc) (if over = 0 ∧ ok = true ∧ longP t = true then k + 1 else over)) := by
          show _ = _
          rw [HI2.out, if_neg (by simp)]
        clear HI2
        have hq : ((over : Int) == 0) = decide (over = 0) := by
          by_cases h : over = 0
          · subst h; rfl
          · rw [decide_eq_false h]; simp; omega
        cases ok
        · have HI4 : Hid (parL s.data.toList = goP (rows.drop (k + 1)) (k + 1) acc over) := by
            show _ = _
            rw [HI3.out, if_neg (by simp), if_neg (by simp)]
          clear HI3
          by_cases ho : over = 0
          · rw [decide_eq_true ho] at hq
            clear ho
            go_wp2_with fail
            refine hrd.mono ?_
            rintro e W2 ⟨rfl, hB2⟩
            have HB2 := Lib.hid (below_tr HB.out hB2)
            have Own2 := Lib.hid (own_below Own.out hB2 (Nat.le_refl _))
            clear hB2
            go_wp2
            go_roundw
            case rel =>
              refine ⟨k + 1, acc, over, by rw [Hsl.out]; omega, by go_num, rfl, by omega, by omega, Own2.out.alloc _, below_alloc HB2.out, ?_⟩
              rw [Hsl.out]; exact HI4
            case measure => simp [intOf]; omega
          · rw [decide_eq_false ho] at hq
            clear ho
            go_wp2_with fail
            refine hrd.mono ?_
            rintro e W2 ⟨rfl, hB2⟩
            have HB2 := Lib.hid (below_tr HB.out hB2)
            have Own2 := Lib.hid (own_below Own.out hB2 (Nat.le_refl _))
            clear hB2
            go_wp2
            go_roundw
            case rel =>
              refine ⟨k + 1, acc, over, by rw [Hsl.out]; omega, by go_num, rfl, by omega, by omega, Own2.out.alloc _, below_alloc HB2.out, ?_⟩
              rw [Hsl.out]; exact HI4
            case measure => simp [intOf]; omega
        · have hoL := Own.out.lt
          by_cases ho : over = 0
          · rw [decide_eq_true ho] at hq
            have HI4 : Hid (parL s.data.toList = goP (rows.drop (k + 1)) (k + 1) (acc ++ [t]) (if longP t = true then k + 1 else over)) := by
              show _ = _
              rw [HI3.out, if_pos rfl]
              simp only [ho, true_and]
            clear HI3 ho
            go_wp2_with fail
            refine hrd.mono ?_
            rintro e W2 ⟨rfl, hB2⟩
            have hz2 := hB2.size
            have Own2 := own_below Own.out hB2 (Nat.le_refl _)
            have hb2 := below_tr HB.out hB2
            have HB2 := Lib.hid hb2
            have ownN : ((W2.alloc (.cells (tpC t) 37)).alloc (.cells (tpC t) 37)).ownsRow W1.heap.size 37 12 (.slice A acc.length c) acc.length (acc.flatMap tpL) := (Own2.alloc _).alloc _
            have hrN : Rd ((W2.alloc (.cells (tpC t) 37)).alloc (.cells (tpC t) 37)) (some ⟨W2.heap.size + 1, 0, none⟩) (tpL t) := rd_two' _ _ _ _ _ rfl
            have hT9 : bkT W2.heap.size 37 (tpC t) ((W2.alloc (.cells (tpC t) 37)).alloc (.cells (tpC t) 37)) := heap_two_1 W2 _ _
            have HT9 := Lib.hid hT9
            have hbs : W1.heap.size ≤ W2.heap.size := hb2.size
            have HBN : Hid (Below W1.heap.size W1 ((W2.alloc (.cells (tpC t) 37)).alloc (.cells (tpC t) 37))) := below_alloc (below_alloc hb2)
            have hnT : ∀ q, (Value.slice A acc.length c).ownBlock = some q → W2.heap.size ≠ q := fun q hq => by have := (hoL q hq).2; omega
            clear hB2 Own2 hT9 hb2
            go_wp2_with (at_builtin; refine wpList_appG (m := 1) rfl rfl Tryz.underlying23 info_trip rfl (by omega) rfl ownN rfl hrN rfl (tpL_one _) (by omega) (by omega) (by simp; omega) ?_; intro v5 w5 own5 hb5 hg5; obtain ⟨A5, c5, rfl, _, _⟩ := own_slice own5; have T9 : bkT W2.heap.size 37 (tpC t) w5 := (hg5.block _ HT9.out.lt (fun e => hnT _ e.symm rfl)).trans HT9.out; have HB5 := Lib.hid (HBN.out.trans hb5); have Own5 := Lib.hid own5; have l5 := T9.lt; have s0 := T9.cell 0 rfl; have s1 := T9.cell 1 rfl; have s2 := T9.cell 2 rfl; have s3 := T9.cell 3 rfl; have s4 := T9.cell 4 rfl; have s5 := T9.cell 5 rfl; have s6 := T9.cell 6 rfl; have s7 := T9.cell 7 rfl; have s8 := T9.cell 8 rfl; have s9 := T9.cell 9 rfl; have s10 := T9.cell 10 rfl; have s11 := T9.cell 11 rfl; clear hb5 hg5 own5 T9 ownN hrN)
            have hlg := linesLong [t.s, t.p, t.o] (some ⟨w5.heap.size, 0, none⟩) 3 (w5.alloc (.cells (tpC t) 35)) ⟨_, Rd.of_block (heap_alloc_new w5 _) rfl, All.of_flat (f := tmC) [t.s, t.p, t.o] fun _ _ => rfl⟩ ((HT.out.step (below_tr HB1.out HB5.out)).step ((Below.refl _ _).alloc (Nat.le_refl _) _)) (fun u hu => by simp at hu; rcases hu with rfl | rfl | rfl <;> first | exact hsm.1 | exact hsm.2.1 | exact hsm.2.2) (by simp)
            change Calls Tryz.prog 23 #[.slice (some ⟨w5.heap.size, 0, none⟩) 3 3] (w5.alloc (.cells (tpC t) 35)) fun e w' => e = .returned (.bool (longP t)) ∧ Below (w5.alloc (.cells (tpC t) 35)).heap.size (w5.alloc (.cells (tpC t) 35)) w' at hlg
            have hb6 : Below w5.heap.size w5 (w5.alloc (.cells (tpC t) 35)) := (Below.refl _ _).alloc (Nat.le_refl _) _
            have HB6 := Lib.hid hb6
            clear hb6
            cases hq2 : longP t
            · rw [hq2] at hlg
              rw [hq2, if_neg (by simp)] at HI4
              go_wp2_with fail
              refine hlg.mono ?_
              rintro e W7 ⟨rfl, hB7⟩
              have HB7 := Lib.hid (below_tr HB6.out hB7)
              clear hB7
              go_wp2
              go_roundw
              case rel =>
                refine ⟨k + 1, acc ++ [t], over, by rw [Hsl.out]; omega, by go_num, rfl, by omega, by simp; omega, ?_, below_tr HB5.out HB7.out, ?_⟩
                · rw [List.length_append, List.flatMap_append, List.flatMap_cons, List.flatMap_nil, List.append_nil]
                  exact own_below Own5.out HB7.out (Nat.le_refl _)
                · rw [Hsl.out]; exact HI4
              case measure => simp [intOf]; omega
            · rw [hq2] at hlg
              rw [hq2, if_pos rfl] at HI4
              go_wp2_with fail
              refine hlg.mono ?_
              rintro e W7 ⟨rfl, hB7⟩
              have HB7 := Lib.hid (below_tr HB6.out hB7)
              clear hB7
              go_wp2
              go_roundw
              case rel =>
                refine ⟨k + 1, acc ++ [t], k + 1, by rw [Hsl.out]; omega, by go_num, by go_num, by omega, by simp; omega, ?_, below_tr HB5.out HB7.out, ?_⟩
                · rw [List.length_append, List.flatMap_append, List.flatMap_cons, List.flatMap_nil, List.append_nil]
                  exact own_below Own5.out HB7.out (Nat.le_refl _)
                · rw [Hsl.out]; exact HI4
              case measure => simp [intOf]; omega
          · rw [decide_eq_false ho] at hq
            have HI4 : Hid (parL s.data.toList = goP (rows.drop (k + 1)) (k + 1) (acc ++ [t]) over) := by
              show _ = _
              rw [HI3.out, if_pos rfl, if_neg (fun h => ho h.1)]
            clear HI3 ho
            go_wp2_with fail
            refine hrd.mono ?_
            rintro e W2 ⟨rfl, hB2⟩
            have hz2 := hB2.size
            have Own2 := own_below Own.out hB2 (Nat.le_refl _)
            have hb2 := below_tr HB.out hB2
            have HB2 := Lib.hid hb2
            have ownN : ((W2.alloc (.cells (tpC t) 37)).alloc (.cells (tpC t) 37)).ownsRow W1.heap.size 37 12 (.slice A acc.length c) acc.length (acc.flatMap tpL) := (Own2.alloc _).alloc _
            have hrN : Rd ((W2.alloc (.cells (tpC t) 37)).alloc (.cells (tpC t) 37)) (some ⟨W2.heap.size + 1, 0, none⟩) (tpL t) := rd_two' _ _ _ _ _ rfl
            have hT9 : bkT W2.heap.size 37 (tpC t) ((W2.alloc (.cells (tpC t) 37)).alloc (.cells (tpC t) 37)) := heap_two_1 W2 _ _
            have HT9 := Lib.hid hT9
            have hbs : W1.heap.size ≤ W2.heap.size := hb2.size
            have HBN : Hid (Below W1.heap.size W1 ((W2.alloc (.cells (tpC t) 37)).alloc (.cells (tpC t) 37))) := below_alloc (below_alloc hb2)
            have hnT : ∀ q, (Value.slice A acc.length c).ownBlock = some q → W2.heap.size ≠ q := fun q hq => by have := (hoL q hq).2; omega
            clear hB2 Own2 hT9 hb2
            go_wp2_with (at_builtin; refine wpList_appG (m := 1) rfl rfl Tryz.underlying23 info_trip rfl (by omega) rfl ownN rfl hrN rfl (tpL_one _) (by omega) (by omega) (by simp; omega) ?_; intro v5 w5 own5 hb5 hg5; obtain ⟨A5, c5, rfl, _, _⟩ := own_slice own5; have T9 : bkT W2.heap.size 37 (tpC t) w5 := (hg5.block _ HT9.out.lt (fun e => hnT _ e.symm rfl)).trans HT9.out; have HB5 := Lib.hid (HBN.out.trans hb5); have Own5 := Lib.hid own5; have l5 := T9.lt; have s0 := T9.cell 0 rfl; have s1 := T9.cell 1 rfl; have s2 := T9.cell 2 rfl; have s3 := T9.cell 3 rfl; have s4 := T9.cell 4 rfl; have s5 := T9.cell 5 rfl; have s6 := T9.cell 6 rfl; have s7 := T9.cell 7 rfl; have s8 := T9.cell 8 rfl; have s9 := T9.cell 9 rfl; have s10 := T9.cell 10 rfl; have s11 := T9.cell 11 rfl; clear hb5 hg5 own5 T9 ownN hrN)
            go_wp2
            go_roundw
            case rel =>
              refine ⟨k + 1, acc ++ [t], over, by rw [Hsl.out]; omega, by go_num, rfl, by omega, by simp; omega, ?_, HB5.out, ?_⟩
              · rw [List.length_append, List.flatMap_append, List.flatMap_cons, List.flatMap_nil, List.append_nil]
                exact Own5.out
              · rw [Hsl.out]; exact HI4
            case measure => simp [intOf]; omega
      · have hm : Hid (parL s.data.toList = ([], k + 1, at1, er)) := by show _ = _; rw [HI2.out, if_pos he]
        have hne : (er != (0 : Int)) = true := by simpa using he
        clear HI2 he
        go_wp2_with fail
        refine hrd.mono ?_
        rintro e W2 ⟨rfl, hB2⟩
        have HB2 := Lib.hid (below_tr HB1.out (below_tr HB.out hB2))
        clear hB2
        go_wp2
        refine bodyPost_ret (v := .tuple #[.slice none 0 0, .int .i64 ((k : Int) + 1), .int .i64 at1, .int .i64 er]) (by simp [results, Tryz.results8, go_sem]) rfl ?_
        refine ⟨.slice none 0 0, by rw [hm.out]; rfl, by rw [hm.out]; exact World.ownsRow_nil _ _ _ _, ?_⟩
        exact below_alloc HB2.out
    · have hd : rows.drop k = [] := List.drop_eq_nil_of_le (by omega)
      rw [hd] at HI
      by_cases ho : over = 0
      · have hm : Hid (parL s.data.toList = (acc, 0, 0, 0)) := by show _ = _; rw [HI.out, goP, if_pos ho]
        subst ho
        clear HI hB own hd
        go_wp2
        refine bodyPost_ret (v := .tuple #[.slice A acc.length c, .int .i64 0, .int .i64 0, .int .i64 0]) (by simp [results, Tryz.results8, go_sem]) rfl ?_
        refine ⟨_, by rw [hm.out]; rfl, by rw [hm.out]; exact own_downL Own.out HB1.out.size, below_tr HB1.out HB.out⟩
      · have hm : Hid (parL s.data.toList = ([], over, 0, 3)) := by show _ = _; rw [HI.out, goP, if_neg ho]
        clear HI hB own hd
        go_wp2
        refine bodyPost_ret (v := .tuple #[.slice none 0 0, .int .i64 over, .int .i64 0, .int .i64 3]) (by simp [results, Tryz.results8, go_sem]) rfl ?_
        refine ⟨.slice none 0 0, by rw [hm.out]; rfl, by rw [hm.out]; exact World.ownsRow_nil _ _ _ _, below_tr HB1.out HB.out⟩
end Go.Proofs.YtffpgandgajihaaGreatDoor
namespace Go.Proofs.YtffpgandgajihaaGreatDoor
open Go Go.RowKit Um Fm Tx
theorem sameTm_iff {a b : Tm} : sameTm a b = true ↔ a = b := by
  obtain ⟨k, x, l, y⟩ := a
  obtain ⟨k', x', l', y'⟩ := b
  unfold sameTm
  simp only [Bool.and_eq_true, beq_iff_eq, Tm.mk.injEq, ByteArray.toList_eq]
  constructor
  · rintro ⟨⟨⟨h1, h2⟩, h3⟩, h4⟩
    exact ⟨h1, ba_ext h2, ba_ext h3, ba_ext h4⟩
  · rintro ⟨rfl, rfl, rfl, rfl⟩
    exact ⟨⟨⟨rfl, rfl⟩, rfl⟩, rfl⟩
theorem sameTm_dec (a b : Tm) : sameTm a b = decide (a.k = b.k ∧ a.x = b.x ∧ a.l = b.l ∧ a.y = b.y) := by
  rw [Bool.eq_iff_iff, sameTm_iff, decide_eq_true_iff]
  obtain ⟨k, x, l, y⟩ := a
  obtain ⟨k', x', l', y'⟩ := b
  simp
set_option maxRecDepth 100000 in
set_option maxHeartbeats 2000000 in
theorem run_eqTm (a b : Tm) (W : World) : (binOp .eql 35 (.agg #[.int .i64 a.k, .string a.x, .string a.l, .string a.y]) (.agg #[.int .i64 b.k, .string b.x, .string b.l, .string b.y])).run Tryz.prog W = .ok (.bool (sameTm a b)) W := by
  have h0 := Tryz.underlying35
  have h1 := Tryz.underlying33
  have h2 := Tryz.underlying9
  unfold sameTm
  simp only [go_sem, h0]
  cases e1 : (a.k == b.k)
  · simp [go_sem, h0, h1, h2, e1]
  cases e2 : (a.x.toList == b.x.toList)
  · simp [go_sem, h0, h1, h2, e1, e2]
  cases e3 : (a.l.toList == b.l.toList)
  · simp [go_sem, h0, h1, h2, e1, e2, e3]
  cases e4 : (a.y.toList == b.y.toList)
  · simp [go_sem, h0, h1, h2, e1, e2, e3, e4]
  simp [go_sem, h0, h1, h2, e1, e2, e3, e4]
end Go.Proofs.YtffpgandgajihaaGreatDoor
namespace Go.Proofs.YtffpgandgajihaaGreatDoor
open Go Go.RowKit Um Fm Lx Tx
/-- What all these laws ask of the world. -/
def CtxA (w : World) : Prop := CtxT w ∧ ErrB w
theorem CtxA.step {w w' : World} (h : CtxA w) (hb : Below w.heap.size w w') : CtxA w' := ⟨h.1.step hb, h.2.step hb⟩
theorem CtxA.l {w : World} (h : CtxA w) : CtxL w := ⟨h.1.1, h.2.1⟩
theorem CtxA.t {w : World} (h : CtxA w) : CtxT w := h.1
def exP : ByteArray := ⟨#[60, 97, 62, 32, 60, 98, 62, 32, 34, 99, 34, 64, 69, 78, 32, 46]⟩
def exQ : ByteArray := ⟨#[60, 97, 62, 32, 60, 98, 62, 32, 46]⟩
def exPt : Tp := ⟨⟨1, ⟨#[97]⟩, ⟨#[]⟩, ⟨#[]⟩⟩, ⟨1, ⟨#[98]⟩, ⟨#[]⟩, ⟨#[]⟩⟩, ⟨3, ⟨#[99]⟩, ⟨#[101, 110]⟩, ⟨#[]⟩⟩⟩
theorem exP_par : parL exP.data.toList = ([exPt], 0, 0, 0) := by kernel_rfl
theorem exQ_par : parL exQ.data.toList = ([], 1, 8, 10) := by kernel_rfl
set_option maxRecDepth 20000 in
set_option maxHeartbeats 2000000 in
theorem lawAwake10 (w : World) (hC : CtxA w) : Calls Tryz.prog 7 #[] w fun e w' => e = .returned (.bool true) ∧ Below w.heap.size w w' := by
  have h1 := linesParse exP w hC.l hC.t (by decide)
  have h2 := fun W (hW : CtxA W) => linesParse exQ W hW.l hW.t (by decide)
  unfold ParseR at h1 h2
  rw [exP_par] at h1
  rw [exQ_par] at h2
  have HC := Lib.hid hC
  clear hC
  go_enter Tryz.func7, Tryz.ntmps7
  go_wp2_with fail
  refine h1.mono ?_
  rintro e w1 ⟨v1, rfl, own1, hb1⟩
  obtain ⟨A1, c1, rfl, hc1, hr1⟩ := own_slice own1
  have HC1 := Lib.hid (HC.out.step hb1)
  have HB1 := Lib.hid hb1
  clear own1 hb1
  go_wp2_with fail
  refine (h2 w1 HC1.out).mono ?_
  rintro e w2 ⟨v2, rfl, own2, hb2⟩
  obtain ⟨A2, c2, rfl, hc2, -⟩ := own_slice own2
  have hr1' := hr1.later hb2
  obtain ⟨g, o, rfl, a10⟩ := hr1'.at_ (j := 10) (u := .string ⟨#[101, 110]⟩) rfl
  have HB := Lib.hid (below_tr HB1.out hb2)
  clear own2 hr1 hr1' hb2 h1 h2
  simp only [List.length_cons, List.length_nil] at hc1 hc2 ⊢
  go_wp2
  go_ret
  exact ⟨rfl, HB.out⟩
set_option maxRecDepth 20000 in
set_option maxHeartbeats 2000000 in
theorem lawObject (s : ByteArray) (w : World) (hC : CtxA w) (hs : s.size ≤ 100000) : Calls Tryz.prog 13 #[.string s] w fun e w' => e = .returned (.bool true) ∧ Below w.heap.size w w' := by
  have h1 := linesTerm s w hC.l hC.t hs
  have h2 := fun W => refTerm s W hs
  generalize termL s.data.toList = q at *
  obtain ⟨t, at1, er⟩ := q
  simp only at h1 h2
  have hq := fun W => run_eqTm t t W
  have hsm : sameTm t t = true := sameTm_iff.2 rfl
  rw [hsm] at hq
  clear hC hsm
  go_enter Tryz.func13, Tryz.ntmps13
  go_wp2_with fail
  refine h1.mono ?_
  rintro e w1 ⟨rfl, hb1⟩
  have hb2 : Below w1.heap.size w1 (w1.alloc (.cells (tC8 t) 35)) := (Below.refl _ _).alloc (Nat.le_refl _) _
  have HT1 : Hid (bkT w1.heap.size 35 (tC8 t) (w1.alloc (.cells (tC8 t) 35))) := heap_alloc_new w1 _
  have HB2 := Lib.hid (below_tr hb1 hb2)
  clear hb1 hb2
  go_upto_region 2 with fail
  change Code.wp _ _ _ _ (w1.alloc (.cells (tC8 t) 35))
  generalize w1.alloc (.cells (tC8 t) 35) = w2 at *
  generalize w1.heap.size = y at *
  go_wp2_with fail
  refine (h2 _).mono ?_
  rintro e w3 ⟨rfl, hb3⟩
  have T3 := HT1.out.step hb3
  have l3 := T3.lt
  have c0 := T3.cell 0 rfl
  have c1 := T3.cell 1 rfl
  have c2 := T3.cell 2 rfl
  have c3 := T3.cell 3 rfl
  have HB3 := Lib.hid (below_tr HB2.out hb3)
  clear hb3 T3
  go_wp2
  go_ret
  exact ⟨by simp, below_alloc HB3.out⟩
theorem lawLinesTerm (s : ByteArray) (w : World) (hC : CtxA w) (_hz : s.size ≤ 281474976710656) : Calls Tryz.prog 4 #[.string s] w fun e w' => e = .returned (.bool true) ∧ Below w.heap.size w w' := by
  by_cases h : 10000 < s.size
  · have hA := lawAwake10 w hC
    have hd : decide (10000 < s.size) = true := decide_eq_true h
    clear hC
    go_enter Tryz.func4, Tryz.ntmps4
    go_wp2_with (go_at_call 7; refine hA.mono ?_; rintro e w1 ⟨rfl, b1⟩)
    go_ret
    exact ⟨rfl, b1⟩
  · have hO := lawObject s w hC (by omega)
    have hA := fun W (hB : Below w.heap.size w W) => lawAwake10 W (hC.step hB)
    have hd : decide (10000 < s.size) = false := decide_eq_false h
    clear hC
    go_enter Tryz.func4, Tryz.ntmps4
    go_wp2_with (first | (go_at_call 13; refine hO.mono ?_; rintro e w1 ⟨rfl, b1⟩) | (go_at_call 7; refine (hA _ b1).mono ?_; rintro e w2 ⟨rfl, b2⟩))
    go_ret
    exact ⟨rfl, below_tr b1 b2⟩
end Go.Proofs.YtffpgandgajihaaGreatDoor
