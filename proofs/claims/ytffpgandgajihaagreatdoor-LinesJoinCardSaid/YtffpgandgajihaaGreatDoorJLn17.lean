/- The program's package lines: long, Term. The answer for lines: end, Term. The answer for lines: Term. -/
import Derived.Test.YtffpgandgajihaaGreatDoorJLn14
import Derived.Test.YtffpgandgajihaaGreatDoorJR8e
namespace Go.Proofs.YtffpgandgajihaaGreatDoor
open Go Go.RowKit Um Fm Lx Tx
/-- Is a term's text too long? -/
def longB (t : Tm) : Bool := (showP t).2 == 3
theorem longOne (t : Tm) (w : World) (hC : CtxT w) (hs : smallT t) : Calls Tryz.prog 42 #[tA t] w fun e w' => e = .returned (.bool (longB t)) ∧ Below w.heap.size w w' := by
  have hB : Below w.heap.size w (w.alloc (.cells (tC8 t) 35)) := (Below.refl _ w).alloc (Nat.le_refl _) _
  have hS := termShow t _ (hC.step hB) hs
  have HB := Lib.hid hB
  have hl : Hid (longB t = ((showP t).2 == 3)) := rfl
  generalize showP t = q at *
  obtain ⟨qs, qe⟩ := q
  simp only at hS hl
  clear hB hC
  go_enter Tryz.func42, Tryz.ntmps42
  go_wp2_with (go_at_call 12; refine hS.mono ?_; rintro e w1 ⟨rfl, b1⟩)
  go_ret
  exact ⟨by rw [hl.out]; rfl, below_tr HB.out b1⟩
theorem longRef (t : Tm) (w : World) (hs : smallT t) : Calls Tryz.prog 66 #[tA t] w fun e w' => e = .returned (.bool (longB t)) ∧ Below w.heap.size w w' := by
  have hB : Below w.heap.size w (w.alloc (.cells (tC8 t) 35)) := (Below.refl _ w).alloc (Nat.le_refl _) _
  have hS := r08Show t (w.alloc (.cells (tC8 t) 35)) hs
  have HB := Lib.hid hB
  have hl : Hid (longB t = ((showP t).2 == 3)) := rfl
  generalize showP t = q at *
  obtain ⟨qs, qe⟩ := q
  simp only at hS hl
  clear hB
  go_enter Tryz.func66, Tryz.ntmps66
  go_wp2_with (go_at_call 110; refine hS.mono ?_; rintro e w1 ⟨rfl, b1⟩)
  go_ret
  exact ⟨by rw [hl.out]; rfl, below_tr HB.out b1⟩
def idxL (p : Tm → Bool) : List Tm → Int
  | [] => -1
  | y :: r => if p y then 0 else if idxL p r = -1 then -1 else idxL p r + 1
theorem idxL_any (p : Tm → Bool) : ∀ l : List Tm, -1 ≤ idxL p l ∧ (0 ≤ idxL p l ↔ l.any p = true)
  | [] => by simp [idxL]
  | y :: r => by
    obtain ⟨h1, h2⟩ := idxL_any p r
    unfold idxL
    rw [List.any_cons]
    cases p y
    · rw [if_neg (by simp), Bool.false_or]
      by_cases e2 : idxL p r = -1
      · rw [if_pos e2]
        rw [e2] at h2
        exact ⟨by omega, h2⟩
      · rw [if_neg e2]
        exact ⟨by omega, ⟨fun _ => h2.1 (by omega), fun _ => by omega⟩⟩
    · rw [if_pos rfl]; simp
def idxLAt (p : Tm → Bool) (l : List Tm) (k : Nat) : Prop := idxL p l = if idxL p (l.drop k) = -1 then -1 else idxL p (l.drop k) + k
theorem idxLAt_next {p : Tm → Bool} {l : List Tm} {k : Nat} {y : Tm} (h : idxLAt p l k) (hy : l[k]? = some y) (hne : p y = false) : idxLAt p l (k + 1) := by
  unfold idxLAt at h ⊢
  have hm := (idxL_any p (l.drop (k + 1))).1
  rw [h, drop_cons_of hy, idxL, hne, if_neg (show ¬ (false = true) by simp)]
  split <;> split <;> omega
theorem longIndex (l : List Tm) (A : Option Addr) (c : Nat) (w : World) (hr : RdTs w A l) (hC : CtxT w) (hs : ∀ t ∈ l, smallT t) (hl : l.length ≤ 1000) :
    Calls Tryz.prog 74 #[.slice A l.length c, .func (.func 42) #[] #[]] w fun e w' => e = .returned (.int .i64 (idxL longB l)) ∧ Below w.heap.size w w' := by
  have HC := Lib.hid hC
  have Hs := Lib.hid hs
  clear hC hs
  go_enter Tryz.func74, Tryz.ntmps74
  go_wp2
  go_loopw [5, 8] (fun _ i wr => ∃ k : Nat, k ≤ l.length ∧ i = .int .i64 k ∧ Hid (idxLAt longB l k) ∧ Below w.heap.size w wr) (fun _ i _ => l.length - (intOf i).toNat)
  case atStart => exact ⟨0, by omega, rfl, by show idxLAt _ _ _; unfold idxLAt; rw [List.drop_zero]; split <;> omega, Below.refl _ _⟩
  case round =>
    obtain ⟨k, hk, rfl, H, hB⟩ := hrel
    have HB := Lib.hid hB
    by_cases hlt : k < l.length
    · obtain ⟨y, hy⟩ : ∃ y, l[k]? = some y := ⟨_, List.getElem?_eq_getElem hlt⟩
      obtain ⟨g, o, rfl, e0, e1, e2, e3⟩ := (hr.later hB).at4 hy
      have hone := longOne y wr (HC.out.step hB) (Hs.out y (List.mem_of_getElem? hy))
      have Hy := Lib.hid hy
      clear hB hr hy
      cases hq : longB y
      · rw [hq] at hone
        have H2 := Lib.hid (idxLAt_next H.out Hy.out hq)
        clear H hq
        go_wp2_with (refine hone.mono ?_; rintro e w1 ⟨rfl, b1⟩)
        go_roundw
        case rel => exact ⟨k + 1, by omega, by go_num, H2, below_tr HB.out b1⟩
        case measure => simp [intOf]; omega
      · rw [hq] at hone
        have H2 : Hid (idxL longB l = k) := by
          have h0 := H.out
          unfold idxLAt at h0
          rw [drop_cons_of Hy.out, idxL, if_pos hq] at h0
          show _ = _
          rw [h0]; simp
        clear H hq
        go_wp2_with (refine hone.mono ?_; rintro e w1 ⟨rfl, b1⟩)
        go_ret
        exact ⟨by rw [H2.out]; rfl, below_tr HB.out b1⟩
    · have H2 : Hid (idxL longB l = -1) := by
        have h0 := H.out
        unfold idxLAt at h0
        rw [List.drop_eq_nil_of_le (by omega)] at h0
        show _ = _
        rw [h0]; rfl
      clear H hr hB
      go_wp2
      go_ret
      exact ⟨by rw [H2.out]; rfl, HB.out⟩
theorem linesLong (l : List Tm) (A : Option Addr) (c : Nat) (w : World) (hr : RdTs w A l) (hC : CtxT w) (hs : ∀ t ∈ l, smallT t) (hl : l.length ≤ 1000) :
    Calls Tryz.prog 23 #[.slice A l.length c] w fun e w' => e = .returned (.bool (l.any longB)) ∧ Below w.heap.size w w' := by
  have hI := longIndex l A c w hr hC hs hl
  have hm := (idxL_any longB l).2
  have hd : Hid (l.any longB = decide (0 ≤ idxL longB l)) := by
    show _ = _
    rw [Bool.eq_iff_iff, decide_eq_true_iff]
    exact hm.symm
  clear hm hr hC hs
  generalize idxL longB l = z at *
  have hCF : Calls Tryz.prog 41 #[.slice A l.length c, .func (.func 42) #[] #[]] w fun e w' => e = .returned (.bool (decide (0 ≤ z))) ∧ Below w.heap.size w w' := by
    go_enter Tryz.func41, Tryz.ntmps41
    go_wp2_with (go_at_call 74; refine hI.mono ?_; rintro e w1 ⟨rfl, b1⟩)
    go_ret
    exact ⟨rfl, b1⟩
  clear hI
  go_enter Tryz.func23, Tryz.ntmps23
  go_wp2_with (go_at_call 41; refine hCF.mono ?_; rintro e w1 ⟨rfl, b1⟩)
  go_ret
  exact ⟨by rw [hd.out]; rfl, b1⟩
theorem lowS_size (x : ByteArray) : (lowS x).size = x.size := by
  unfold lowS
  rw [mkS_size, List.length_map, size_toList]
theorem small_z : smallT zTm := ⟨by decide, by decide, by decide⟩
theorem objC_small {n : Nat} {s : Ls} (h : TsOk s.r) : smallT (objC n s).1 := by
  have z : (⟨#[]⟩ : ByteArray).size ≤ 1000000 := by decide
  obtain ⟨h1, h2⟩ := must_ok (ks := [1, 2, 3]) (n := n) h
  obtain ⟨h3, h4⟩ := must_ok (ks := [4]) (n := n) h2
  obtain ⟨h5, h6⟩ := must_ok (ks := [5]) (n := n) h2
  obtain ⟨h7, h8⟩ := must_ok (ks := [1]) (n := n) h6
  unfold objC
  dsimp only
  split
  · split
    · exact ⟨h1, by rw [lowS_size]; exact h3, z⟩
    · split
      · show smallT (typedT _ _)
        unfold typedT
        split
        · exact ⟨h1, z, z⟩
        · exact ⟨h1, z, h7⟩
      · exact ⟨h1, z, z⟩
  · show smallT (namedP _)
    unfold namedP
    split <;> exact ⟨h1, z, z⟩
theorem told_fst {α : Type} (z : α) (o : α × Ls) : (told z o).1 = z ∨ (told z o).1 = o.1 := by
  unfold told
  split
  · exact .inl rfl
  · exact .inr rfl
theorem readL_small {l : List UInt8} (hl : l.length ≤ 100000) : smallT (readL false objC zTm l).1 := by
  unfold readL
  split
  · split
    · exact small_z
    · rcases told_fst zTm (objC l.length ⟨(lineL l).1, none⟩) with e | e
      · rw [e]; exact small_z
      · rw [e]; exact objC_small (line_toks l hl).1
  · exact small_z
/-- What a text alone is, by the grammar. -/
def termL (l : List UInt8) : Tm × Nat × Int :=
  if (readL false objC zTm l).2.2.2 = 0 then (if longB (readL false objC zTm l).1 = true then (zTm, 0, 3) else ((readL false objC zTm l).1, 0, 0)) else (zTm, (readL false objC zTm l).2.2.1, (readL false objC zTm l).2.2.2)
set_option maxHeartbeats 4000000 in
set_option maxRecDepth 20000 in
theorem linesTerm (s : ByteArray) (w : World) (hC : CtxL w) (hT : CtxT w) (hs : s.size ≤ 100000) :
    Calls Tryz.prog 14 #[.string s] w fun e w' => e = .returned (.tuple #[tA (termL s.data.toList).1, .int .i64 (termL s.data.toList).2.1, .int .i64 (termL s.data.toList).2.2]) ∧ Below w.heap.size w w' := by
  obtain ⟨res, hres⟩ : ∃ r, termL s.data.toList = r := ⟨_, rfl⟩
  rw [hres]
  have Hm : Hid (res = termL s.data.toList) := hres.symm
  clear hres
  unfold termL at Hm
  have hB0 : Below w.heap.size w (w.alloc (.cells #[.int .i64 0, .string ⟨#[]⟩, .string ⟨#[]⟩, .string ⟨#[]⟩] 35)) := (Below.refl _ w).alloc (Nat.le_refl _) _
  have hz0 : bkT w.heap.size 35 #[.int .i64 0, .string ⟨#[]⟩, .string ⟨#[]⟩, .string ⟨#[]⟩] (w.alloc (.cells #[.int .i64 0, .string ⟨#[]⟩, .string ⟨#[]⟩, .string ⟨#[]⟩] 35)) := heap_alloc_new w _
  have hrd := rReadT s _ (hC.step hB0) hs
  have hsm := readL_small (l := s.data.toList) (by rw [size_toList]; exact hs)
  generalize readL false objC zTm s.data.toList = q at *
  obtain ⟨t, ok, at1, er⟩ := q
  simp only at hrd hsm Hm
  have HB0 := Lib.hid hB0
  have HZ0 := Lib.hid hz0
  have HT := Lib.hid hT
  clear hB0 hz0 hC hT
  by_cases he : er = 0
  · subst he
    rw [if_pos rfl] at Hm
    have hlg := fun (W : World) hr hC => linesLong [t] (some ⟨W.heap.size, 0, none⟩) 1 (W.alloc (.cells #[.int .i64 t.k, .string t.x, .string t.l, .string t.y] 35)) hr hC (fun u hu => by rw [List.mem_singleton] at hu; rw [hu]; exact hsm) (by simp)
    have e1 : [t].any longB = longB t := by simp
    rw [e1] at hlg
    go_enter Tryz.func14, Tryz.ntmps14
    go_wp2_with fail
    refine hrd.mono ?_
    rintro e W1 ⟨rfl, hB1⟩
    have HB1 := Lib.hid (below_tr HB0.out hB1)
    have HZ1 := Lib.hid (HZ0.out.step hB1)
    have hB2 : Below W1.heap.size W1 (W1.alloc (.cells #[.int .i64 t.k, .string t.x, .string t.l, .string t.y] 35)) := (Below.refl _ _).alloc (Nat.le_refl _) _
    have HY2 : Hid (bkT W1.heap.size 35 #[.int .i64 t.k, .string t.x, .string t.l, .string t.y] (W1.alloc (.cells #[.int .i64 t.k, .string t.x, .string t.l, .string t.y] 35))) := heap_alloc_new W1 _
    have HZ2 := Lib.hid (HZ1.out.step hB2)
    have HB2 := Lib.hid (below_tr HB1.out hB2)
    clear hB1 hB2
    go_upto_region 2 with fail
    change Code.wp _ _ _ _ (W1.alloc (.cells #[.int .i64 t.k, .string t.x, .string t.l, .string t.y] 35))
    generalize W1.alloc (.cells #[.int .i64 t.k, .string t.x, .string t.l, .string t.y] 35) = W2 at *
    generalize W1.heap.size = y at *
    have y0 := HY2.out.cell 0 rfl
    have y1 := HY2.out.cell 1 rfl
    have y2 := HY2.out.cell 2 rfl
    have y3 := HY2.out.cell 3 rfl
    have hB3 : Below W2.heap.size W2 (W2.alloc (.cells #[.int .i64 t.k, .string t.x, .string t.l, .string t.y] 35)) := (Below.refl _ _).alloc (Nat.le_refl _) _
    have hlg := hlg W2 ⟨_, Rd.of_block (heap_alloc_new W2 _) rfl, All.of_flat (f := tmC) [t] fun _ _ => rfl⟩ ((HT.out.step HB2.out).step hB3)
    have HB3 := Lib.hid hB3
    clear hB3
    cases hq : longB t
    · rw [hq] at hlg Hm
      have hm : Hid (res = (t, 0, 0)) := by show _ = _; rw [Hm.out]; rfl
      go_wp2_with fail
      refine hlg.mono ?_
      rintro e W4 ⟨rfl, hB4⟩
      have HZ4 := (HZ2.out.step HB3.out).step hB4
      have HY4 := (HY2.out.step HB3.out).step hB4
      have HB4 := Lib.hid (below_tr (below_tr HB2.out HB3.out) hB4)
      have f4 := HZ4.fz
      have d0 := HZ4.cell 0 rfl
      have d1 := HZ4.cell 1 rfl
      have d2 := HZ4.cell 2 rfl
      have d3 := HZ4.cell 3 rfl
      have g0 := HY4.cell 0 rfl
      have g1 := HY4.cell 1 rfl
      have g2 := HY4.cell 2 rfl
      have g3 := HY4.cell 3 rfl
      clear hB4 y0 y1 y2 y3 HZ4 HY4
      go_wp2
      refine bodyPost_ret (v := .tuple #[tA t, .int .i64 0, .int .i64 0]) (by simp [results, Tryz.results14, go_sem, d0, d1, d2, d3]) rfl ?_
      rw [hm.out]
      exact ⟨rfl, below_s4 HB4.out (Nat.le_refl _) 0 _ _ _ _⟩
    · rw [hq] at hlg Hm
      have hm : Hid (res = (zTm, 0, 3)) := by show _ = _; rw [Hm.out]; rfl
      go_wp2_with fail
      refine hlg.mono ?_
      rintro e W4 ⟨rfl, hB4⟩
      have HZ4 := (HZ2.out.step HB3.out).step hB4
      have HB4 := Lib.hid (below_tr (below_tr HB2.out HB3.out) hB4)
      have f4 := HZ4.fz
      have d0 := HZ4.cell 0 rfl
      have d1 := HZ4.cell 1 rfl
      have d2 := HZ4.cell 2 rfl
      have d3 := HZ4.cell 3 rfl
      clear hB4 y0 y1 y2 y3 HZ4
      go_wp2
      refine bodyPost_ret (v := .tuple #[tA zTm, .int .i64 0, .int .i64 3]) (by simp [results, Tryz.results14, go_sem, d0, d1, d2, d3, zTm]) rfl ?_
      rw [hm.out]
      exact ⟨rfl, below_s4 HB4.out (Nat.le_refl _) 0 _ _ _ _⟩
  · have hm : Hid (res = (zTm, at1, er)) := by show _ = _; rw [Hm.out, if_neg he]
    have hne : (er != (0 : Int)) = true := by simpa using he
    clear Hm he
    go_enter Tryz.func14, Tryz.ntmps14
    go_wp2_with fail
    refine hrd.mono ?_
    rintro e W1 ⟨rfl, hB1⟩
    have HB1 := Lib.hid (below_tr HB0.out hB1)
    have HZ1 := HZ0.out.step hB1
    have hlt := HZ1.lt
    have f1 := HZ1.fz
    have d0 := HZ1.cell 0 rfl
    have d1 := HZ1.cell 1 rfl
    have d2 := HZ1.cell 2 rfl
    have d3 := HZ1.cell 3 rfl
    clear hB1 HZ1
    go_wp2
    refine bodyPost_ret (v := .tuple #[tA zTm, .int .i64 at1, .int .i64 er]) (by simp [results, Tryz.results14, go_sem, d0, d1, d2, d3, zTm, hlt]) rfl ?_
    rw [hm.out]
    exact ⟨rfl, below_alloc (below_s4 HB1.out (Nat.le_refl _) 0 _ _ _ _)⟩
end Go.Proofs.YtffpgandgajihaaGreatDoor
namespace Go.Proofs.YtffpgandgajihaaGreatDoor
open Go Go.RowKit Um Fm Lx Tx
theorem told_same {α : Type} {z : α} {a b : α × Ls} (h1 : a.2.bad = b.2.bad) (h2 : a.2.bad = none → a = b) : told z a = told z b := by
  cases h : a.2.bad with
  | none => rw [h2 h]
  | some p => rw [told_bad h, told_bad (h1 ▸ h)]
theorem read_obj (l : List UInt8) : readL false objC zTm l = readL false objR zTm l := by
  unfold readL
  split
  · split
    · rfl
    · obtain ⟨h1, h2⟩ := obj_eq l.length ⟨(lineL l).1, none⟩ rfl
      exact told_same h1 h2
  · rfl
set_option maxHeartbeats 2000000 in
theorem rsEnd (ts : List LTok) (n b : Nat) (s : Ls) (ho : TokOk ts) (w : World) (h : RsAt w b ts n s) :
    Calls Tryz.prog 65 #[.pointer (some ⟨b, 0, none⟩)] w fun e w' => e = .returned (.tuple #[]) ∧ RsAt w' b ts n (stopP s) ∧ w.grownBy w' (some b) := by
  have hK := rsKind ts n b s w h
  obtain ⟨k, hr, hkl, hk⟩ := h
  have hF := fun W hW => rkFail ts k n b (badOf s.bad) W hW
  have H := Lib.hid hk
  have Hr := Lib.hid hr
  cases hs : s.r with
  | nil =>
    have hm : Hid (stopP s = s) := by
      show _ = _
      unfold stopP
      rw [hs]
      cases s.bad <;> rfl
    rw [hs] at hK
    clear hF hk hr hs
    go_enter Tryz.func65, Tryz.ntmps65
    go_wp2_with fail
    refine hK.mono ?_
    rintro e w1 ⟨rfl, b1⟩
    have HB := Lib.hid b1
    clear b1
    simp only [headK]
    go_wp2
    ((try simp only [Exit.inBlock, Exit.then]); refine Go.Great.bodyPost_end0 rfl rfl ?_)
    rw [hm.out]
    exact ⟨rfl, ⟨k, Hr.out, hkl, H.out.below HB.out⟩, gr_of_below HB.out⟩
  | cons t r =>
    have hk0 : t.k ≠ 0 := (ho.2 t (by
      have : t ∈ ts.drop k := by rw [← hr, hs]; simp
      exact List.mem_of_mem_drop this)).2
    rw [hs] at hK
    have hq : ((t.k : Int) != 0) = true := by simp; exact hk0
    have hm : Hid (stopP s = ⟨s.r, some (match s.bad with | some p => p | none => t.p)⟩ ∧ badZ (badOf s.bad) n (ts.drop k) = badOf (stopP s).bad) := by
      show _ ∧ _
      obtain ⟨sr, sb⟩ := s
      simp only at hs hr
      subst hs
      cases sb with
      | some p => exact ⟨rfl, if_pos (by show (0 : Int) ≤ (p : Int); omega)⟩
      | none =>
        refine ⟨rfl, ?_⟩
        unfold badZ
        rw [if_neg (by show ¬ (0 : Int) ≤ -1; decide), ← hr]
        rfl
    clear hk hr
    have Hs := Lib.hid hs
    clear hs hk0
    go_enter Tryz.func65, Tryz.ntmps65
    go_wp2_with fail
    refine hK.mono ?_
    rintro e w1 ⟨rfl, b1⟩
    have HB := Lib.hid b1
    have hF := hF w1 (H.out.below b1)
    clear b1
    simp only [headK]
    go_wp2_with fail
    refine hF.mono ?_
    rintro e w2 ⟨rfl, hR2, hG2⟩
    have HR := Lib.hid hR2
    have HG := Lib.hid ((gr_of_below (b := b) HB.out).trans hG2)
    clear hR2 hG2
    go_wp2
    ((try simp only [Exit.inBlock, Exit.then]); refine Go.Great.bodyPost_end0 rfl rfl ?_)
    refine ⟨rfl, ⟨k, ?_, hkl, ?_⟩, HG.out⟩
    · rw [hm.out.1]; exact Hr.out
    · rw [← hm.out.2]; exact HR.out
theorem RsAt.new {W : World} {base : Nat} {A : Option Addr} {c : Nat} {ts : List LTok} (own : W.ownsRow base 167 3 (.slice A ts.length c) ts.length (ts.flatMap tokC)) (n : Nat) :
    RsAt (W.alloc (.cells #[.slice A ts.length c, .int .i64 0, .int .i64 n, .int .i64 (-1)] 126)) W.heap.size ts n ⟨ts, none⟩ := by
  have hB : Below W.heap.size W (W.alloc (.cells #[.slice A ts.length c, .int .i64 0, .int .i64 n, .int .i64 (-1)] 126)) := (Below.refl _ _).alloc (Nat.le_refl _) _
  refine ⟨0, rfl, Nat.zero_le _, A, c, heap_alloc_new W _, ?_, ?_⟩
  · intro a ha
    rcases own.2 with ⟨hv, _⟩ | ⟨g, cap, cur, hv, hg, hh, _⟩
    · injection hv with e1 e2 e3; subst e1; cases ha
    · injection hv with e1 e2 e3
      rw [e1] at ha
      injection ha with ha
      subst ha
      exact (Array.getElem?_eq_some_iff.1 hh).1
  · exact ⟨_, (Rd.of_own own).later hB, All.of_flat ts fun _ _ => rfl⟩
end Go.Proofs.YtffpgandgajihaaGreatDoor
namespace Go.Proofs.YtffpgandgajihaaGreatDoor
open Go Go.RowKit Um Fm Lx Tx
theorem RsAt.bad {w : World} {b n : Nat} {ts : List LTok} {s : Ls} (h : RsAt w b ts n s) : w.cell? ⟨b, 3, none⟩ = some (.int .i64 (badOf s.bad)) := by
  obtain ⟨k, _, _, h⟩ := h
  obtain ⟨_, _, _, _, _, _, h3⟩ := h.plain
  exact h3
theorem termL_R (l : List UInt8) : termL l = if (lineL l).2.2 = 0 then (match (stopP (objR l.length ⟨(lineL l).1, none⟩).2).bad with
      | some p => (zTm, p, 10)
      | none => if longB (objR l.length ⟨(lineL l).1, none⟩).1 = true then (zTm, 0, 3) else ((objR l.length ⟨(lineL l).1, none⟩).1, 0, 0)) else (zTm, (lineL l).2.1, (lineL l).2.2) := by
  unfold termL
  rw [read_obj]
  unfold readL
  by_cases h : (lineL l).2.2 = 0
  · rw [if_pos h, if_pos h, if_neg (show ¬ (false = true ∧ (lineL l).1 = []) from fun x => by cases x.1)]
    unfold told
    cases (stopP (objR l.length ⟨(lineL l).1, none⟩).2).bad with
    | some p => rfl
    | none => rfl
  · rw [if_neg h, if_neg h, if_neg h]
theorem stop_nonz {t : LTok} (h : TokG t) : t.k ≠ 0 := by have := h.k1; omega
theorem toks_ok (l : List UInt8) (hl : l.length ≤ 100000) : TokOk (lineL l).1 := by
  obtain ⟨h1, h2, h3, _⟩ := line_toks l hl
  exact ⟨by omega, fun t ht => ⟨h1 t ht, stop_nonz (h2 t ht)⟩⟩
set_option maxHeartbeats 4000000 in
set_option maxRecDepth 20000 in
theorem refTerm (s : ByteArray) (w : World) (hs : s.size ≤ 100000) :
    Calls Tryz.prog 32 #[.string s] w fun e w' => e = .returned (.tuple #[tA (termL s.data.toList).1, .int .i64 (termL s.data.toList).2.1, .int .i64 (termL s.data.toList).2.2]) ∧ Below w.heap.size w w' := by
  obtain ⟨res, hres⟩ : ∃ r, termL s.data.toList = r := ⟨_, rfl⟩
  rw [hres]
  have Hm : Hid (res = termL s.data.toList) := hres.symm
  clear hres
  rw [termL_R, size_toList] at Hm
  have hsmR : smallT (objR s.size ⟨(lineL s.data.toList).1, none⟩).1 ∨ (objR s.size ⟨(lineL s.data.toList).1, none⟩).2.bad ≠ none := by
    obtain ⟨h1, h2⟩ := obj_eq s.size ⟨(lineL s.data.toList).1, none⟩ rfl
    by_cases h : (objC s.size ⟨(lineL s.data.toList).1, none⟩).2.bad = none
    · left
      rw [← h2 h]
      exact objC_small (line_toks s.data.toList (by rw [size_toList]; exact hs)).1
    · right
      rw [← h1]
      exact h
  have hto := toks_ok s.data.toList (by rw [size_toList]; exact hs)
  have hB0 : Below w.heap.size w (w.alloc (.cells #[.int .i64 0, .string ⟨#[]⟩, .string ⟨#[]⟩, .string ⟨#[]⟩] 35)) := (Below.refl _ w).alloc (Nat.le_refl _) _
  have hz0 : bkT w.heap.size 35 #[.int .i64 0, .string ⟨#[]⟩, .string ⟨#[]⟩, .string ⟨#[]⟩] (w.alloc (.cells #[.int .i64 0, .string ⟨#[]⟩, .string ⟨#[]⟩, .string ⟨#[]⟩] 35)) := heap_alloc_new w _
  have hln := refLine s (w.alloc (.cells #[.int .i64 0, .string ⟨#[]⟩, .string ⟨#[]⟩, .string ⟨#[]⟩] 35)) (by omega)
  unfold LineV at hln
  rcases lineL_cases s.data.toList with ⟨ts, -, -, e⟩ | ⟨e1, e2, -⟩
  · rw [e] at hln Hm hsmR hto
    simp only at hln hsmR hto
    rw [if_pos rfl] at Hm
    have HB0 := Lib.hid hB0
    have HZ0 := Lib.hid hz0
    have Hto := Lib.hid hto
    clear hB0 hz0 e
    have hob := fun b W hC => rsObject ts s.size b ⟨ts, none⟩ hto W hC
    have hen := fun b o W hC => rsEnd ts s.size b o hto W hC
    simp only at Hm
    generalize objR s.size ⟨ts, none⟩ = a at *
    obtain ⟨o, s2⟩ := a
    simp only at hob hsmR Hm
    clear hto
    go_enter Tryz.func32, Tryz.ntmps32
    go_wp2_with fail
    refine hln.mono ?_
    rintro e W1 ⟨v, rfl, own, hB1⟩
    have HB1 := Lib.hid (below_tr HB0.out hB1)
    have HZ1 := Lib.hid (HZ0.out.step hB1)
    obtain ⟨A, c, rfl, hc, -⟩ := own_slice own
    have hn := RsAt.new own s.size
    have HN := Lib.hid hn
    have hlt1 : w.heap.size < W1.heap.size := HZ1.out.lt
    have hBr : Below W1.heap.size W1 (W1.alloc (.cells #[.slice A ts.length c, .int .i64 0, .int .i64 s.size, .int .i64 (-1)] 126)) := (Below.refl _ _).alloc (Nat.le_refl _) _
    have HBr := Lib.hid hBr
    clear own hB1 hn hBr
    go_wp2_with fail
    refine (hob _ _ HN.out).mono ?_
    rintro e W2 ⟨rfl, hC2, hG2⟩
    have hzr : w.heap.size ≠ W1.heap.size := by omega
    have HB2 : Hid (Below w.heap.size w W2) := (HB1.out.trans (HBr.out.mono HB1.out.size)).grown hG2 (Nat.le_trans HB1.out.size HBr.out.size) (fun k e => by injection e with e; omega)
    have HZ2 := Lib.hid ((HZ1.out.step HBr.out).grown hG2 (fun e => hzr e.symm))
    have HC2 := Lib.hid hC2
    have hl2 := hC2.lt
    have hB3 : Below W2.heap.size W2 (W2.alloc (.cells #[.int .i64 o.k, .string o.x, .string o.l, .string o.y] 35)) := (Below.refl _ _).alloc (Nat.le_refl _) _
    have HC3 := Lib.hid (hC2.below hB3)
    have HZ3 := Lib.hid (HZ2.out.step hB3)
    have HB3 := Lib.hid (below_tr HB2.out hB3)
    have HY3 : Hid (bkT W2.heap.size 35 #[.int .i64 o.k, .string o.x, .string o.l, .string o.y] (W2.alloc (.cells #[.int .i64 o.k, .string o.x, .string o.l, .string o.y] 35))) := heap_alloc_new W2 _
    clear hC2 hG2 hB3
    go_upto_region 6 with fail
    change Code.wp _ _ _ _ (W2.alloc (.cells #[.int .i64 o.k, .string o.x, .string o.l, .string o.y] 35))
    generalize W2.alloc (.cells #[.int .i64 o.k, .string o.x, .string o.l, .string o.y] 35) = W3 at *
    generalize W2.heap.size = y at *
    generalize W1.heap.size = b at *
    go_wp2_with fail
    refine (hen _ _ _ HC3.out).mono ?_
    rintro e W4 ⟨rfl, hC4, hG4⟩
    have HB4 : Hid (Below w.heap.size w W4) := HB3.out.grown hG4 HB3.out.size (fun k e => by injection e with e; omega)
    have HZ4 := Lib.hid (HZ3.out.grown hG4 (fun e => hzr e.symm))
    have HY4 := Lib.hid (HY3.out.grown hG4 (fun e => by omega))
    have b3 := hC4.bad
    have fb := hC4.lt
    have hltz := HZ4.out.lt
    have hlty := HY4.out.lt
    have f4 := HZ4.out.fz
    have d0 := HZ4.out.cell 0 rfl
    have d1 := HZ4.out.cell 1 rfl
    have d2 := HZ4.out.cell 2 rfl
    have d3 := HZ4.out.cell 3 rfl
    have g0 := HY4.out.cell 0 rfl
    have g1 := HY4.out.cell 1 rfl
    have g2 := HY4.out.cell 2 rfl
    have g3 := HY4.out.cell 3 rfl
    clear hC4 hG4
    cases hb : (stopP s2).bad with
    | some p =>
      rw [hb] at Hm b3
      have hm : Hid (res = (zTm, p, 10)) := Hm.out
      change W4.cell? ⟨b, 3, none⟩ = some (.int .i64 (p : Int)) at b3
      clear Hm hb hsmR
      go_wp2
      go_region
      go_wp2
      refine bodyPost_ret (v := .tuple #[tA zTm, .int .i64 p, .int .i64 10]) (by simp [results, Tryz.results32, go_sem, d0, d1, d2, d3, zTm]) rfl ?_
      rw [hm.out]
      exact ⟨rfl, by first | exact (below_s4 HB4.out (Nat.le_refl _) 0 _ _ _ _).drew | exact HB4.out.drew⟩
    | none =>
      rw [hb] at Hm b3
      change W4.cell? ⟨b, 3, none⟩ = some (.int .i64 (-1)) at b3
      have hsm : smallT o := by
        rcases hsmR with h | h
        · exact h
        · exfalso
          apply h
          unfold stopP at hb
          cases hx : s2.bad with
          | none => rfl
          | some p =>
            rw [hx] at hb
            simp only at hb
            rw [hx] at hb
            cases hb
      have hlg := fun W => longRef o W hsm
      clear hb hsmR hsm
      cases hq : longB o
      · rw [hq] at hlg Hm
        have hm : Hid (res = (o, 0, 0)) := Hm.out
        go_wp2_with fail
        refine (hlg _).mono ?_
        rintro e W5 ⟨rfl, hB5⟩
        have HZ5 := HZ4.out.step hB5
        have HY5 := HY4.out.step hB5
        have HB5 := Lib.hid (below_tr HB4.out hB5)
        clear d0 d1 d2 d3 g0 g1 g2 g3 f4 b3 hltz hlty
        have f5 := HZ5.fz
        have d0 := HZ5.cell 0 rfl
        have d1 := HZ5.cell 1 rfl
        have d2 := HZ5.cell 2 rfl
        have d3 := HZ5.cell 3 rfl
        have g0 := HY5.cell 0 rfl
        have g1 := HY5.cell 1 rfl
        have g2 := HY5.cell 2 rfl
        have g3 := HY5.cell 3 rfl
        clear hB5 HZ5 HY5 Hm
        go_wp2
        refine bodyPost_ret (v := .tuple #[tA o, .int .i64 0, .int .i64 0]) (by simp [results, Tryz.results32, go_sem, d0, d1, d2, d3]) rfl ?_
        rw [hm.out]
        exact ⟨rfl, below_s4 HB5.out (Nat.le_refl _) 0 _ _ _ _⟩
      · rw [hq] at hlg Hm
        have hm : Hid (res = (zTm, 0, 3)) := Hm.out
        go_wp2_with fail
        refine (hlg _).mono ?_
        rintro e W5 ⟨rfl, hB5⟩
        have HZ5 := HZ4.out.step hB5
        have HB5 := Lib.hid (below_tr HB4.out hB5)
        clear d0 d1 d2 d3 g0 g1 g2 g3 f4 b3 hltz hlty
        have f5 := HZ5.fz
        have d0 := HZ5.cell 0 rfl
        have d1 := HZ5.cell 1 rfl
        have d2 := HZ5.cell 2 rfl
        have d3 := HZ5.cell 3 rfl
        clear hB5 HZ5 Hm
        go_wp2
        refine bodyPost_ret (v := .tuple #[tA zTm, .int .i64 0, .int .i64 3]) (by simp [results, Tryz.results32, go_sem, d0, d1, d2, d3, zTm]) rfl ?_
        rw [hm.out]
        exact ⟨rfl, below_s4 HB5.out (Nat.le_refl _) 0 _ _ _ _⟩
  · rw [if_neg e2] at Hm
    rw [e1] at hln
    generalize (lineL s.data.toList).2.1 = at1 at *
    generalize (lineL s.data.toList).2.2 = er at *
    have hm : Hid (res = (zTm, at1, er)) := Hm.out
    have hne : (er != (0 : Int)) = true := by simpa using e2
    have HB0 := Lib.hid hB0
    have HZ0 := Lib.hid hz0
    clear hB0 hz0 Hm e1 e2 hsmR hto
    go_enter Tryz.func32, Tryz.ntmps32
    go_wp2_with fail
    refine hln.mono ?_
    rintro e W1 ⟨v, rfl, own, hB1⟩
    have HB1 := Lib.hid (below_tr HB0.out hB1)
    have HZ1 := HZ0.out.step hB1
    have hlt := HZ1.lt
    have f1 := HZ1.fz
    have d0 := HZ1.cell 0 rfl
    have d1 := HZ1.cell 1 rfl
    have d2 := HZ1.cell 2 rfl
    have d3 := HZ1.cell 3 rfl
    clear own hB1 HZ1
    go_wp2
    refine bodyPost_ret (v := .tuple #[tA zTm, .int .i64 at1, .int .i64 er]) (by simp [results, Tryz.results32, go_sem, d0, d1, d2, d3, zTm]) rfl ?_
    rw [hm.out]
    exact ⟨rfl, below_s4 HB1.out (Nat.le_refl _) 0 _ _ _ _⟩
end Go.Proofs.YtffpgandgajihaaGreatDoor
