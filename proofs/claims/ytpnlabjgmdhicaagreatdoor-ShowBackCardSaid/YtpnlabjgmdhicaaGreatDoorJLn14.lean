/- The program's package lines: read at api.Triple. The program's package lines: Split. The program's package lines: Split, whole. -/
import Derived.Test.YtpnlabjgmdhicaaGreatDoorJLn11
import Derived.Test.YtpnlabjgmdhicaaGreatDoorJLnSplit
import Derived.Maps.OwnIn
import Derived.Stop.RegionWithIn
namespace Go.Proofs.YtpnlabjgmdhicaaGreatDoor
open Go Go.RowKit Um Fm Lx Tx
def zTp : Tp := ⟨zTm, zTm, zTm⟩
def tripT (n : Nat) (s : Ls) : Tp × Ls := (⟨(tripC n s).1.1, (tripC n s).1.2.1, (tripC n s).1.2.2⟩, (tripC n s).2)
theorem rTripleT (b n : Nat) (s : Ls) (w : World) (h : CrAt w b n s) (ho : TsOk s.r) :
    Calls Tryz.prog 45 #[.pointer (some ⟨b, 0, none⟩)] w fun e w' => e = .returned (tpA (tripT n s).1) ∧ CrAt w' b n (tripT n s).2 ∧ w.grownBy w' (some b) := rTriple b n s w h ho
set_option maxHeartbeats 4000000 in
set_option maxRecDepth 20000 in
theorem rReadP (s : ByteArray) (w : World) (hC : CtxL w) (hs : s.size ≤ 100000) :
    Calls Tryz.prog 44 #[.string s, .bool true, .func (.func 45) #[] #[]] w fun e w' => e = .returned (.tuple #[tpA (readL true tripT zTp s.data.toList).1, .bool (readL true tripT zTp s.data.toList).2.1, .int .i64 (readL true tripT zTp s.data.toList).2.2.1, .int .i64 (readL true tripT zTp s.data.toList).2.2.2]) ∧ Below w.heap.size w w' := by
  obtain ⟨res, hres⟩ : ∃ r, readL true tripT zTp s.data.toList = r := ⟨_, rfl⟩
  rw [hres]
  have Hm : Hid (res = readL true tripT zTp s.data.toList) := hres.symm
  clear hres
  unfold readL at Hm
  have hln : Hid (s.data.toList.length = s.size) := size_toList s
  obtain ⟨hts, -, htl, -⟩ := line_toks s.data.toList (by rw [size_toList]; exact hs)
  rw [size_toList] at htl
  have hB0 : Below w.heap.size w (w.alloc (.cells #[.int .i64 0, .string ⟨#[]⟩, .string ⟨#[]⟩, .string ⟨#[]⟩, .int .i64 0, .string ⟨#[]⟩, .string ⟨#[]⟩, .string ⟨#[]⟩, .int .i64 0, .string ⟨#[]⟩, .string ⟨#[]⟩, .string ⟨#[]⟩] 31)) := (Below.refl _ w).alloc (Nat.le_refl _) _
  have hz0 : bkT w.heap.size 31 #[.int .i64 0, .string ⟨#[]⟩, .string ⟨#[]⟩, .string ⟨#[]⟩, .int .i64 0, .string ⟨#[]⟩, .string ⟨#[]⟩, .string ⟨#[]⟩, .int .i64 0, .string ⟨#[]⟩, .string ⟨#[]⟩, .string ⟨#[]⟩] (w.alloc (.cells #[.int .i64 0, .string ⟨#[]⟩, .string ⟨#[]⟩, .string ⟨#[]⟩, .int .i64 0, .string ⟨#[]⟩, .string ⟨#[]⟩, .string ⟨#[]⟩, .int .i64 0, .string ⟨#[]⟩, .string ⟨#[]⟩, .string ⟨#[]⟩] 31)) := heap_alloc_new w _
  have hln2 := lexLineT s _ (hC.step hB0) hs
  unfold LineR at hln2
  rcases lineL_cases s.data.toList with ⟨ts, -, -, e⟩ | ⟨e1, e2, -⟩
  · rw [e] at hln2 hts htl Hm
    simp only at hts htl Hm hln2
    simp only [if_true] at Hm
    have HB0 := Lib.hid hB0
    have HZ0 := Lib.hid hz0
    clear hB0 hz0 e hC
    have hslen : w.heap.size < (w.alloc (.cells #[.int .i64 0, .string ⟨#[]⟩, .string ⟨#[]⟩, .string ⟨#[]⟩, .int .i64 0, .string ⟨#[]⟩, .string ⟨#[]⟩, .string ⟨#[]⟩, .int .i64 0, .string ⟨#[]⟩, .string ⟨#[]⟩, .string ⟨#[]⟩] 31)).heap.size := by simp
    by_cases h0 : ts = []
    · have hm : Hid (res = (zTp, false, 0, 0)) := by show _ = _; rw [Hm.out, if_pos (by simp [h0])]
      subst h0
      go_enter Tryz.func44, Tryz.ntmps44
      go_wp2_with fail
      refine hln2.mono ?_
      rintro e W1 ⟨v, rfl, own, hB1⟩
      have HB1 := Lib.hid (below_tr HB0.out hB1)
      have HZ1 := HZ0.out.step hB1
      obtain ⟨A, c, rfl, hc, -⟩ := own_slice own
      have f1 := HZ1.fz
      have d0 := HZ1.cell 0 rfl
      have d1 := HZ1.cell 1 rfl
      have d2 := HZ1.cell 2 rfl
      have d3 := HZ1.cell 3 rfl
      have d4 := HZ1.cell 4 rfl
      have d5 := HZ1.cell 5 rfl
      have d6 := HZ1.cell 6 rfl
      have d7 := HZ1.cell 7 rfl
      have d8 := HZ1.cell 8 rfl
      have d9 := HZ1.cell 9 rfl
      have d10 := HZ1.cell 10 rfl
      have d11 := HZ1.cell 11 rfl
      clear own hB1 HZ1
      go_wp2
      refine bodyPost_ret (v := .tuple #[tpA zTp, .bool false, .int .i64 0, .int .i64 0]) (by simp [results, Tryz.results44, go_sem, d0, d1, d2, d3, d4, d5, d6, d7, d8, d9, d10, d11, zTp, zTm]) rfl ?_
      rw [hm.out]
      exact ⟨rfl, below_s12 HB1.out (Nat.le_refl _) _ _ _ _ _ _ _ _ _ _ _ _⟩
    have hmm : Hid (res = told zTp (tripT s.data.toList.length ⟨ts, none⟩)) := by show _ = _; rw [Hm.out, if_neg (fun h => h0 h.2)]
    have hne : (ts.length : Int) ≠ 0 := by
      intro e
      apply h0
      exact List.eq_nil_of_length_eq_zero (by omega)
    rw [hln.out] at hmm
    have hob := fun b W hC => rTripleT b s.size ⟨ts, none⟩ W hC hts
    generalize tripT s.size ⟨ts, none⟩ = a at *
    obtain ⟨o, s2⟩ := a
    simp only at hob hmm
    clear Hm
    go_enter Tryz.func44, Tryz.ntmps44
    go_wp2_with fail
    refine hln2.mono ?_
    rintro e W1 ⟨v, rfl, own, hB1⟩
    have HB1 := Lib.hid (below_tr HB0.out hB1)
    have HZ1 := Lib.hid (HZ0.out.step hB1)
    obtain ⟨A, c, rfl, hc, -⟩ := own_slice own
    have hn := CrAt.new own s.size
    have HN := Lib.hid hn
    have hlt1 : w.heap.size < W1.heap.size := HZ1.out.lt
    clear own hB1 hn
    have hlr : W1.heap.size < (W1.alloc (.cells #[.slice A ts.length c, .int .i64 s.size, .bool false, .int .i64 0] 99)).heap.size := by simp
    have hBr : Below W1.heap.size W1 (W1.alloc (.cells #[.slice A ts.length c, .int .i64 s.size, .bool false, .int .i64 0] 99)) := (Below.refl _ _).alloc (Nat.le_refl _) _
    have HBr := Lib.hid hBr
    clear hBr
    go_wp2_with fail
    refine (hob _ _ HN.out).mono ?_
    rintro e W2 ⟨rfl, hC2, hG2⟩
    have hzr : w.heap.size ≠ W1.heap.size := by omega
    have HB2 : Hid (Below w.heap.size w W2) := (HB1.out.trans (HBr.out.mono HB1.out.size)).grown hG2 (Nat.le_trans HB1.out.size HBr.out.size) (fun k e => by injection e with e; omega)
    have HZ2 : Hid (bkT w.heap.size 31 #[.int .i64 0, .string ⟨#[]⟩, .string ⟨#[]⟩, .string ⟨#[]⟩, .int .i64 0, .string ⟨#[]⟩, .string ⟨#[]⟩, .string ⟨#[]⟩, .int .i64 0, .string ⟨#[]⟩, .string ⟨#[]⟩, .string ⟨#[]⟩] W2) := (HZ1.out.step HBr.out).grown hG2 (fun e => hzr e.symm)
    have HC2 := Lib.hid hC2
    have hl2 := hC2.lt
    have hlz2 := HZ2.out.lt
    have hB3 : Below W2.heap.size W2 (W2.alloc (.cells #[.int .i64 o.s.k, .string o.s.x, .string o.s.l, .string o.s.y, .int .i64 o.p.k, .string o.p.x, .string o.p.l, .string o.p.y, .int .i64 o.o.k, .string o.o.x, .string o.o.l, .string o.o.y] 31)) := (Below.refl _ _).alloc (Nat.le_refl _) _
    have HC3 := Lib.hid (hC2.below hB3)
    have HZ3 := Lib.hid (HZ2.out.step hB3)
    have HB3 := Lib.hid (below_tr HB2.out hB3)
    have HY3 : Hid (bkT W2.heap.size 31 #[.int .i64 o.s.k, .string o.s.x, .string o.s.l, .string o.s.y, .int .i64 o.p.k, .string o.p.x, .string o.p.l, .string o.p.y, .int .i64 o.o.k, .string o.o.x, .string o.o.l, .string o.o.y] (W2.alloc (.cells #[.int .i64 o.s.k, .string o.s.x, .string o.s.l, .string o.s.y, .int .i64 o.p.k, .string o.p.x, .string o.p.l, .string o.p.y, .int .i64 o.o.k, .string o.o.x, .string o.o.l, .string o.o.y] 31))) := heap_alloc_new W2 _
    clear hC2 hG2 hB3
    go_upto_region 6 with fail
    change Code.wp _ _ _ _ (W2.alloc (.cells #[.int .i64 o.s.k, .string o.s.x, .string o.s.l, .string o.s.y, .int .i64 o.p.k, .string o.p.x, .string o.p.l, .string o.p.y, .int .i64 o.o.k, .string o.o.x, .string o.o.l, .string o.o.y] 31))
    generalize W2.alloc (.cells #[.int .i64 o.s.k, .string o.s.x, .string o.s.l, .string o.s.y, .int .i64 o.p.k, .string o.p.x, .string o.p.l, .string o.p.y, .int .i64 o.o.k, .string o.o.x, .string o.o.l, .string o.o.y] 31) = W3 at *
    generalize W2.heap.size = y at *
    generalize W1.heap.size = b at *
    obtain ⟨A3, c3, z3, r0, r1, r2, r3, rz, -, -⟩ := HC3.out.plain
    have fr := fun i => HC3.out.fz i
    have f3 := HZ3.out.fz
    have d0 := HZ3.out.cell 0 rfl
    have d1 := HZ3.out.cell 1 rfl
    have d2 := HZ3.out.cell 2 rfl
    have d3 := HZ3.out.cell 3 rfl
    have d4 := HZ3.out.cell 4 rfl
    have d5 := HZ3.out.cell 5 rfl
    have d6 := HZ3.out.cell 6 rfl
    have d7 := HZ3.out.cell 7 rfl
    have d8 := HZ3.out.cell 8 rfl
    have d9 := HZ3.out.cell 9 rfl
    have d10 := HZ3.out.cell 10 rfl
    have d11 := HZ3.out.cell 11 rfl
    have y0 := HY3.out.cell 0 rfl
    have y1 := HY3.out.cell 1 rfl
    have y2 := HY3.out.cell 2 rfl
    have y3 := HY3.out.cell 3 rfl
    have y4 := HY3.out.cell 4 rfl
    have y5 := HY3.out.cell 5 rfl
    have y6 := HY3.out.cell 6 rfl
    have y7 := HY3.out.cell 7 rfl
    have y8 := HY3.out.cell 8 rfl
    have y9 := HY3.out.cell 9 rfl
    have y10 := HY3.out.cell 10 rfl
    have y11 := HY3.out.cell 11 rfl
    have hl3 := HC3.out.lt
    have hlz3 := HZ3.out.lt
    have hly3 := HY3.out.lt
    cases hb : s2.bad with
    | some p =>
      have hm : Hid (res = (zTp, false, p, 10)) := by show _ = _; rw [hmm.out]; exact told_bad hb
      have hp := rz p hb
      rw [hb] at r2
      subst hp
      have r2 : W3.cell? ⟨b, 2, none⟩ = some (.bool true) := r2
      clear hb rz hmm
      go_wp2
      go_region
      go_wp2
      refine bodyPost_ret (v := .tuple #[tpA zTp, .bool false, .int .i64 p, .int .i64 10]) (by simp [results, Tryz.results44, go_sem, d0, d1, d2, d3, d4, d5, d6, d7, d8, d9, d10, d11, zTp, zTm]) rfl ?_
      rw [hm.out]
      exact ⟨rfl, (below_s12 HB3.out (Nat.le_refl _) _ _ _ _ _ _ _ _ _ _ _ _).drew⟩
    | none =>
      rw [hb] at r2
      have r2 : W3.cell? ⟨b, 2, none⟩ = some (.bool false) := r2
      cases hr : s2.r with
      | nil =>
        have hm : Hid (res = (o, true, 0, 0)) := by show _ = _; rw [hmm.out]; exact told_ok hb hr
        rw [hr] at r0
        have r0 : W3.cell? ⟨b, 0, none⟩ = some (.slice A3 0 c3) := r0
        clear hb hr rz hmm r3
        go_wp2
        refine bodyPost_ret (v := .tuple #[tpA o, .bool true, .int .i64 0, .int .i64 0]) (by simp [results, Tryz.results44, go_sem, d0, d1, d2, d3, d4, d5, d6, d7, d8, d9, d10, d11]) rfl ?_
        rw [hm.out]
        exact ⟨rfl, below_s12 HB3.out (Nat.le_refl _) _ _ _ _ _ _ _ _ _ _ _ _⟩
      | cons t r =>
        have hm : Hid (res = (zTp, false, t.p, 10)) := by show _ = _; rw [hmm.out]; exact told_more hb hr
        have hmu := rMust [] 0 b s.size none s2 W3 HC3.out (Rd.nil _ _) (by decide) (by simp)
        have hme : Hid ((mustP [] s.size s2).2 = ⟨t :: r, some t.p⟩) := by
          show _ = _
          unfold mustP
          rw [hb, hr]
          rfl
        rw [hr] at r0
        have r0 : W3.cell? ⟨b, 0, none⟩ = some (.slice A3 (r.length + 1) c3) := r0
        clear hb hr rz hmm
        go_wp2_with fail
        refine hmu.mono ?_
        rintro e W4 ⟨rfl, hC4, hG4⟩
        rw [hme.out] at hC4
        have HB4 : Hid (Below w.heap.size w W4) := HB3.out.grown hG4 HB3.out.size (fun k e => by injection e with e; omega)
        have HZ4 := HZ3.out.grown hG4 (fun e => hzr e.symm)
        obtain ⟨A4, c4, z4, q0, q1, q2, q3, qz, -, -⟩ := hC4.plain
        have fq := fun i => hC4.fz i
        have f4 := HZ4.fz
        have hp := qz t.p rfl
        subst hp
        have q2 : W4.cell? ⟨b, 2, none⟩ = some (.bool true) := q2
        have e0 := HZ4.cell 0 rfl
        have e1 := HZ4.cell 1 rfl
        have e2 := HZ4.cell 2 rfl
        have e3 := HZ4.cell 3 rfl
        have e4 := HZ4.cell 4 rfl
        have e5 := HZ4.cell 5 rfl
        have e6 := HZ4.cell 6 rfl
        have e7 := HZ4.cell 7 rfl
        have e8 := HZ4.cell 8 rfl
        have e9 := HZ4.cell 9 rfl
        have e10 := HZ4.cell 10 rfl
        have e11 := HZ4.cell 11 rfl
        have hl4 := hC4.lt
        have hlz4 := HZ4.lt
        clear hC4 hG4 HZ4 qz
        go_wp2
        go_region
        go_wp2
        refine bodyPost_ret (v := .tuple #[tpA zTp, .bool false, .int .i64 t.p, .int .i64 10]) (by simp [results, Tryz.results44, go_sem, e0, e1, e2, e3, e4, e5, e6, e7, e8, e9, e10, e11, zTp, zTm]) rfl ?_
        rw [hm.out]
        exact ⟨rfl, (below_s12 HB4.out (Nat.le_refl _) _ _ _ _ _ _ _ _ _ _ _ _).drew⟩
  · have hm : Hid (res = (zTp, false, (lineL s.data.toList).2.1, (lineL s.data.toList).2.2)) := by show _ = _; rw [Hm.out, if_neg e2]
    rw [e1] at hln2
    generalize (lineL s.data.toList).2.1 = at1 at *
    generalize (lineL s.data.toList).2.2 = er1 at *
    have hne : (er1 != (0 : Int)) = true := by simpa using e2
    have HB0 := Lib.hid hB0
    have HZ0 := Lib.hid hz0
    clear hB0 hz0 hC Hm e1
    go_enter Tryz.func44, Tryz.ntmps44
    go_wp2_with fail
    refine hln2.mono ?_
    rintro e W1 ⟨v, rfl, own, hB1⟩
    have HB1 := Lib.hid (below_tr HB0.out hB1)
    have HZ1 := HZ0.out.step hB1
    obtain ⟨A, c, rfl, hc, -⟩ := own_slice own
    have f1 := HZ1.fz
    have d0 := HZ1.cell 0 rfl
    have d1 := HZ1.cell 1 rfl
    have d2 := HZ1.cell 2 rfl
    have d3 := HZ1.cell 3 rfl
    have d4 := HZ1.cell 4 rfl
    have d5 := HZ1.cell 5 rfl
    have d6 := HZ1.cell 6 rfl
    have d7 := HZ1.cell 7 rfl
    have d8 := HZ1.cell 8 rfl
    have d9 := HZ1.cell 9 rfl
    have d10 := HZ1.cell 10 rfl
    have d11 := HZ1.cell 11 rfl
    have hlz1 := HZ1.lt
    clear own hB1 HZ1
    go_wp2
    refine bodyPost_ret (v := .tuple #[tpA zTp, .bool false, .int .i64 at1, .int .i64 er1]) (by simp [results, Tryz.results44, go_sem, d0, d1, d2, d3, d4, d5, d6, d7, d8, d9, d10, d11, zTp, zTm]) rfl ?_
    rw [hm.out]
    exact ⟨rfl, below_s12 HB1.out (Nat.le_refl _) _ _ _ _ _ _ _ _ _ _ _ _⟩
end Go.Proofs.YtpnlabjgmdhicaaGreatDoor
namespace Go.Proofs.YtpnlabjgmdhicaaGreatDoor
open Go Go.RowKit Go.Maps Go.ChangeMaps Go.Shelf Um Fm Lx Tx
attribute [local go_sem] Oper.semAt_some

/-- A line without its end. -/
def trimB (x : ByteArray) : ByteArray := mkS (Lib.trimSuffix x.data.toList [10])
/-- Where the first end stands. -/
def nlN : List UInt8 → Nat
  | [] => 0
  | c :: r => if c = 10 then 0 else nlN r + 1
theorem nl_on {c : UInt8} (t : List UInt8) (h : c ≠ 10) : nlN (c :: t) = nlN t + 1 := by rw [nlN, if_neg h]
theorem nl_index : ∀ l : List UInt8, Lib.indexByte l 10 = if nlN l < l.length then (nlN l : Int) else -1
  | [] => rfl
  | c :: t => by
    have ih := nl_index t
    unfold Lib.indexByte
    by_cases h : c = 10
    · subst h
      simp [nlN]
    · rw [if_neg (by simpa using h), ih, nl_on t h, List.length_cons]
      by_cases h2 : nlN t < t.length
      · rw [if_pos h2, if_neg (by simp), if_pos (by omega)]; omega
      · rw [if_neg h2, if_pos (by rfl), if_neg (by omega)]
theorem nl_pre : ∀ l : List UInt8, ∀ b ∈ l.take (nlN l), b ≠ 10
  | [], b, hb => by simp at hb
  | c :: t, b, hb => by
    by_cases h : c = 10
    · subst h; simp [nlN] at hb
    · unfold nlN at hb
      rw [if_neg h, List.take_succ_cons, List.mem_cons] at hb
      rcases hb with rfl | hb
      · exact h
      · exact nl_pre t b hb
theorem nl_at : ∀ l : List UInt8, nlN l < l.length → l.drop (nlN l) = 10 :: l.drop (nlN l + 1)
  | [], h => by simp at h
  | c :: t, h => by
    by_cases hc : c = 10
    · subst hc; simp [nlN]
    · unfold nlN at h ⊢
      rw [if_neg hc] at h ⊢
      rw [List.drop_succ_cons, List.drop_succ_cons]
      exact nl_at t (by rw [List.length_cons] at h; omega)
theorem trim_end' (a : List UInt8) : trimB (mkS (a ++ [10])) = mkS a := by
  unfold trimB Lib.trimSuffix
  have h : Lib.hasSuffix (mkS (a ++ [10])).data.toList [10] = true := by
    show Lib.hasSuffix (a ++ [10]).toArray.toList [10] = true
    rw [List.toList_toArray]
    unfold Lib.hasSuffix
    simp
  rw [if_pos h]
  show mkS ((a ++ [10]).toArray.toList.take ((a ++ [10]).toArray.toList.length - 1)) = mkS a
  rw [List.toList_toArray, List.length_append, List.take_left' (by simp)]
theorem trim_last {a : List UInt8} (h : ∀ b ∈ a, b ≠ 10) : trimB (mkS a) = mkS a := by
  unfold trimB Lib.trimSuffix
  have h2 : Lib.hasSuffix (mkS a).data.toList [10] = false := by
    show Lib.hasSuffix a.toArray.toList [10] = false
    rw [List.toList_toArray]
    unfold Lib.hasSuffix
    rw [Bool.eq_false_iff]
    intro hx
    have := (List.isSuffixOf_iff_suffix.1 hx).subset (List.mem_singleton.2 rfl)
    exact h 10 this rfl
  rw [h2]
  exact mk_of _
/-- The next line, with its end; what is left. -/
theorem cut_step {l : List UInt8} (h : nlN l < l.length) : (cutL l).map mkS = trimB (mkS (l.take (nlN l + 1))) :: (cutL (l.drop (nlN l + 1))).map mkS := by
  have e : l = l.take (nlN l) ++ 10 :: l.drop (nlN l + 1) := by rw [← nl_at l h, List.take_append_drop]
  have e2 : l.take (nlN l + 1) = l.take (nlN l) ++ [10] := by
    refine take_snoc_of ?_
    have := congrArg (fun x => x[0]?) (nl_at l h)
    simpa using this
  conv => lhs; rw [e]
  rw [cut_line _ _ (nl_pre l), e2, trim_end']
  rfl
theorem cut_step_last {l : List UInt8} (h : ¬ nlN l < l.length) (h0 : l ≠ []) : (cutL l).map mkS = [trimB (mkS l)] := by
  have e : l.take (nlN l) = l := List.take_of_length_le (by omega)
  have hp := nl_pre l
  rw [e] at hp
  rw [cut_last l hp h0, trim_last hp]
  rfl
/-- The iterator's state, with what the caller keeps. -/
def LnI (bS M : Nat) (total : List ByteArray) (O : List ByteArray → World → Prop) (pre : List ByteArray) (W : World) : Prop := ∃ r : List UInt8, Boxed W bS 9 (.string (mkS r)) ∧ r.length ≤ M ∧ pre.map trimB ++ (cutL r).map mkS = total ∧ O pre W
def LnJ (bS M : Nat) (total : List ByteArray) (O : List ByteArray → World → Prop) (pre : List ByteArray) (x : ByteArray) (W : World) : Prop := ∃ r : List UInt8, Boxed W bS 9 (.string (mkS r)) ∧ r.length ≤ M ∧ x.size ≤ M ∧ (pre ++ [x]).map trimB ++ (cutL r).map mkS = total ∧ O pre W
def LnL (bS M : Nat) (total : List ByteArray) (O : List ByteArray → World → Prop) (K : World → Prop) (W : World) : Prop := ∃ pre, LnI bS M total O pre W ∧ K W
theorem mkS_ne (r : List UInt8) : (mkS r).size = r.length := mkS_size r
def strL : Value → List UInt8
  | .string x => x.data.toList
  | _ => []
def strLen (W : World) (b : Nat) : Nat := (cutL (strL ((W.cell? ⟨b, 0, none⟩).getD undef))).length
theorem strLen_box {W : World} {b : Nat} {T : TypeId} {r : List UInt8} (h : Boxed W b T (.string (mkS r))) : strLen W b = (cutL r).length := by
  unfold strLen
  rw [h.cell]
  show (cutL (mkS r).data.toList).length = _
  rw [show (mkS r).data.toList = r from List.toList_toArray]
set_option maxRecDepth 100000 in
set_option maxHeartbeats 2000000 in
theorem linesIter (m bS M l : Nat) (hM : M ≤ 10000000) (total : List ByteArray) (O : List ByteArray → World → Prop) (hO : ∀ pre X Y, O pre X → X.grownBy Y (some bS) → O pre Y) (K : World → Prop) (hK : ∀ X Y, K X → KeepsOthers X Y → K Y)
    (hY : ∀ pre x X, LnJ bS M total O pre x X → K X → YieldAt Fence.wide m Tryz.prog l #[.string x] X fun e Y => e = .returned (.bool true) ∧ LnI bS M total O (pre ++ [x]) Y ∧ K Y)
    (W : World) (hI : LnI bS M total O [] W) (hk : K W) :
    CallsIn Fence.wide (m + 1) Tryz.prog 98 #[.func (.yield l) #[] #[], .pointer (some ⟨bS, 0, none⟩)] W fun e Y => (∃ v, e = .returned v) ∧ ∃ xs, xs.map trimB = total ∧ LnI bS M total O xs Y ∧ K Y := by
  refine callsIn_of_wp Tryz.func98 rfl trivial ?_ rfl
  simp only [Tryz.ntmps98, List.size_toArray, List.length_cons, List.length_nil, Nat.reduceAdd, Nat.reduceSub, Array.replicate_succ, Array.replicate_zero, List.push_toArray, List.append_toArray, List.nil_append, List.cons_append]
  gi_wp2
  gi_loopw [4] (fun _ wr => LnL bS M total O K wr) (fun _ wr => strLen wr bS)
  case atStart => exact ⟨[], hI, hk⟩
  case round =>
    obtain ⟨pre, ⟨r, hb, hr, ht, ho⟩, hk⟩ := hrel
    have c0 := hb.cell
    have f0 := hb.frozen
    have hsz := mkS_ne r
    by_cases h0 : r = []
    · subst h0
      have hz : (mkS []).size = 0 := rfl
      gi_wp2
      go_end0
      exact ⟨⟨_, rfl⟩, pre, by simpa [cutL] using ht, ⟨[], hb, hr, ht, ho⟩, hk⟩
    · have hpos : 0 < r.length := List.length_pos_iff.2 h0
      have hix := Tryz.strings_IndexByte (mkS r) 10 wr
      have e1 : Lib.indexByte (mkS r).data.toList (10 : Int).toNat.toUInt8 = if nlN r < r.length then (nlN r : Int) else -1 := by
        rw [← nl_index]
        show Lib.indexByte r.toArray.toList 10 = _
        rw [List.toList_toArray]
      rw [e1] at hix
      clear e1
      by_cases h : nlN r < r.length
      · rw [if_pos h] at hix
        have Hh := Lib.hid h
        obtain ⟨k, hkk⟩ : ∃ k, nlN r = k := ⟨_, rfl⟩
        rw [hkk] at hix h
        have hd : decide (0 < (mkS r).size) = true := by simp [hsz]; omega
        gi_wp2_with (refine ⟨trivial, ?_⟩; gi_at_call 99; refine (callsIn_wide.2 hix).mono ?_; rintro e w' ⟨rfl, hw⟩; subst hw)
        gi_region
        have x1 : (mkS r).extract 0 (k + 1) = mkS (r.take (k + 1)) := ba_ext (by
          rw [extract_toList]
          show (r.toArray.toList.drop 0).take (k + 1 - 0) = (r.take (k + 1)).toArray.toList
          rw [List.toList_toArray, List.toList_toArray]; rfl)
        have x2 : (mkS r).extract (k + 1) r.length = mkS (r.drop (k + 1)) := ba_ext (by
          rw [extract_toList]
          show (r.toArray.toList.drop (k + 1)).take (r.length - (k + 1)) = (r.drop (k + 1)).toArray.toList
          rw [List.toList_toArray, List.toList_toArray, List.take_of_length_le (by rw [List.length_drop]; omega)])
        have hst := cut_step Hh.out
        rw [hkk] at hst
        have hsz2 := mkS_ne (r.drop (k + 1))
        rw [x1, x2]
        have hyY := hY pre (mkS (r.take (k + 1))) (w'.setCell ⟨bS, 0, none⟩ (.string (mkS (r.drop (k + 1))))).drew
          ⟨r.drop (k + 1), hb.set _, by rw [List.length_drop]; omega, by rw [mkS_size, List.length_take]; omega, by rw [List.map_append, List.append_assoc, ← ht, hst]; rfl, hO _ _ _ ho ((gr_own (gr_of_below (Below.refl _ w')) 0 _).trans (gr_of_below (Below.refl _ _).drew))⟩
          (hK _ _ hk ((KeepsOthers.setCell _ _ _).trans (KeepsOthers.drew _)))
        obtain ⟨fn, tmps, assign, body, hy', hR⟩ := hyY
        have hlen := hb.lt
        have Hm1 := Lib.hid (strLen_box hb)
        have Ht := Lib.hid ht
        clear hY hO hK hst hb ho hk ht hix x1 x2 c0 f0 hr
        gi_wp2_with ((try refine ⟨fun h => by cases h, ?_⟩); refine hR.mono ?_; clear hR; rintro e W2 ⟨rfl, hI2, hk2⟩)
        go_roundw
        case rel => exact ⟨_, hI2, hk2⟩
        case measure =>
          obtain ⟨r2, hb2, _, ht2, _⟩ := hI2
          rw [Hm1.out, strLen_box hb2]
          have l1 := congrArg List.length ht2
          have l2 := congrArg List.length Ht.out
          simp only [List.length_append, List.length_map, List.length_cons, List.length_nil] at l1 l2
          omega
      · rw [if_neg h] at hix
        have hst := cut_step_last h h0
        have hd : decide (0 < (mkS r).size) = true := by simp [hsz]; omega
        have hyY := hY pre (mkS r) (wr.setCell ⟨bS, 0, none⟩ (.string ⟨#[]⟩))
          ⟨[], hb.set _, Nat.zero_le _, by rw [mkS_size]; exact hr, by rw [List.map_append, List.append_assoc, ← ht, hst]; rfl, hO _ _ _ ho (gr_own (gr_of_below (Below.refl _ wr)) 0 _)⟩
          (hK _ _ hk (KeepsOthers.setCell _ _ _))
        obtain ⟨fn, tmps, assign, body, hy', hR⟩ := hyY
        have hlen := hb.lt
        have Hm1 := Lib.hid (strLen_box hb)
        have Ht := Lib.hid ht
        clear hY hO hK hst hb ho hk ht hr h
        gi_wp2_with (first | (refine ⟨trivial, ?_⟩; gi_at_call 99; refine (callsIn_wide.2 hix).mono ?_; rintro e w' ⟨rfl, hw⟩; subst hw) | ((try refine ⟨fun h => by cases h, ?_⟩); refine hR.mono ?_; clear hR; rintro e W2 ⟨rfl, hI2, hk2⟩))
        go_roundw
        case rel => exact ⟨_, hI2, hk2⟩
        case measure =>
          obtain ⟨r2, hb2, _, ht2, _⟩ := hI2
          rw [Hm1.out, strLen_box hb2]
          have l1 := congrArg List.length ht2
          have l2 := congrArg List.length Ht.out
          simp only [List.length_append, List.length_map, List.length_cons, List.length_nil] at l1 l2
          omega
/-- The lines so far, in the variable's box at z. -/
def OutI (w : World) (z base : Nat) (pre : List ByteArray) (W : World) : Prop := (∃ v, Boxed W z 66 v ∧ W.ownsRow base 9 1 v pre.length ((pre.map trimB).map Value.string)) ∧ Below w.heap.size w W ∧ base ≤ W.heap.size
theorem OutI.grown {w : World} {z base bS : Nat} {pre : List ByteArray} {X Y : World} (h : OutI w z base pre X) (hg : X.grownBy Y (some bS)) (h1 : bS < base) (h2 : bS ≠ z) (h3 : w.heap.size ≤ bS) : OutI w z base pre Y := by
  obtain ⟨⟨v, hb, ho⟩, hB, hs⟩ := h
  exact ⟨⟨v, hb.kept hg (fun e => h2 (by injection e with e; exact e.symm)), own_grown ho hg h1⟩, hB.grown hg hB.size (fun k e => by injection e with e; omega), Nat.le_trans hs hg.size⟩
end Go.Proofs.YtpnlabjgmdhicaaGreatDoor
namespace Go.Proofs.YtpnlabjgmdhicaaGreatDoor
open Go Go.RowKit Go.Maps Go.ChangeMaps Go.Shelf Um Fm Lx Tx
attribute [local go_sem] Oper.semAt_some

theorem strLines (s : ByteArray) (w : World) : Calls Tryz.prog 61 #[.string s] w fun e w' => e = .returned (.func (.func 98) #[] #[.pointer (some ⟨w.heap.size, 0, none⟩)]) ∧ w.alloc (.cells #[.string s] 9) = w' := by
  go_enter Tryz.func61, Tryz.ntmps61
  go_wp2
  go_ret
  exact ⟨rfl, rfl⟩
theorem repB (s old : ByteArray) (w : World) (hC : Ctx w) (hs : s.size ≤ 10000000) (h1 : 1 ≤ old.size) :
    Calls Tryz.prog 60 #[.string s, .string old, .string ⟨#[10]⟩] w fun e w' => e = .returned (.string (mkS (Lib.replaceAll s.data.toList old.data.toList [10]))) ∧ Below w.heap.size w w' := by
  obtain ⟨m, hm⟩ := hC.maxl
  have hc := Lib.countB_le old h1 s.size s (Nat.le_refl _)
  have e10 : (⟨#[10]⟩ : ByteArray).size = 1 := rfl
  exact Tryz.strings_ReplaceAll s old ⟨#[10]⟩ m w (by omega) hm h1 (by rw [e10]; omega)
theorem info_str : (Tryz.prog.info? 9).map (fun i => (i.zero, i.size, i.bytes)) = some (some (.string ⟨#[]⟩), 1, 16) := by kernel_rfl
/-- What Split says. -/
def SplitR (l : List UInt8) (w : World) (e : Ending) (w' : World) : Prop := ∃ v, e = .returned v ∧ w'.ownsRow w.heap.size 9 1 v (splitL l).length ((splitL l).map fun r => Value.string (mkS r)) ∧ Below w.heap.size w w'
set_option maxRecDepth 100000 in
set_option maxHeartbeats 4000000 in
theorem linesSplit (s : ByteArray) (w : World) (hC : Ctx w) (hs : s.size ≤ 2000000) : Calls Tryz.prog 43 #[.string s] w (SplitR s.data.toList w) := by
  have hB0 : Below w.heap.size w (w.alloc (.cells #[.slice none 0 0] 66)) := (Below.refl _ w).alloc (Nat.le_refl _) _
  have hx0 : Boxed (w.alloc (.cells #[.slice none 0 0] 66)) w.heap.size 66 (.slice none 0 0) := Boxed.new w _ _
  have hr1 := repB s ⟨#[13, 10]⟩ _ (hC.step hB0) (by omega) (by decide)
  have hl1 : (mkS (Lib.replaceAll s.data.toList [13, 10] [10])).size ≤ s.size := by
    rw [mkS_size, rep_crlf, ← size_toList]; exact crlf_size _
  have hr2 := fun W (hC : Ctx W) => repB (mkS (Lib.replaceAll s.data.toList [13, 10] [10])) ⟨#[13]⟩ W hC (by omega) (by decide)
  have hN : Hid (Lib.replaceAll (mkS (Lib.replaceAll s.data.toList [13, 10] [10])).data.toList [13] [10] = normL s.data.toList) := by
    show _ = _
    rw [← norm_eq]
  have hnl : (normL s.data.toList).length ≤ 2000000 := Nat.le_trans (norm_size _) (by rw [size_toList]; exact hs)
  have HC := Lib.hid hC
  have HB0 := Lib.hid hB0
  have HX0 := Lib.hid hx0
  have hsl : Hid (splitL s.data.toList = cutL (normL s.data.toList)) := rfl
  clear hB0 hx0 hC
  refine (callsIn_wide (n := 5)).1 ?_
  refine callsIn_of_wp_marks Tryz.func43 rfl trivial ?_ rfl
  simp only [Tryz.ntmps43, List.size_toArray, List.length_cons, List.length_nil, Nat.reduceAdd, Nat.reduceSub, Array.replicate_succ, Array.replicate_zero, List.push_toArray, List.append_toArray, List.nil_append, List.cons_append]
  gi_wp2_with fail
  refine ⟨trivial, ?_⟩
  refine (callsIn_wide.2 hr1).mono ?_
  rintro e W1 ⟨rfl, b1⟩
  have HB1 := Lib.hid (below_tr HB0.out b1)
  have HX1 : Hid (Boxed W1 w.heap.size 66 (.slice none 0 0)) := below_blk b1 HX0.out
  have hr2 := hr2 W1 (HC.out.step HB1.out)
  have hN' := hN.out
  clear b1
  gi_wp2_with fail
  refine ⟨trivial, ?_⟩
  refine (callsIn_wide.2 hr2).mono ?_
  rintro e W2 ⟨rfl, b2⟩
  rw [hN']
  have HB2 := Lib.hid (below_tr HB1.out b2)
  have HX2 : Hid (Boxed W2 w.heap.size 66 (.slice none 0 0)) := below_blk b2 HX1.out
  have hln := strLines (mkS (normL s.data.toList)) W2
  clear b2 hN' hr1
  gi_wp2_with fail
  refine ⟨trivial, ?_⟩
  refine (callsIn_wide.2 hln).mono ?_
  rintro e W3 ⟨rfl, hW3⟩
  have hb3 : Below W2.heap.size W2 W3 := hW3 ▸ (Below.refl _ _).alloc (Nat.le_refl _) _
  have hS3 : Boxed W3 W2.heap.size 9 (.string (mkS (normL s.data.toList))) := hW3 ▸ Boxed.new W2 _ _
  have hz3 : W3.heap.size = W2.heap.size + 1 := by rw [← hW3]; simp
  have hB3 := below_tr HB2.out hb3
  have hX3 : Boxed W3 w.heap.size 66 (.slice none 0 0) := below_blk hb3 HX2.out
  have hwz : w.heap.size < W2.heap.size := HX2.out.lt
  clear hW3 hln hr2
  gi_wp2
  generalize W2.heap.size = bS at *
  refine wpIn_range_st (F := Fence.wide) (n := 5) rfl ?h1 (gf := 98) (lb := #[.pointer (some ⟨bS, 0, none⟩)]) rfl trivial (enters_of Tryz.func98 (by kernel_rfl) rfl)
    (fun x : ByteArray => #[.string x]) ?hps
    (LnI bS 2000000 ((cutL (normL s.data.toList)).map mkS) (OutI w w.heap.size W3.heap.size))
    (LnJ bS 2000000 ((cutL (normL s.data.toList)).map mkS) (OutI w w.heap.size W3.heap.size))
    (fun xs => xs.map trimB = (cutL (normL s.data.toList)).map mkS) ?hI ?hJ ?h0
    (fun x => { tmps := #[.string (mkS (normL s.data.toList)), undef, .pointer (some ⟨w.heap.size, 0, none⟩), .string x, .string s, .string (mkS (Lib.replaceAll s.data.toList [13, 10] [10])), .string (mkS (normL s.data.toList)), .string (mkS (normL s.data.toList)), .func (.func 98) #[] #[.pointer (some ⟨bS, 0, none⟩)], .string x, undef, undef, undef, undef, undef, undef], defers := [] })
    ?assign ?body ?iter ?done
  case h1 => omega
  case hps => intro x; rfl
  case hI =>
    rintro pre u A B row ⟨r, hb, hr, ht, ⟨v, hv, ho⟩, hB, hbs⟩ hg hrow
    have hnc : ∀ k, A.heap[k]?.map Obj.isCells = some true → some k ≠ row := fun k hk e => by
      obtain ⟨_, o, ho', hc⟩ := hrow k e.symm
      rw [ho'] at hk
      simp [hc] at hk
    refine ⟨r, hb.kept hg (hnc _ (by rw [show A.heap[bS]? = _ from hb]; rfl)), hr, ht, ⟨v, hv.kept hg (hnc _ (by rw [show A.heap[w.heap.size]? = _ from hv]; rfl)), ?_⟩, hB.grown hg hB.size (fun k e => by have := (hrow k e).1; omega), Nat.le_trans hbs hg.size⟩
    refine ho.kept hg ?_
    rcases ho.2 with ⟨rfl, _⟩ | ⟨g, cap, cur, rfl, _, hgb, _⟩
    · exact .inl rfl
    · exact .inr fun e => hnc g (by rw [hgb]; rfl) (by simpa [Value.ownBlock] using e)
  case hJ =>
    rintro pre x u A B row ⟨r, hb, hr, hx, ht, ⟨v, hv, ho⟩, hB, hbs⟩ hg hrow
    have hnc : ∀ k, A.heap[k]?.map Obj.isCells = some true → some k ≠ row := fun k hk e => by
      obtain ⟨_, o, ho', hc⟩ := hrow k e.symm
      rw [ho'] at hk
      simp [hc] at hk
    refine ⟨r, hb.kept hg (hnc _ (by rw [show A.heap[bS]? = _ from hb]; rfl)), hr, hx, ht, ⟨v, hv.kept hg (hnc _ (by rw [show A.heap[w.heap.size]? = _ from hv]; rfl)), ?_⟩, hB.grown hg hB.size (fun k e => by have := (hrow k e).1; omega), Nat.le_trans hbs hg.size⟩
    refine ho.kept hg ?_
    rcases ho.2 with ⟨rfl, _⟩ | ⟨g, cap, cur, rfl, _, hgb, _⟩
    · exact .inl rfl
    · exact .inr fun e => hnc g (by rw [hgb]; rfl) (by simpa [Value.ownBlock] using e)
  case h0 => exact ⟨_, hS3, hnl, rfl, ⟨_, hX3, World.ownsRow_nil _ _ _ _⟩, hB3, Nat.le_refl _⟩
  case assign =>
    intro l x W K hK
    have e : ∀ (b : Array Value) (v : Value), (#[9].zip #[v]).foldl (fun t (p, v) => t.setIfInBounds p v) b = b.setIfInBounds 9 v := fun b v => by simp
    rw [e]
    gi_wp2
    exact hK
  case body =>
    rintro l pre x W ⟨r, hb, hr, hx, ht, ⟨v, hv, ho⟩, hB, hbs⟩
    rw [hz3] at ho hbs
    have hts := Tryz.strings_TrimSuffix x ⟨#[10]⟩
    have hxs : x.size ≤ 9223372036854775807 := Nat.le_trans hx (by decide)
    have c0 := hv.cell
    have f0 := hv.frozen
    have hzW := hv.lt
    have hpl : pre.length ≤ 2000000 := by
      have h1 := congrArg List.length ht
      simp only [List.length_append, List.length_map, List.length_cons, List.length_nil] at h1
      have h2 := (cut_size (normL s.data.toList)).1
      omega
    have own0 : (W.drew.alloc (.cells #[.string (trimB x)] 9)).ownsRow (bS + 1) 9 1 v pre.length ((pre.map trimB).map Value.string) := own_below ho ((Below.refl W.heap.size W).drew.alloc (Nat.le_refl _) _) (Nat.le_refl _)
    have hnew : ∀ (j : Nat) (u : Value), [Value.string (trimB x)][j]? = some u → (W.drew.alloc (.cells #[.string (trimB x)] 9)).cell? ((⟨W.heap.size, 0, none⟩ : Addr).add j) = some u := by
      intro j u hu
      rw [add_zero_spot, Nat.zero_add, World.cell?, show (W.drew.alloc (.cells #[.string (trimB x)] 9)).heap[W.heap.size]? = _ from heap_alloc_new W.drew _]
      simpa using hu
    have hbs0 : bS + 1 ≤ (W.drew.alloc (.cells #[.string (trimB x)] 9)).heap.size := by
      have : (W.drew.alloc (.cells #[.string (trimB x)] 9)).heap.size = W.heap.size + 1 := by simp
      omega
    have HV : Hid (Boxed W.drew w.heap.size 66 v) := hv
    have HO : Hid (W.drew.ownsRow (bS + 1) 9 1 v pre.length ((pre.map trimB).map Value.string)) := own_below ho (Below.refl W.heap.size W).drew (Nat.le_refl _)
    have htx : Hid (mkS (Lib.trimSuffix x.data.toList [10]) = trimB x) := rfl
    obtain ⟨i, hi, hz, hsize, hby⟩ := info_parts info_str
    have hfin : ∀ (A4 : Option Addr) (c4 : Nat) (w4 : World), w4.ownsRow (bS + 1) 9 1 (.slice A4 (pre.length + 1) c4) (pre.length + 1) ((pre.map trimB).map Value.string ++ [.string (trimB x)]) → (W.drew.alloc (.cells #[.string (trimB x)] 9)).grownBy w4 v.ownBlock →
        Boxed (w4.setCell ⟨w.heap.size, 0, none⟩ (.slice A4 (pre.length + 1) c4)) w.heap.size 66 (.slice A4 (pre.length + 1) c4) → KeepsOthers W.drew (w4.setCell ⟨w.heap.size, 0, none⟩ (.slice A4 (pre.length + 1) c4)) → Below w.heap.size W.drew (w4.setCell ⟨w.heap.size, 0, none⟩ (.slice A4 (pre.length + 1) c4)) →
        KeepsOthers W (w4.setCell ⟨w.heap.size, 0, none⟩ (.slice A4 (pre.length + 1) c4)) ∧ LnI bS 2000000 ((cutL (normL s.data.toList)).map mkS) (OutI w w.heap.size (bS + 1)) (pre ++ [x]) (w4.setCell ⟨w.heap.size, 0, none⟩ (.slice A4 (pre.length + 1) c4)) := by
      intro A4 c4 w4 own4 hg4 q2 q4 q5
      have hown5 : (w4.setCell ⟨w.heap.size, 0, none⟩ (.slice A4 (pre.length + 1) c4)).ownsRow (bS + 1) 9 1 (.slice A4 (pre.length + 1) c4) (pre.length + 1) ((pre.map trimB).map Value.string ++ [.string (trimB x)]) := own4.kept (grownBy_setCell' w4 w.heap.size _) (.inr (fun e => by
        have h2 := (own4.lt w.heap.size e).1
        omega))
      have hbS : Boxed (w4.setCell ⟨w.heap.size, 0, none⟩ (.slice A4 (pre.length + 1) c4)) bS 9 (.string (mkS r)) := by
        have h1 : Boxed (W.drew.alloc (.cells #[.string (trimB x)] 9)) bS 9 (.string (mkS r)) := Boxed.alloc (W := W.drew) hb _
        have h2 := h1.kept hg4 (fun e => by
          have h2 := (own0.lt bS e.symm).1
          omega)
        exact h2.kept (grownBy_setCell' w4 w.heap.size _) (fun e => by injection e with e; omega)
      refine ⟨(KeepsOthers.drew W).trans q4, r, hbS, hr, ht, ⟨_, q2, ?_⟩, hB.trans ((Below.drew (Below.refl _ W)).trans q5), ?_⟩
      · rw [List.length_append, List.map_append, List.map_append]
        exact hown5
      · have h1 := q4.size
        exact Nat.le_trans hbs h1
    gi_wp2_with fail
    refine wpIn_region_any (by kernel_rfl) ?_
    change wpAnyIn _ _ _ _ _ _ _ _ _ (World.drew _)
    -- REGION BEGIN
    refine wpAnyIn_ready (rs := [0, 1]) (by kernel_rfl) (by simp) ?_
    refine AllReadyIn.cons rfl (fun K hK => ?_) (AllReadyIn.cons rfl (fun K hK => ?_) AllReadyIn.nil)
    · go_simp
      refine hK _ _ ?_
      clear hK K
      refine wpAnyIn_ready (rs := [1]) (by kernel_rfl) (by simp) ?_
      refine AllReadyIn.cons rfl (fun K hK => ?_) AllReadyIn.nil
      go_simp
      refine hK _ _ ?_
      clear hK K
      refine wpAnyIn_ready (rs := [2]) (by kernel_rfl) (by simp) ?_
      refine AllReadyIn.cons rfl (fun K hK => ?_) AllReadyIn.nil
      go_simp
      gi_wp2_with (refine ⟨trivial, ?_⟩; gi_at_call 62; refine (CallsIn.inRound l (callsIn_wide.2 (hts _ hxs))).mono ?_; rintro e W5 ⟨rfl, hW5⟩; subst hW5)
      refine wpAnyIn_ready (rs := [3]) (by kernel_rfl) (by simp) ?_
      refine AllReadyIn.cons rfl (fun K hK => ?_) AllReadyIn.nil
      go_simp
      refine hK _ _ ?_
      clear hK K
      refine wpAnyIn_ready (rs := [4]) (by kernel_rfl) (by simp) ?_
      refine allReadyIn_op (opIn_append rfl rfl _ _ 66 rfl (bS + 1) 9 i _ 1 16 Tryz.underlying66 hi hz hsize hby rfl (by omega) _ pre.length ((pre.map trimB).map Value.string) rfl own0 ⟨W.heap.size, 0, none⟩ 1 1 [.string (trimB x)] rfl rfl hnew (by intro u hu; simp at hu; subst hu; rfl) (by unfold maxLen; omega) (by omega) hbs0 ?_)
      intro v4 w4 own4 hg4
      obtain ⟨A4, c4, rfl, _, _⟩ := own_slice own4
      obtain ⟨q1, q2, q3, q4, q5⟩ := Boxed.appended (W := W.drew) (n₀ := w.heap.size) (B := w.heap.size) HV.out (by decide) (own_downL HO.out (by omega)) (Nat.le_trans (by omega) hbs) (Nat.le_refl _) (own_downL own4 (by omega)) hg4
      have g0 := q1.cell
      have g1 := q1.frozen
      refine wpAnyIn_ready (rs := [5]) (by kernel_rfl) (by simp) ?_
      refine AllReadyIn.cons rfl (fun K hK => ?_) AllReadyIn.nil
      go_simp
      refine hK _ _ ?_
      clear hK K
      refine wpAnyIn_done (by kernel_rfl) ?_ _
      exact hfin A4 c4 w4 own4 hg4 q2 q4 q5
    · go_simp
      refine hK _ _ ?_
      clear hK K
      refine wpAnyIn_ready (rs := [0, 2]) (by kernel_rfl) (by simp) ?_
      refine AllReadyIn.cons rfl (fun K hK => ?_) (AllReadyIn.cons rfl (fun K hK => ?_) AllReadyIn.nil)
      · go_simp
        refine hK _ _ ?_
        clear hK K
        refine wpAnyIn_ready (rs := [2]) (by kernel_rfl) (by simp) ?_
        refine AllReadyIn.cons rfl (fun K hK => ?_) AllReadyIn.nil
        go_simp
        gi_wp2_with (refine ⟨trivial, ?_⟩; gi_at_call 62; refine (CallsIn.inRound l (callsIn_wide.2 (hts _ hxs))).mono ?_; rintro e W5 ⟨rfl, hW5⟩; subst hW5)
        refine wpAnyIn_ready (rs := [3]) (by kernel_rfl) (by simp) ?_
        refine AllReadyIn.cons rfl (fun K hK => ?_) AllReadyIn.nil
        go_simp
        refine hK _ _ ?_
        clear hK K
        refine wpAnyIn_ready (rs := [4]) (by kernel_rfl) (by simp) ?_
        refine allReadyIn_op (opIn_append rfl rfl _ _ 66 rfl (bS + 1) 9 i _ 1 16 Tryz.underlying66 hi hz hsize hby rfl (by omega) _ pre.length ((pre.map trimB).map Value.string) rfl own0 ⟨W.heap.size, 0, none⟩ 1 1 [.string (trimB x)] rfl rfl hnew (by intro u hu; simp at hu; subst hu; rfl) (by unfold maxLen; omega) (by omega) hbs0 ?_)
        intro v4 w4 own4 hg4
        obtain ⟨A4, c4, rfl, _, _⟩ := own_slice own4
        obtain ⟨q1, q2, q3, q4, q5⟩ := Boxed.appended (W := W.drew) (n₀ := w.heap.size) (B := w.heap.size) HV.out (by decide) (own_downL HO.out (by omega)) (Nat.le_trans (by omega) hbs) (Nat.le_refl _) (own_downL own4 (by omega)) hg4
        have g0 := q1.cell
        have g1 := q1.frozen
        refine wpAnyIn_ready (rs := [5]) (by kernel_rfl) (by simp) ?_
        refine AllReadyIn.cons rfl (fun K hK => ?_) AllReadyIn.nil
        go_simp
        refine hK _ _ ?_
        clear hK K
        refine wpAnyIn_done (by kernel_rfl) ?_ _
        exact hfin A4 c4 w4 own4 hg4 q2 q4 q5
      · go_simp
        gi_wp2_with (refine ⟨trivial, ?_⟩; gi_at_call 62; refine (CallsIn.inRound l (callsIn_wide.2 (hts _ hxs))).mono ?_; rintro e W5 ⟨rfl, hW5⟩; subst hW5)
        refine wpAnyIn_ready (rs := [0, 3]) (by kernel_rfl) (by simp) ?_
        refine AllReadyIn.cons rfl (fun K hK => ?_) (AllReadyIn.cons rfl (fun K hK => ?_) AllReadyIn.nil)
        · go_simp
          refine hK _ _ ?_
          clear hK K
          refine wpAnyIn_ready (rs := [3]) (by kernel_rfl) (by simp) ?_
          refine AllReadyIn.cons rfl (fun K hK => ?_) AllReadyIn.nil
          go_simp
          refine hK _ _ ?_
          clear hK K
          refine wpAnyIn_ready (rs := [4]) (by kernel_rfl) (by simp) ?_
          refine allReadyIn_op (opIn_append rfl rfl _ _ 66 rfl (bS + 1) 9 i _ 1 16 Tryz.underlying66 hi hz hsize hby rfl (by omega) _ pre.length ((pre.map trimB).map Value.string) rfl own0 ⟨W.heap.size, 0, none⟩ 1 1 [.string (trimB x)] rfl rfl hnew (by intro u hu; simp at hu; subst hu; rfl) (by unfold maxLen; omega) (by omega) hbs0 ?_)
          intro v4 w4 own4 hg4
          obtain ⟨A4, c4, rfl, _, _⟩ := own_slice own4
          obtain ⟨q1, q2, q3, q4, q5⟩ := Boxed.appended (W := W.drew) (n₀ := w.heap.size) (B := w.heap.size) HV.out (by decide) (own_downL HO.out (by omega)) (Nat.le_trans (by omega) hbs) (Nat.le_refl _) (own_downL own4 (by omega)) hg4
          have g0 := q1.cell
          have g1 := q1.frozen
          refine wpAnyIn_ready (rs := [5]) (by kernel_rfl) (by simp) ?_
          refine AllReadyIn.cons rfl (fun K hK => ?_) AllReadyIn.nil
          go_simp
          refine hK _ _ ?_
          clear hK K
          refine wpAnyIn_done (by kernel_rfl) ?_ _
          exact hfin A4 c4 w4 own4 hg4 q2 q4 q5
        · go_simp
          refine hK _ _ ?_
          clear hK K
          refine wpAnyIn_ready (rs := [0]) (by kernel_rfl) (by simp) ?_
          refine AllReadyIn.cons rfl (fun K hK => ?_) AllReadyIn.nil
          go_simp
          refine hK _ _ ?_
          clear hK K
          refine wpAnyIn_ready (rs := [4]) (by kernel_rfl) (by simp) ?_
          refine allReadyIn_op (opIn_append rfl rfl _ _ 66 rfl (bS + 1) 9 i _ 1 16 Tryz.underlying66 hi hz hsize hby rfl (by omega) _ pre.length ((pre.map trimB).map Value.string) rfl own0 ⟨W.heap.size, 0, none⟩ 1 1 [.string (trimB x)] rfl rfl hnew (by intro u hu; simp at hu; subst hu; rfl) (by unfold maxLen; omega) (by omega) hbs0 ?_)
          intro v4 w4 own4 hg4
          obtain ⟨A4, c4, rfl, _, _⟩ := own_slice own4
          obtain ⟨q1, q2, q3, q4, q5⟩ := Boxed.appended (W := W.drew) (n₀ := w.heap.size) (B := w.heap.size) HV.out (by decide) (own_downL HO.out (by omega)) (Nat.le_trans (by omega) hbs) (Nat.le_refl _) (own_downL own4 (by omega)) hg4
          have g0 := q1.cell
          have g1 := q1.frozen
          refine wpAnyIn_ready (rs := [5]) (by kernel_rfl) (by simp) ?_
          refine AllReadyIn.cons rfl (fun K hK => ?_) AllReadyIn.nil
          go_simp
          refine hK _ _ ?_
          clear hK K
          refine wpAnyIn_done (by kernel_rfl) ?_ _
          exact hfin A4 c4 w4 own4 hg4 q2 q4 q5
    -- REGION END
  case iter =>
    intro l K W hI hk hK hY
    exact linesIter 3 bS 2000000 l (by omega) _ _ (fun pre X Y h hg => h.grown hg (by omega) (by omega) (by omega)) K hK hY W hI hk
  case done =>
    rintro D xs W hD hS ⟨r, hb, hr, ht, ⟨v, hv, ho⟩, hB, hbs⟩ hK
    have c0 := hv.cell
    have f0 := hv.frozen
    have hne := hv.not_row (by decide) ho
    have hl : xs.length = (splitL s.data.toList).length := by
      have := congrArg List.length hS
      simp only [List.length_map] at this
      rw [this, hsl.out]
    have hmap : (xs.map trimB).map Value.string = (splitL s.data.toList).map fun r => Value.string (mkS r) := by
      rw [hS, hsl.out, List.map_map]
      rfl
    rw [hl, hmap] at ho
    obtain ⟨A4, c4, rfl, _, _⟩ := own_slice ho
    have Ho := Lib.hid ho
    have Hv := Lib.hid hv
    have HBx := Lib.hid hB
    clear hl hmap ho hS hb hv hB ht
    gi_wp2
    have hK2 := (KeepsOthers.setCell W ⟨w.heap.size, 0, none⟩ (.slice A4 (splitL s.data.toList).length c4)).same D _ hK rfl
    have hb2 := Hv.out.set (.slice A4 (splitL s.data.toList).length c4)
    have hg2 := grownBy_setCell' W w.heap.size (.slice A4 (splitL s.data.toList).length c4)
    have ho2 := Ho.out.kept hg2 (.inr (fun e => by
      have h2 := (Ho.out.lt w.heap.size e).1
      omega))
    have hgp := grownBy_putObj' (W.setCell ⟨w.heap.size, 0, none⟩ (.slice A4 (splitL s.data.toList).length c4)) D (.deferred none)
    refine ⟨by simp, .inl ⟨_, _, rfl, run_takeDeferred hK2, ?_⟩⟩
    have hc3 := cell_kept hb2.cell hgp (fun r e => by cases e; exact ⟨_, hK2, rfl⟩)
    refine ⟨.slice A4 (splitL s.data.toList).length c4, ?_, _, rfl, own_downL (ownsRow_putObj ho2 _ hK2 rfl) (by omega), (HBx.out.setCell (p := ⟨w.heap.size, 0, none⟩) (Nat.le_refl _) _).trans (belowK_b (w := w) (Nat.le_refl _) _ D _ _ (by omega) hK2 rfl rfl)⟩
    simp [results, Tryz.results43, go_sem, hc3]
end Go.Proofs.YtpnlabjgmdhicaaGreatDoor
