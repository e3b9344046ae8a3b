/- The answer for lex (ossuaryref09): token. Printed by gen/r9d.py. -/
import Derived.Test.YtffpgandgajihaaGreatDoorJR9c
import Derived.Test.YtffpgandgajihaaGreatDoorJUtfRef3
namespace Go.Proofs.YtffpgandgajihaaGreatDoor
open Go Go.RowKit Um Lx

/-- The world in which a token is begun. -/
def tkE (w : World) (k : Nat) (kd : Int) : World := (w.alloc (.cells #[.int .i64 0, .string ⟨#[]⟩, .int .i64 0] 167)).alloc (.cells #[.int .i64 kd, .string ⟨#[]⟩, .int .i64 k] 167)
theorem tkE_size (w : World) (k : Nat) (kd : Int) : (tkE w k kd).heap.size = w.heap.size + 1 + 1 := by simp [tkE]
theorem tkE_below (w : World) (k : Nat) (kd : Int) : Below w.heap.size w (tkE w k kd) := ((Below.refl _ _).alloc (Nat.le_refl _) _).alloc (by simp) _
/-- What lies in the token's blocks. -/
structure TkF (w : World) (k : Nat) (kd : Int) (w2 : World) : Prop where
  r : w2.heap[w.heap.size]? = some (.cells #[.int .i64 0, .string ⟨#[]⟩, .int .i64 0] 167 (0, 0))
  t : w2.heap[w.heap.size + 1]? = some (.cells #[.int .i64 kd, .string ⟨#[]⟩, .int .i64 k] 167 (0, 0))
theorem tkE_f (w : World) (k : Nat) (kd : Int) : TkF w k kd (tkE w k kd) := ⟨heap_two_1 w _ _, heap_two_2 w _ _⟩
theorem TkF.below {w w2 w3 : World} {k : Nat} {kd : Int} (h : TkF w k kd w2) (hb : Below w2.heap.size w2 w3) : TkF w k kd w3 := by
  have h1 := (Array.getElem?_eq_some_iff.1 h.r).1
  have h2 := (Array.getElem?_eq_some_iff.1 h.t).1
  exact ⟨by rw [hb.block _ h1]; exact h.r, by rw [hb.block _ h2]; exact h.t⟩
theorem TkF.cells {w w2 : World} {k : Nat} {kd : Int} (h : TkF w k kd w2) : (w2.cell? ⟨w.heap.size, 0, none⟩ = some (.int .i64 0) ∧ w2.cell? ⟨w.heap.size, 1, none⟩ = some (.string ⟨#[]⟩) ∧ w2.cell? ⟨w.heap.size, 2, none⟩ = some (.int .i64 0)) ∧
    (w2.cell? ⟨w.heap.size + 1, 0, none⟩ = some (.int .i64 kd) ∧ w2.cell? ⟨w.heap.size + 1, 1, none⟩ = some (.string ⟨#[]⟩) ∧ w2.cell? ⟨w.heap.size + 1, 2, none⟩ = some (.int .i64 k)) ∧ (∀ i, w2.frozen? ⟨w.heap.size, i, none⟩ = false) ∧ ∀ i, w2.frozen? ⟨w.heap.size + 1, i, none⟩ = false := by
  have hr := h.r
  have ht := h.t
  refine ⟨⟨?_, ?_, ?_⟩, ⟨?_, ?_, ?_⟩, fun i => ?_, fun i => ?_⟩
  · rw [World.cell?, hr]; rfl
  · rw [World.cell?, hr]; rfl
  · rw [World.cell?, hr]; rfl
  · rw [World.cell?, ht]; rfl
  · rw [World.cell?, ht]; rfl
  · rw [World.cell?, ht]; rfl
  · simp [World.frozen?, hr]
  · simp [World.frozen?, ht]
/-- What the answer's token says. -/
def TokV (w : World) (s : ByteArray) (k : Nat) (e : Ending) (w' : World) : Prop := Below w.heap.size w w' ∧
  ((∃ (kn m : Nat) (x : ByteArray), tkL (from_ s k) = some (kn, x, m) ∧ e = .returned (.tuple #[.agg #[.int .i64 kn, .string x, .int .i64 k], .int .i64 m])) ∨
  (tkL (from_ s k) = none ∧ (∃ (kd : Int) (x : ByteArray), e = .returned (.tuple #[.agg #[.int .i64 kd, .string x, .int .i64 k], .int .i64 0]))))
theorem extract_eq (s : ByteArray) (a n : Nat) : s.extract a (a + n) = ⟨(((from_ s a)).take n).toArray⟩ := by
  have h : (s.extract a (a + n)).data.toList = (from_ s a).take n := by rw [extract_toList, Nat.add_sub_cancel_left]
  cases hx : s.extract a (a + n) with
  | mk d => rw [hx] at h; simp only at h; rw [← h]
set_option maxRecDepth 10000 in
set_option maxHeartbeats 16000000 in
theorem refToken (s : ByteArray) (k : Nat) (w : World) (hk : k < s.size) (hs : s.size ≤ 1000000) :
    Calls Tryz.prog 103 #[.string s, .int .i64 k] w (TokV w s k) := by
  have hb0 : c0 (from_ s k) = bn s k := bn_from s k 0
  have hb1 : c1 (from_ s k) = bn s (k + 1) := bn_from s k 1
  have hfl := from_len s k
  have HE : ∀ kd : Int, Hid (tkE w k kd = (w.alloc (.cells #[.int .i64 0, .string ⟨#[]⟩, .int .i64 0] 167)).alloc (.cells #[.int .i64 kd, .string ⟨#[]⟩, .int .i64 k] 167)) := fun _ => rfl
  have HE := Lib.hid HE
  have hk2 : k ≤ 1000000 := by omega
  by_cases h : bn s k = 60
  · have Htk : Hid (tkL (from_ s k) = (inL false ((from_ s k).drop 1)).map fun p => (1, textS p.1, 1 + p.2)) := by
      show _ = _; unfold tkL; rw [if_pos (by rw [hb0, h])]
    have e60 : ((bn s k : Int) == 60) = true := by rw [h]; rfl
    have e34 : ((bn s k : Int) == 34) = false := by simp; omega
    have e95 : ((bn s k : Int) == 95) = false := by simp; omega
    have e64 : ((bn s k : Int) == 64) = false := by simp; omega
    have e94 : ((bn s k : Int) == 94) = false := by simp; omega
    have e46 : ((bn s k : Int) == 46) = false := by simp; omega
    have hin := fun W => refInner false s (k + 1) W (by omega) hs
    unfold InV at hin
    rw [from_drop] at hin
    have hen : ((endC false : Nat) : Int) = 62 := rfl
    simp only [hen] at hin
    have ek : (((k + 1 : Nat)) : Int) = (k : Int) + 1 := by omega
    rw [ek] at hin
    have hsp := fun ns m => inL_spec (lit := false) (l := (from_ s k).drop 1) (ns := ns) (m := m)
    cases hi : inL false ((from_ s k).drop 1) with
    | none =>
      rw [hi] at hin Htk
      simp only [inV] at hin
      clear hi hsp h hb0 hb1 hfl hen ek
      go_enter Tryz.func103, Tryz.ntmps103
      go_wp2_with fail
      rw [← (HE.out 1).out]
      refine (hin _).mono ?_
      rintro e w2 ⟨rfl, hb2⟩
      have F2 := (tkE_f w k 1).below hb2
      have HB2 := Lib.hid (below_tr (tkE_below w k 1) hb2)
      clear hb2
      obtain ⟨⟨r0, r1, r2⟩, ⟨t0, t1, t2⟩, rf, tf⟩ := F2.cells
      have rf0 := rf 0
      have rf1 := rf 1
      have rf2 := rf 2
      have tf0 := tf 0
      have tf1 := tf 1
      have tf2 := tf 2
      clear rf tf
      clear F2
      go_wp2
      refine bodyPost_ret (v := .tuple #[.agg #[.int .i64 1, .string ⟨#[]⟩, .int .i64 k], .int .i64 0]) (by simp [results, Tryz.results103, go_sem, r0, r1, r2]) rfl ?_
      refine ⟨?_, .inr ⟨Htk.out, _, _, rfl⟩⟩
      repeat (refine Below.setCell ?_ (by first | exact Nat.le_refl _ | exact Nat.le_succ _) _)
      exact HB2.out
    | some p =>
      obtain ⟨ns, m⟩ := p
      have hm1 := (hsp ns m hi).1
      have hm2 := (hsp ns m hi).2.1
      rw [List.length_drop] at hm2
      have hme : ((m : Int) == 0) = false := by simp; omega
      have hm3 : m ≤ 1000000 := by omega
      rw [hi] at hin Htk
      simp only [inV] at hin
      clear hi hsp h hb0 hb1 hfl hen ek hm1 hm2
      go_enter Tryz.func103, Tryz.ntmps103
      go_wp2_with fail
      rw [← (HE.out 1).out]
      refine (hin _).mono ?_
      rintro e w2 ⟨rfl, hb2⟩
      have F2 := (tkE_f w k 1).below hb2
      have HB2 := Lib.hid (below_tr (tkE_below w k 1) hb2)
      clear hb2
      obtain ⟨⟨r0, r1, r2⟩, ⟨t0, t1, t2⟩, rf, tf⟩ := F2.cells
      have rf0 := rf 0
      have rf1 := rf 1
      have rf2 := rf 2
      have tf0 := tf 0
      have tf1 := tf 1
      have tf2 := tf 2
      clear rf tf
      clear F2
      go_wp2
      refine bodyPost_ret (v := .tuple #[.agg #[.int .i64 1, .string (textS ns), .int .i64 k], .int .i64 (1 + (m : Int))]) (by simp [results, Tryz.results103, go_sem, r0, r1, r2]) rfl ?_
      refine ⟨?_, .inl ⟨1, 1 + m, textS ns, Htk.out, by congr 3⟩⟩
      repeat (refine Below.setCell ?_ (by first | exact Nat.le_refl _ | exact Nat.le_succ _) _)
      exact HB2.out
  have q60 := h
  clear h
  by_cases h : bn s k = 34
  · have Htk : Hid (tkL (from_ s k) = (inL true ((from_ s k).drop 1)).map fun p => (3, textS p.1, 1 + p.2)) := by
      show _ = _; unfold tkL; rw [if_neg (by rw [hb0, h]; decide)]; rw [if_pos (by rw [hb0, h])]
    have e60 : ((bn s k : Int) == 60) = false := by simp; omega
    have e34 : ((bn s k : Int) == 34) = true := by rw [h]; rfl
    have e95 : ((bn s k : Int) == 95) = false := by simp; omega
    have e64 : ((bn s k : Int) == 64) = false := by simp; omega
    have e94 : ((bn s k : Int) == 94) = false := by simp; omega
    have e46 : ((bn s k : Int) == 46) = false := by simp; omega
    have hin := fun W => refInner true s (k + 1) W (by omega) hs
    unfold InV at hin
    rw [from_drop] at hin
    have hen : ((endC true : Nat) : Int) = 34 := rfl
    simp only [hen] at hin
    have ek : (((k + 1 : Nat)) : Int) = (k : Int) + 1 := by omega
    rw [ek] at hin
    have hsp := fun ns m => inL_spec (lit := true) (l := (from_ s k).drop 1) (ns := ns) (m := m)
    cases hi : inL true ((from_ s k).drop 1) with
    | none =>
      rw [hi] at hin Htk
      simp only [inV] at hin
      clear hi hsp h hb0 hb1 hfl hen ek
      go_enter Tryz.func103, Tryz.ntmps103
      go_wp2_with fail
      rw [← (HE.out 3).out]
      refine (hin _).mono ?_
      rintro e w2 ⟨rfl, hb2⟩
      have F2 := (tkE_f w k 3).below hb2
      have HB2 := Lib.hid (below_tr (tkE_below w k 3) hb2)
      clear hb2
      obtain ⟨⟨r0, r1, r2⟩, ⟨t0, t1, t2⟩, rf, tf⟩ := F2.cells
      have rf0 := rf 0
      have rf1 := rf 1
      have rf2 := rf 2
      have tf0 := tf 0
      have tf1 := tf 1
      have tf2 := tf 2
      clear rf tf
      clear F2
      go_wp2
      refine bodyPost_ret (v := .tuple #[.agg #[.int .i64 3, .string ⟨#[]⟩, .int .i64 k], .int .i64 0]) (by simp [results, Tryz.results103, go_sem, r0, r1, r2]) rfl ?_
      refine ⟨?_, .inr ⟨Htk.out, _, _, rfl⟩⟩
      repeat (refine Below.setCell ?_ (by first | exact Nat.le_refl _ | exact Nat.le_succ _) _)
      exact HB2.out
    | some p =>
      obtain ⟨ns, m⟩ := p
      have hm1 := (hsp ns m hi).1
      have hm2 := (hsp ns m hi).2.1
      rw [List.length_drop] at hm2
      have hme : ((m : Int) == 0) = false := by simp; omega
      have hm3 : m ≤ 1000000 := by omega
      rw [hi] at hin Htk
      simp only [inV] at hin
      clear hi hsp h hb0 hb1 hfl hen ek hm1 hm2
      go_enter Tryz.func103, Tryz.ntmps103
      go_wp2_with fail
      rw [← (HE.out 3).out]
      refine (hin _).mono ?_
      rintro e w2 ⟨rfl, hb2⟩
      have F2 := (tkE_f w k 3).below hb2
      have HB2 := Lib.hid (below_tr (tkE_below w k 3) hb2)
      clear hb2
      obtain ⟨⟨r0, r1, r2⟩, ⟨t0, t1, t2⟩, rf, tf⟩ := F2.cells
      have rf0 := rf 0
      have rf1 := rf 1
      have rf2 := rf 2
      have tf0 := tf 0
      have tf1 := tf 1
      have tf2 := tf 2
      clear rf tf
      clear F2
      go_wp2
      refine bodyPost_ret (v := .tuple #[.agg #[.int .i64 3, .string (textS ns), .int .i64 k], .int .i64 (1 + (m : Int))]) (by simp [results, Tryz.results103, go_sem, r0, r1, r2]) rfl ?_
      refine ⟨?_, .inl ⟨3, 1 + m, textS ns, Htk.out, by congr 3⟩⟩
      repeat (refine Below.setCell ?_ (by first | exact Nat.le_refl _ | exact Nat.le_succ _) _)
      exact HB2.out
  have q34 := h
  clear h
  by_cases h : bn s k = 64
  · have Htk : Hid (tkL (from_ s k) = if tag ((from_ s k).drop 1) = 0 then none else some (4, ⟨(((from_ s k).drop 1).take (tag ((from_ s k).drop 1))).toArray⟩, 1 + tag ((from_ s k).drop 1))) := by
      show _ = _; unfold tkL; rw [hb0, hb1, if_neg (by omega), if_neg (by omega), if_neg (by omega), if_pos h]
    have e60 : ((bn s k : Int) == 60) = false := by simp; omega
    have e34 : ((bn s k : Int) == 34) = false := by simp; omega
    have e95 : ((bn s k : Int) == 95) = false := by simp; omega
    have e64 : ((bn s k : Int) == 64) = true := by rw [h]; rfl
    have e94 : ((bn s k : Int) == 94) = false := by simp; omega
    have e46 : ((bn s k : Int) == 46) = false := by simp; omega
    have ht := fun W => refTag (s.extract (k + 1) s.size) W (by simp [ByteArray.size_extract]; omega)
    rw [rest_toList, from_drop] at ht
    have hle := tag_le ((from_ s k).drop 1)
    rw [List.length_drop] at hle
    have hx := extract_eq s (k + 1) (tag ((from_ s k).drop 1))
    rw [from_drop] at hx
    obtain ⟨z, hz⟩ : ∃ z, tag ((from_ s k).drop 1) = z := ⟨_, rfl⟩
    rw [hz] at ht hle hx Htk
    obtain ⟨xv, hxv⟩ : ∃ x, s.extract (k + 1) (k + 1 + z) = x := ⟨_, rfl⟩
    rw [← hx, hxv] at Htk
    have hle2 : k + 1 + z ≤ s.size := by omega
    clear hz hx q60 q34 hfl hb0 hb1 h hle
    by_cases hz0 : z = 0
    · subst hz0
      rw [if_pos rfl] at Htk
      go_enter Tryz.func103, Tryz.ntmps103
      go_wp2_with fail
      rw [← (HE.out 4).out]
      refine (ht _).mono ?_
      rintro e w2 ⟨rfl, rfl⟩
      have F2 := tkE_f w k 4
      have HB2 := Lib.hid (tkE_below w k 4)
      obtain ⟨w2, hw2⟩ : ∃ w2, tkE w k 4 = w2 := ⟨_, rfl⟩
      rw [hw2] at F2 HB2 ⊢
      clear hw2
      obtain ⟨⟨r0, r1, r2⟩, ⟨t0, t1, t2⟩, rf, tf⟩ := F2.cells
      have rf0 := rf 0
      have rf1 := rf 1
      have rf2 := rf 2
      have tf0 := tf 0
      have tf1 := tf 1
      have tf2 := tf 2
      clear rf tf
      clear F2
      go_wp2
      refine bodyPost_ret (v := .tuple #[.agg #[.int .i64 4, .string ByteArray.empty, .int .i64 k], .int .i64 0]) (by simp [results, Tryz.results103, go_sem, r0, r1, r2]) rfl ?_
      refine ⟨?_, .inr ⟨Htk.out, _, _, rfl⟩⟩
      repeat (refine Below.setCell ?_ (by first | exact Nat.le_refl _ | exact Nat.le_succ _) _)
      exact HB2.out
    · rw [if_neg hz0] at Htk
      have hme : ((z : Int) == 0) = false := by simp; omega
      clear hz0
      go_enter Tryz.func103, Tryz.ntmps103
      go_wp2_with fail
      rw [← (HE.out 4).out]
      refine (ht _).mono ?_
      rintro e w2 ⟨rfl, rfl⟩
      have F2 := tkE_f w k 4
      have HB2 := Lib.hid (tkE_below w k 4)
      obtain ⟨w2, hw2⟩ : ∃ w2, tkE w k 4 = w2 := ⟨_, rfl⟩
      rw [hw2] at F2 HB2 ⊢
      clear hw2
      obtain ⟨⟨r0, r1, r2⟩, ⟨t0, t1, t2⟩, rf, tf⟩ := F2.cells
      have rf0 := rf 0
      have rf1 := rf 1
      have rf2 := rf 2
      have tf0 := tf 0
      have tf1 := tf 1
      have tf2 := tf 2
      clear rf tf
      clear F2
      go_wp2
      refine bodyPost_ret (v := .tuple #[.agg #[.int .i64 4, .string xv, .int .i64 k], .int .i64 (1 + (z : Int))]) (by simp [results, Tryz.results103, go_sem, r0, r1, r2]) rfl ?_
      refine ⟨?_, .inl ⟨4, 1 + z, xv, Htk.out, by congr 3⟩⟩
      repeat (refine Below.setCell ?_ (by first | exact Nat.le_refl _ | exact Nat.le_succ _) _)
      exact HB2.out
  have q64 := h
  clear h
  by_cases h : bn s k = 46
  · have Htk : Hid (tkL (from_ s k) = some (6, ⟨#[]⟩, 1)) := by
      show _ = _; unfold tkL; rw [hb0, hb1, if_neg (by omega), if_neg (by omega), if_neg (by omega), if_neg (by omega), if_neg (by omega), if_pos h]
    have e60 : ((bn s k : Int) == 60) = false := by simp; omega
    have e34 : ((bn s k : Int) == 34) = false := by simp; omega
    have e95 : ((bn s k : Int) == 95) = false := by simp; omega
    have e64 : ((bn s k : Int) == 64) = false := by simp; omega
    have e94 : ((bn s k : Int) == 94) = false := by simp; omega
    have e46 : ((bn s k : Int) == 46) = true := by rw [h]; rfl
    clear q60 q34 q64 hfl hb0 hb1 h
    have F2 := tkE_f w k 6
    have HB2 := Lib.hid (tkE_below w k 6)
    go_enter Tryz.func103, Tryz.ntmps103
    go_upto_region 25 with (fail)
    rw [← (HE.out 6).out]
    obtain ⟨w2, hw2⟩ : ∃ w2, tkE w k 6 = w2 := ⟨_, rfl⟩
    rw [hw2] at F2 HB2 ⊢
    clear hw2
    obtain ⟨⟨r0, r1, r2⟩, ⟨t0, t1, t2⟩, rf, tf⟩ := F2.cells
    have rf0 := rf 0
    have rf1 := rf 1
    have rf2 := rf 2
    have tf0 := tf 0
    have tf1 := tf 1
    have tf2 := tf 2
    clear rf tf
    clear F2
    go_wp2
    refine bodyPost_ret (v := .tuple #[.agg #[.int .i64 6, .string ⟨#[]⟩, .int .i64 k], .int .i64 1]) (by simp [results, Tryz.results103, go_sem, r0, r1, r2]) rfl ?_
    refine ⟨?_, .inl ⟨6, 1, ⟨#[]⟩, Htk.out, rfl⟩⟩
    repeat (refine Below.setCell ?_ (by first | exact Nat.le_refl _ | exact Nat.le_succ _) _)
    exact HB2.out
  have q46 := h
  clear h
  by_cases hk1 : k + 1 < s.size
  · have hd : decide ((k : Int) + 1 < s.size) = true := by simp; omega
    by_cases h : bn s k = 95 ∧ bn s (k + 1) = 58
    · obtain ⟨h, h58⟩ := h
      have Htk : Hid (tkL (from_ s k) = if label ((from_ s k).drop 2) = 0 then none else some (2, ⟨(((from_ s k).drop 2).take (label ((from_ s k).drop 2))).toArray⟩, 2 + label ((from_ s k).drop 2))) := by
        show _ = _; unfold tkL; rw [hb0, hb1, if_neg (by omega), if_neg (by omega), if_pos ⟨h, h58⟩]
      have e60 : ((bn s k : Int) == 60) = false := by simp; omega
      have e34 : ((bn s k : Int) == 34) = false := by simp; omega
      have e95 : ((bn s k : Int) == 95) = true := by rw [h]; rfl
      have e64 : ((bn s k : Int) == 64) = false := by simp; omega
      have e94 : ((bn s k : Int) == 94) = false := by simp; omega
      have e46 : ((bn s k : Int) == 46) = false := by simp; omega
      have e58 : ((bn s (k + 1) : Int) == 58) = true := by rw [h58]; rfl
      have ht := fun W => refLabel (s.extract (k + 2) s.size) W (by simp [ByteArray.size_extract]; omega)
      rw [rest_toList, from_drop] at ht
      have hle := label_le ((from_ s k).drop 2)
      rw [List.length_drop] at hle
      have hx := extract_eq s (k + 2) (label ((from_ s k).drop 2))
      rw [from_drop] at hx
      obtain ⟨z, hz⟩ : ∃ z, label ((from_ s k).drop 2) = z := ⟨_, rfl⟩
      rw [hz] at ht hle hx Htk
      obtain ⟨xv, hxv⟩ : ∃ x, s.extract (k + 2) (k + 2 + z) = x := ⟨_, rfl⟩
      rw [← hx, hxv] at Htk
      have hle2 : k + 2 + z ≤ s.size := by omega
      clear hz hx q60 q34 q64 q46 hfl hb0 hb1 h h58 hle
      by_cases hz0 : z = 0
      · subst hz0
        rw [if_pos rfl] at Htk
        go_enter Tryz.func103, Tryz.ntmps103
        go_wp2_with fail
        rw [← (HE.out 2).out]
        refine (ht _).mono ?_
        rintro e w2 ⟨rfl, hb2⟩
        have F2 := (tkE_f w k 2).below hb2
        have HB2 := Lib.hid (below_tr (tkE_below w k 2) hb2)
        clear hb2
        obtain ⟨⟨r0, r1, r2⟩, ⟨t0, t1, t2⟩, rf, tf⟩ := F2.cells
        have rf0 := rf 0
        have rf1 := rf 1
        have rf2 := rf 2
        have tf0 := tf 0
        have tf1 := tf 1
        have tf2 := tf 2
        clear rf tf
        clear F2
        go_wp2
        refine bodyPost_ret (v := .tuple #[.agg #[.int .i64 2, .string ⟨#[]⟩, .int .i64 k], .int .i64 0]) (by simp [results, Tryz.results103, go_sem, r0, r1, r2]) rfl ?_
        refine ⟨?_, .inr ⟨Htk.out, _, _, rfl⟩⟩
        repeat (refine Below.setCell ?_ (by first | exact Nat.le_refl _ | exact Nat.le_succ _) _)
        exact HB2.out
      · rw [if_neg hz0] at Htk
        have hme : ((z : Int) == 0) = false := by simp; omega
        clear hz0
        go_enter Tryz.func103, Tryz.ntmps103
        go_wp2_with fail
        rw [← (HE.out 2).out]
        refine (ht _).mono ?_
        rintro e w2 ⟨rfl, hb2⟩
        have F2 := (tkE_f w k 2).below hb2
        have HB2 := Lib.hid (below_tr (tkE_below w k 2) hb2)
        clear hb2
        obtain ⟨⟨r0, r1, r2⟩, ⟨t0, t1, t2⟩, rf, tf⟩ := F2.cells
        have rf0 := rf 0
        have rf1 := rf 1
        have rf2 := rf 2
        have tf0 := tf 0
        have tf1 := tf 1
        have tf2 := tf 2
        clear rf tf
        clear F2
        go_wp2
        refine bodyPost_ret (v := .tuple #[.agg #[.int .i64 2, .string xv, .int .i64 k], .int .i64 (2 + (z : Int))]) (by simp [results, Tryz.results103, go_sem, r0, r1, r2]) rfl ?_
        refine ⟨?_, .inl ⟨2, 2 + z, xv, Htk.out, by congr 3⟩⟩
        repeat (refine Below.setCell ?_ (by first | exact Nat.le_refl _ | exact Nat.le_succ _) _)
        exact HB2.out
    have q95 := h
    clear h
    by_cases h : bn s k = 94 ∧ bn s (k + 1) = 94
    · obtain ⟨h, h94⟩ := h
      have Htk : Hid (tkL (from_ s k) = some (5, ⟨#[]⟩, 2)) := by
        show _ = _; unfold tkL; rw [hb0, hb1, if_neg (by omega), if_neg (by omega), if_neg (by omega), if_neg (by omega), if_pos ⟨h, h94⟩]
      have e60 : ((bn s k : Int) == 60) = false := by simp; omega
      have e34 : ((bn s k : Int) == 34) = false := by simp; omega
      have e95 : ((bn s k : Int) == 95) = false := by simp; omega
      have e64 : ((bn s k : Int) == 64) = false := by simp; omega
      have e94 : ((bn s k : Int) == 94) = true := by rw [h]; rfl
      have e46 : ((bn s k : Int) == 46) = false := by simp; omega
      have e94b : ((bn s (k + 1) : Int) == 94) = true := by rw [h94]; rfl
      clear q60 q34 q64 q46 q95 hfl hb0 hb1 h h94
      have F2 := tkE_f w k 5
      have HB2 := Lib.hid (tkE_below w k 5)
      go_enter Tryz.func103, Tryz.ntmps103
      go_upto_region 26 with (fail)
      rw [← (HE.out 5).out]
      obtain ⟨w2, hw2⟩ : ∃ w2, tkE w k 5 = w2 := ⟨_, rfl⟩
      rw [hw2] at F2 HB2 ⊢
      clear hw2
      obtain ⟨⟨r0, r1, r2⟩, ⟨t0, t1, t2⟩, rf, tf⟩ := F2.cells
      have rf0 := rf 0
      have rf1 := rf 1
      have rf2 := rf 2
      have tf0 := tf 0
      have tf1 := tf 1
      have tf2 := tf 2
      clear rf tf
      clear F2
      go_wp2
      refine bodyPost_ret (v := .tuple #[.agg #[.int .i64 5, .string ⟨#[]⟩, .int .i64 k], .int .i64 2]) (by simp [results, Tryz.results103, go_sem, r0, r1, r2]) rfl ?_
      refine ⟨?_, .inl ⟨5, 2, ⟨#[]⟩, Htk.out, rfl⟩⟩
      repeat (refine Below.setCell ?_ (by first | exact Nat.le_refl _ | exact Nat.le_succ _) _)
      exact HB2.out
    have q94 := h
    clear h
    by_cases h : bn s k = 95
    · have h2 : bn s (k + 1) ≠ 58 := fun e => q95 ⟨h, e⟩
      have Htk : Hid (tkL (from_ s k) = none) := by
        show _ = _; unfold tkL
        rw [hb0, hb1]
        rw [if_neg (by omega), if_neg (by omega), if_neg (by omega), if_neg (by omega), if_neg (by omega), if_neg (by omega)]
      have e60 : ((bn s k : Int) == 60) = false := by simp; omega
      have e34 : ((bn s k : Int) == 34) = false := by simp; omega
      have e95 : ((bn s k : Int) == 95) = true := by rw [h]; rfl
      have e64 : ((bn s k : Int) == 64) = false := by simp; omega
      have e94 : ((bn s k : Int) == 94) = false := by simp; omega
      have e46 : ((bn s k : Int) == 46) = false := by simp; omega
      have eb : ((bn s (k + 1) : Int) == 58) = false := by simp; omega
      have F2 := tkE_f w k 0
      have HB2 := Lib.hid (tkE_below w k 0)
      clear hb0 hb1 hfl q60 q34 q64 q46 q95 q94 h h2
      go_enter Tryz.func103, Tryz.ntmps103
      go_upto_region 26 with (fail)
      rw [← (HE.out 0).out]
      obtain ⟨w2, hw2⟩ : ∃ w2, tkE w k 0 = w2 := ⟨_, rfl⟩
      rw [hw2] at F2 HB2 ⊢
      clear hw2
      obtain ⟨⟨r0, r1, r2⟩, ⟨t0, t1, t2⟩, rf, tf⟩ := F2.cells
      have rf0 := rf 0
      have rf1 := rf 1
      have rf2 := rf 2
      have tf0 := tf 0
      have tf1 := tf 1
      have tf2 := tf 2
      clear rf tf
      clear F2
      go_wp2
      refine bodyPost_ret (v := .tuple #[.agg #[.int .i64 0, .string ⟨#[]⟩, .int .i64 k], .int .i64 0]) (by simp [results, Tryz.results103, go_sem, r0, r1, r2]) rfl ?_
      refine ⟨?_, .inr ⟨Htk.out, _, _, rfl⟩⟩
      repeat (refine Below.setCell ?_ (by first | exact Nat.le_refl _ | exact Nat.le_succ _) _)
      exact HB2.out
    have p95 := h
    clear h
    by_cases h : bn s k = 94
    · have h2 : bn s (k + 1) ≠ 94 := fun e => q94 ⟨h, e⟩
      have Htk : Hid (tkL (from_ s k) = none) := by
        show _ = _; unfold tkL
        rw [hb0, hb1]
        rw [if_neg (by omega), if_neg (by omega), if_neg (by omega), if_neg (by omega), if_neg (by omega), if_neg (by omega)]
      have e60 : ((bn s k : Int) == 60) = false := by simp; omega
      have e34 : ((bn s k : Int) == 34) = false := by simp; omega
      have e95 : ((bn s k : Int) == 95) = false := by simp; omega
      have e64 : ((bn s k : Int) == 64) = false := by simp; omega
      have e94 : ((bn s k : Int) == 94) = true := by rw [h]; rfl
      have e46 : ((bn s k : Int) == 46) = false := by simp; omega
      have eb : ((bn s (k + 1) : Int) == 94) = false := by simp; omega
      have F2 := tkE_f w k 0
      have HB2 := Lib.hid (tkE_below w k 0)
      clear hb0 hb1 hfl q60 q34 q64 q46 q95 q94 h h2 p95
      go_enter Tryz.func103, Tryz.ntmps103
      go_upto_region 26 with (fail)
      rw [← (HE.out 0).out]
      obtain ⟨w2, hw2⟩ : ∃ w2, tkE w k 0 = w2 := ⟨_, rfl⟩
      rw [hw2] at F2 HB2 ⊢
      clear hw2
      obtain ⟨⟨r0, r1, r2⟩, ⟨t0, t1, t2⟩, rf, tf⟩ := F2.cells
      have rf0 := rf 0
      have rf1 := rf 1
      have rf2 := rf 2
      have tf0 := tf 0
      have tf1 := tf 1
      have tf2 := tf 2
      clear rf tf
      clear F2
      go_wp2
      refine bodyPost_ret (v := .tuple #[.agg #[.int .i64 0, .string ⟨#[]⟩, .int .i64 k], .int .i64 0]) (by simp [results, Tryz.results103, go_sem, r0, r1, r2]) rfl ?_
      refine ⟨?_, .inr ⟨Htk.out, _, _, rfl⟩⟩
      repeat (refine Below.setCell ?_ (by first | exact Nat.le_refl _ | exact Nat.le_succ _) _)
      exact HB2.out
    have p94 := h
    clear h
    have Htk : Hid (tkL (from_ s k) = none) := by
      show _ = _; unfold tkL
      rw [hb0, hb1]
      rw [if_neg (by omega), if_neg (by omega), if_neg (by omega), if_neg (by omega), if_neg (by omega), if_neg (by omega)]
    have e60 : ((bn s k : Int) == 60) = false := by simp; omega
    have e34 : ((bn s k : Int) == 34) = false := by simp; omega
    have e95 : ((bn s k : Int) == 95) = false := by simp; omega
    have e64 : ((bn s k : Int) == 64) = false := by simp; omega
    have e94 : ((bn s k : Int) == 94) = false := by simp; omega
    have e46 : ((bn s k : Int) == 46) = false := by simp; omega
    have F2 := tkE_f w k 0
    have HB2 := Lib.hid (tkE_below w k 0)
    clear hb0 hb1 hfl q60 q34 q64 q46 q95 q94 p95 p94
    go_enter Tryz.func103, Tryz.ntmps103
    go_upto_region 26 with (fail)
    rw [← (HE.out 0).out]
    obtain ⟨w2, hw2⟩ : ∃ w2, tkE w k 0 = w2 := ⟨_, rfl⟩
    rw [hw2] at F2 HB2 ⊢
    clear hw2
    obtain ⟨⟨r0, r1, r2⟩, ⟨t0, t1, t2⟩, rf, tf⟩ := F2.cells
    have rf0 := rf 0
    have rf1 := rf 1
    have rf2 := rf 2
    have tf0 := tf 0
    have tf1 := tf 1
    have tf2 := tf 2
    clear rf tf
    clear F2
    go_wp2
    refine bodyPost_ret (v := .tuple #[.agg #[.int .i64 0, .string ⟨#[]⟩, .int .i64 k], .int .i64 0]) (by simp [results, Tryz.results103, go_sem, r0, r1, r2]) rfl ?_
    refine ⟨?_, .inr ⟨Htk.out, _, _, rfl⟩⟩
    repeat (refine Below.setCell ?_ (by first | exact Nat.le_refl _ | exact Nat.le_succ _) _)
    exact HB2.out
  · have hd : decide ((k : Int) + 1 < s.size) = false := by simp; omega
    have h1 : bn s (k + 1) = 0 := by
      rw [← hb1]; unfold c1
      rw [List.getD_eq_getElem?_getD, List.getElem?_eq_none (by omega)]; rfl
    by_cases h : bn s k = 95
    · have Htk : Hid (tkL (from_ s k) = none) := by
        show _ = _; unfold tkL
        rw [hb0, hb1]
        rw [if_neg (by omega), if_neg (by omega), if_neg (by omega), if_neg (by omega), if_neg (by omega), if_neg (by omega)]
      have e60 : ((bn s k : Int) == 60) = false := by simp; omega
      have e34 : ((bn s k : Int) == 34) = false := by simp; omega
      have e95 : ((bn s k : Int) == 95) = true := by rw [h]; rfl
      have e64 : ((bn s k : Int) == 64) = false := by simp; omega
      have e94 : ((bn s k : Int) == 94) = false := by simp; omega
      have e46 : ((bn s k : Int) == 46) = false := by simp; omega
      have F2 := tkE_f w k 0
      have HB2 := Lib.hid (tkE_below w k 0)
      clear hb0 hb1 hfl q60 q34 q64 q46 h h1
      go_enter Tryz.func103, Tryz.ntmps103
      go_upto_region 26 with (fail)
      rw [← (HE.out 0).out]
      obtain ⟨w2, hw2⟩ : ∃ w2, tkE w k 0 = w2 := ⟨_, rfl⟩
      rw [hw2] at F2 HB2 ⊢
      clear hw2
      obtain ⟨⟨r0, r1, r2⟩, ⟨t0, t1, t2⟩, rf, tf⟩ := F2.cells
      have rf0 := rf 0
      have rf1 := rf 1
      have rf2 := rf 2
      have tf0 := tf 0
      have tf1 := tf 1
      have tf2 := tf 2
      clear rf tf
      clear F2
      go_wp2
      refine bodyPost_ret (v := .tuple #[.agg #[.int .i64 0, .string ⟨#[]⟩, .int .i64 k], .int .i64 0]) (by simp [results, Tryz.results103, go_sem, r0, r1, r2]) rfl ?_
      refine ⟨?_, .inr ⟨Htk.out, _, _, rfl⟩⟩
      repeat (refine Below.setCell ?_ (by first | exact Nat.le_refl _ | exact Nat.le_succ _) _)
      exact HB2.out
    have p95 := h
    clear h
    by_cases h : bn s k = 94
    · have Htk : Hid (tkL (from_ s k) = none) := by
        show _ = _; unfold tkL
        rw [hb0, hb1]
        rw [if_neg (by omega), if_neg (by omega), if_neg (by omega), if_neg (by omega), if_neg (by omega), if_neg (by omega)]
      have e60 : ((bn s k : Int) == 60) = false := by simp; omega
      have e34 : ((bn s k : Int) == 34) = false := by simp; omega
      have e95 : ((bn s k : Int) == 95) = false := by simp; omega
      have e64 : ((bn s k : Int) == 64) = false := by simp; omega
      have e94 : ((bn s k : Int) == 94) = true := by rw [h]; rfl
      have e46 : ((bn s k : Int) == 46) = false := by simp; omega
      have F2 := tkE_f w k 0
      have HB2 := Lib.hid (tkE_below w k 0)
      clear hb0 hb1 hfl q60 q34 q64 q46 h h1 p95
      go_enter Tryz.func103, Tryz.ntmps103
      go_upto_region 26 with (fail)
      rw [← (HE.out 0).out]
      obtain ⟨w2, hw2⟩ : ∃ w2, tkE w k 0 = w2 := ⟨_, rfl⟩
      rw [hw2] at F2 HB2 ⊢
      clear hw2
      obtain ⟨⟨r0, r1, r2⟩, ⟨t0, t1, t2⟩, rf, tf⟩ := F2.cells
      have rf0 := rf 0
      have rf1 := rf 1
      have rf2 := rf 2
      have tf0 := tf 0
      have tf1 := tf 1
      have tf2 := tf 2
      clear rf tf
      clear F2
      go_wp2
      refine bodyPost_ret (v := .tuple #[.agg #[.int .i64 0, .string ⟨#[]⟩, .int .i64 k], .int .i64 0]) (by simp [results, Tryz.results103, go_sem, r0, r1, r2]) rfl ?_
      refine ⟨?_, .inr ⟨Htk.out, _, _, rfl⟩⟩
      repeat (refine Below.setCell ?_ (by first | exact Nat.le_refl _ | exact Nat.le_succ _) _)
      exact HB2.out
    have p94 := h
    clear h
    have Htk : Hid (tkL (from_ s k) = none) := by
      show _ = _; unfold tkL
      rw [hb0, hb1]
      rw [if_neg (by omega), if_neg (by omega), if_neg (by omega), if_neg (by omega), if_neg (by omega), if_neg (by omega)]
    have e60 : ((bn s k : Int) == 60) = false := by simp; omega
    have e34 : ((bn s k : Int) == 34) = false := by simp; omega
    have e95 : ((bn s k : Int) == 95) = false := by simp; omega
    have e64 : ((bn s k : Int) == 64) = false := by simp; omega
    have e94 : ((bn s k : Int) == 94) = false := by simp; omega
    have e46 : ((bn s k : Int) == 46) = false := by simp; omega
    have F2 := tkE_f w k 0
    have HB2 := Lib.hid (tkE_below w k 0)
    clear hb0 hb1 hfl q60 q34 q64 q46 p95 p94 h1
    go_enter Tryz.func103, Tryz.ntmps103
    go_upto_region 26 with (fail)
    rw [← (HE.out 0).out]
    obtain ⟨w2, hw2⟩ : ∃ w2, tkE w k 0 = w2 := ⟨_, rfl⟩
    rw [hw2] at F2 HB2 ⊢
    clear hw2
    obtain ⟨⟨r0, r1, r2⟩, ⟨t0, t1, t2⟩, rf, tf⟩ := F2.cells
    have rf0 := rf 0
    have rf1 := rf 1
    have rf2 := rf 2
    have tf0 := tf 0
    have tf1 := tf 1
    have tf2 := tf 2
    clear rf tf
    clear F2
    go_wp2
    refine bodyPost_ret (v := .tuple #[.agg #[.int .i64 0, .string ⟨#[]⟩, .int .i64 k], .int .i64 0]) (by simp [results, Tryz.results103, go_sem, r0, r1, r2]) rfl ?_
    refine ⟨?_, .inr ⟨Htk.out, _, _, rfl⟩⟩
    repeat (refine Below.setCell ?_ (by first | exact Nat.le_refl _ | exact Nat.le_succ _) _)
    exact HB2.out
end Go.Proofs.YtffpgandgajihaaGreatDoor
