/- Terms by value, opened, with what the reach says of their sizes. Terms that have a text. Shown terms are read as themselves, plainly: alone, and in a line. -/
import Derived.Test.YtffpgandgajihaaGreatDoorJRngSt
import Derived.SizedLaws
import Derived.Lib.SmallJoins
import Derived.Test.YtffpgandgajihaaGreatDoorJR8e
import Derived.Test.YtffpgandgajihaaGreatDoorJLaw10a
namespace Go.Proofs.YtffpgandgajihaaGreatDoor
open Go Go.ChangeShapes Go.WideShapes Go.ChangeAt Go.RowKit Go.Lib Go.Joins Go.Deep

section
variable {H : Type} {enc : TypeId × Value → H}
theorem termFields : ∃ f0 f1 f2 f3 : Field, Tryz.prog.underlying 35 = some (.struct #[f0, f1, f2, f3]) ∧ oneCellFields Tryz.prog #[f0, f1, f2, f3] = true ∧ Tryz.prog.cellsOf 35 = 4 ∧
    f0.type = 33 ∧ f1.type = 9 ∧ f2.type = 9 ∧ f3.type = 9 :=
  ⟨_, _, _, _, Tryz.underlying35, by kernel_rfl, by kernel_rfl, rfl, rfl, rfl, rfl⟩
def termD (k : Int) (x l y : ByteArray) : DataW H := .agg [.lit (.int .i64 k), .lit (.string x.data.toList), .lit (.string l.data.toList), .lit (.string y.data.toList)]
set_option maxRecDepth 20000 in
theorem open_term {r : Reach} {b0 : Nat} {w : World} {sp : Nat → Bool} {v : Value} {d : DataW H} {ps : List MemPlace} (hv : Value.okWide Tryz.prog w r b0 35 v) (hd : DataW.Trod enc Tryz.prog w 0 sp true 35 v d ps) :
    ∃ (k : Int) (x l y : ByteArray), v = .agg #[.int .i64 k, .string x, .string l, .string y] ∧ d = termD k x l y ∧ ps = [] := by
  obtain ⟨f0, f1, f2, f3, hu, ho, hc, t0, t1, t2, t3⟩ := termFields
  obtain ⟨v0, v1, v2, v3, y0, y1, y2, y3, n, rfl, rfl, rfl, h0, h1, h2, h3⟩ := open_agg4 hu ho hc hv hd
  rw [t0] at h0; rw [t1] at h1; rw [t2] at h2; rw [t3] at h3
  obtain ⟨k, e0, rfl, _⟩ := DataW.trod_int Tryz.underlying33 h0
  obtain ⟨x, e1, rfl, _⟩ := DataW.trod_string Tryz.underlying9 h1
  obtain ⟨l, e2, rfl, _⟩ := DataW.trod_string Tryz.underlying9 h2
  obtain ⟨y, e3, rfl, _⟩ := DataW.trod_string Tryz.underlying9 h3
  injection e0 with e0; injection e1 with e1; injection e2 with e2; injection e3 with e3
  subst e0 e1 e2 e3
  exact ⟨k, x, l, y, rfl, rfl, rfl⟩
theorem term_sized3 {ts : List TypeId} {ds : List (DataW H)} {j : Nat} {k : Int} {x l y : ByteArray} (hreach : (DataW.weightsEach Tryz.prog ts ds).all (· ≤ reachBytes) = true) (htj : ts[j]? = some 35) (hdj : ds[j]? = some (termD k x l y)) :
    x.size ≤ 281474976710656 ∧ l.size ≤ 281474976710656 ∧ y.size ≤ 281474976710656 := by
  have key : ∀ s : ByteArray, (s = x ∨ s = l ∨ s = y) → s.size ≤ 281474976710656 := by
    intro s hs
    have h := DataW.weights_mem_each (P := Tryz.prog) htj hdj s.data.toList.length (by
      obtain ⟨f0, f1, f2, f3, hu, _, _, t0, t1, t2, t3⟩ := termFields
      rcases hs with rfl | rfl | rfl <;> simp [termD, DataW.weights, hu, DataW.weightsEach])
    have h1 := List.all_eq_true.1 hreach _ h
    have h2 := reachBytes_lt
    have h3 := size_toList s
    simp only [decide_eq_true_eq] at h1
    omega
  exact ⟨key x (.inl rfl), key l (.inr (.inl rfl)), key y (.inr (.inr rfl))⟩
end
end Go.Proofs.YtffpgandgajihaaGreatDoor
namespace Go.Proofs.YtffpgandgajihaaGreatDoor
open Go Go.RowKit Um Fm Tx
/-- A term that has a text. -/
def hasT (t : Tm) : Bool := rightB t && decide ((textL t).length ≤ 4096)
theorem show_yes {t : Tm} (h : hasT t = true) : showP t = (mkS (textL t), 0) := by
  unfold hasT at h
  rw [Bool.and_eq_true, decide_eq_true_iff] at h
  unfold showP
  rw [h.1, if_pos rfl, if_neg (by omega)]
theorem show_no {t : Tm} (h : hasT t = false) : (showP t).2 = 2 ∨ (showP t).2 = 3 := by
  unfold showP
  cases hr : rightB t
  · left; rfl
  · right
    unfold hasT at h
    rw [hr, Bool.true_and, decide_eq_false_iff_not] at h
    rw [if_pos rfl, if_pos (by omega)]
theorem hasT_right {t : Tm} (h : hasT t = true) : rightB t = true ∧ (textL t).length ≤ 4096 := by
  unfold hasT at h
  rw [Bool.and_eq_true, decide_eq_true_iff] at h
  exact h
set_option maxRecDepth 100000 in
set_option maxHeartbeats 2000000 in
theorem run_neTm (a b : Tm) (W : World) : (binOp .neq 35 (.agg #[.int .i64 a.k, .string a.x, .string a.l, .string a.y]) (.agg #[.int .i64 b.k, .string b.x, .string b.l, .string b.y])).run Tryz.prog W = .ok (.bool (!sameTm a b)) W := by
  have h0 := Tryz.underlying35
  have h1 := Tryz.underlying33
  have h2 := Tryz.underlying9
  unfold sameTm
  simp only [go_sem, h0]
  cases e1 : (a.k == b.k)
  · simp [go_sem, h0, h1, h2, e1]
  cases e2 : (a.x.toList == b.x.toList)
  · simp [go_sem, h0, h1, h2, e1, e2]
  cases e3 : (a.l.toList == b.l.toList)
  · simp [go_sem, h0, h1, h2, e1, e2, e3]
  cases e4 : (a.y.toList == b.y.toList)
  · simp [go_sem, h0, h1, h2, e1, e2, e3, e4]
  simp [go_sem, h0, h1, h2, e1, e2, e3, e4]
end Go.Proofs.YtffpgandgajihaaGreatDoor
namespace Go.Proofs.YtffpgandgajihaaGreatDoor
open Go Go.RowKit Um Fm Lx Tx

theorem vld_asc (l : List UInt8) (h : l.all (fun c => decide (c.toNat < 128)) = true) : vld l := vld_ascii' l h
theorem vld_iri {x : ByteArray} (h : validB x = true) : vld (60 :: (iriL x.data.toList ++ [62])) := by
  have h1 := (tkL_spec (tk_iri h [])).2.2.1
  rwa [List.take_of_length_le (by simp)] at h1
theorem vld_lit {x : ByteArray} (h : validB x = true) : vld (34 :: (litL x.data.toList ++ [34])) := by
  have h1 := (tkL_spec (tk_lit h [])).2.2.1
  rwa [List.take_of_length_le (by simp)] at h1
/-- A right term's text is one. -/
theorem vld_text {t : Tm} (h : rightB t = true) : vld (textL t) := by
  obtain ⟨k, x, l, y⟩ := t
  rcases right_cases h with ⟨rfl, rfl, rfl, hx⟩ | ⟨rfl, rfl, rfl, hx⟩ | ⟨rfl, rfl, hx, hl⟩ | ⟨rfl, rfl, -, hx, hy⟩
  · exact vld_iri hx
  · have e : textL ⟨2, x, ⟨#[]⟩, ⟨#[]⟩⟩ = [95, 58] ++ x.data.toList := rfl
    rw [e]
    refine vld_app (vld_asc _ rfl) ?_
    unfold labelB at hx
    rw [Bool.and_eq_true] at hx
    have h1 := hx.2
    rw [beq_iff_eq, ← size_toList] at h1
    have h2 : label x.data.toList = x.data.toList.length := Int.ofNat.inj h1
    have h3 := (label_vld x.data.toList).1
    rwa [h2, List.take_length] at h3
  · by_cases h0 : l.data.toList = []
    · have e : textL ⟨3, x, l, ⟨#[]⟩⟩ = 34 :: (litL x.data.toList ++ [34]) := by unfold textL; rw [if_neg (by simp), if_neg (by simp), if_neg (by simp), if_pos h0]
      rw [e]
      exact vld_lit hx
    · have e : textL ⟨3, x, l, ⟨#[]⟩⟩ = (34 :: (litL x.data.toList ++ [34])) ++ ([64] ++ l.data.toList) := by unfold textL; rw [if_neg (by simp), if_neg (by simp), if_neg (by simp), if_neg h0]; simp
      rw [e]
      refine vld_app (vld_lit hx) (vld_app (vld_asc _ rfl) ?_)
      have h1 := (tagB_iff.1 hl).1
      have h3 := (tag_vld l.data.toList).1
      rwa [h1, List.take_length] at h3
  · have e : textL ⟨4, x, ⟨#[]⟩, y⟩ = (34 :: (litL x.data.toList ++ [34])) ++ ([94, 94] ++ (60 :: (iriL y.data.toList ++ [62]))) := by
      have e0 : textL ⟨4, x, ⟨#[]⟩, y⟩ = 34 :: (litL x.data.toList ++ 34 :: 94 :: 94 :: 60 :: (iriL y.data.toList ++ [62])) := rfl
      rw [e0]; simp
    rw [e]
    exact vld_app (vld_lit hx) (vld_app (vld_asc _ rfl) (vld_iri hy))
theorem not_long {t : Tm} (h : hasT t = true) : longB t = false := by
  unfold longB
  rw [show_yes h]
  rfl
theorem read_toks {l : List UInt8} {ts : List LTok} (hv : vld l) (h : lnL l 0 = .ok ts) : readL false objC zTm l = told zTm (objC l.length ⟨ts, none⟩) := by
  unfold readL
  rw [lineL_ok hv h, if_pos rfl, if_neg (fun x => by cases x.1)]
theorem term_toks {l : List UInt8} {t : Tm} {p : Nat} (hv : vld l) (hT : hasT t = true) (h : lnL l 0 = .ok (tokT t p)) : termL l = (t, 0, 0) := by
  have h1 := obj_tok (hasT_right hT).1 l.length p (r := []) ⟨by decide, by decide⟩
  rw [List.append_nil] at h1
  unfold termL
  rw [read_toks hv h, h1, told_ok rfl rfl, if_pos rfl, if_neg (by rw [not_long hT]; decide)]
theorem lnL_nil (p : Nat) : lnL [] p = .ok [] := lnL_stop p (.inl rfl)
/-- A shown term, alone. -/
theorem term_text {t : Tm} (hT : hasT t = true) : termL (textL t) = (t, 0, 0) := by
  refine term_toks (p := 0) (vld_text (hasT_right hT).1) hT ?_
  have := lnL_text (hasT_right hT).1 stp_nil 0
  rw [List.append_nil, lnL_nil] at this
  rw [this]
  show Except.ok (tokT t 0 ++ []) = _
  rw [List.append_nil]
/-- .. with blanks and a remark. -/
theorem term_blank {t : Tm} (hT : hasT t = true) : termL (9 :: (textL t ++ [32, 35, 32, 60])) = (t, 0, 0) := by
  refine term_toks (p := 1) ?_ hT ?_
  · exact vld_app (a := [9]) (vld_asc _ rfl) (vld_app (vld_text (hasT_right hT).1) (vld_asc _ rfl))
  · rw [lnL_blank 0 (by simp) (.inr rfl), List.drop_succ_cons, List.drop_zero, lnL_text (hasT_right hT).1 (stp_blank _) 1, lnL_blank _ (by simp) (.inl rfl), List.drop_succ_cons, List.drop_zero, lnL_stop _ (.inr rfl)]
    show Except.ok (tokT t 1 ++ []) = _
    rw [List.append_nil]
/-- What one reads is right, and has a text. -/
theorem term_right {l : List UInt8} (hl : l.length ≤ 100000) (h : (termL l).2.2 = 0) : hasT (termL l).1 = true ∧ (termL l).2.1 = 0 := by
  obtain ⟨-, hg, -, -⟩ := line_toks l hl
  unfold termL at h ⊢
  by_cases he : (readL false objC zTm l).2.2.2 = 0
  · rw [if_pos he] at h ⊢
    by_cases hq : longB (readL false objC zTm l).1 = true
    · rw [if_pos hq] at h; cases h
    · rw [if_neg hq]
      refine ⟨?_, rfl⟩
      have hr : rightB (readL false objC zTm l).1 = true := by
        unfold readL at he ⊢
        by_cases h1 : (lineL l).2.2 = 0
        · rw [if_pos h1, if_neg (fun x => by cases x.1)] at he ⊢
          cases hb : (objC l.length ⟨(lineL l).1, none⟩).2.bad with
          | some p => rw [told_bad hb] at he; cases he
          | none =>
            cases hr : (objC l.length ⟨(lineL l).1, none⟩).2.r with
            | cons t r => rw [told_more hb hr] at he; cases he
            | nil =>
              rw [told_ok hb hr]
              exact (obj_right hg hb).1
        · rw [if_neg h1] at he
          exact absurd he h1
      unfold hasT
      rw [hr, Bool.true_and, decide_eq_true_iff]
      rcases Nat.lt_or_ge 4096 (textL (readL false objC zTm l).1).length with h4 | h4
      · exfalso
        apply hq
        unfold longB showP
        rw [hr, if_pos rfl, if_pos h4]
        rfl
      · exact h4
  · rw [if_neg he] at h
    exact absurd h he
/-- Places within a line. -/
def Inl (n : Nat) (s : Ls) : Prop := (∀ t ∈ s.r, t.p ≤ n) ∧ ∀ p, s.bad = some p → p ≤ n
theorem must_inl {ks : List Nat} {n : Nat} {s : Ls} (h : Inl n s) : Inl n (mustP ks n s).2 := by
  obtain ⟨r, b⟩ := s
  unfold mustP
  cases b with
  | some p => exact h
  | none =>
    cases r with
    | nil => exact ⟨h.1, fun p hp => by injection hp with hp; omega⟩
    | cons t r =>
      dsimp only
      split
      · exact ⟨fun u hu => h.1 u (by simp [hu]), fun p hp => (by cases hp)⟩
      · exact ⟨h.1, fun p hp => by injection hp with hp; rw [← hp]; exact h.1 t (by simp)⟩
theorem obj_inl {n : Nat} {s : Ls} (h : Inl n s) : Inl n (objC n s).2 := by
  have h1 := must_inl (ks := [1, 2, 3]) h
  unfold objC
  dsimp only
  split
  · split
    · exact must_inl h1
    · split
      · exact must_inl (must_inl h1)
      · exact h1
  · exact h1
theorem trip_inl {n : Nat} {s : Ls} (h : Inl n s) : Inl n (tripC n s).2 := must_inl (obj_inl (must_inl (must_inl h)))
theorem stop_inl {n : Nat} {s : Ls} (h : Inl n s) : Inl n (stopP s) := by
  obtain ⟨r, b⟩ := s
  unfold stopP
  cases b with
  | some p => exact h
  | none =>
    cases r with
    | nil => exact h
    | cons t r => exact ⟨h.1, fun p hp => by injection hp with hp; rw [← hp]; exact h.1 t (by simp)⟩
theorem told_at {α : Type} {z : α} {o : α × Ls} {n : Nat} (h : Inl n o.2) : (told z o).2.2.1 ≤ n := by
  unfold told
  cases hb : (stopP o.2).bad with
  | some p => exact (stop_inl h).2 p hb
  | none => exact Nat.zero_le _
theorem toks_inl (l : List UInt8) (hl : l.length ≤ 100000) : Inl l.length ⟨(lineL l).1, none⟩ := ⟨(line_toks l hl).2.2.2, fun p hp => by cases hp⟩
theorem line_at (l : List UInt8) : (lineL l).2.1 ≤ l.length := by
  rcases lineL_cases l with ⟨ts, -, -, e⟩ | ⟨-, -, h⟩
  · rw [e]; exact Nat.zero_le _
  · exact h
/-- Where it is none, nothing is told but a place in it. -/
theorem term_none {l : List UInt8} (hl : l.length ≤ 100000) (h : (termL l).2.2 ≠ 0) : (termL l).1 = zTm ∧ (termL l).2.1 ≤ l.length := by
  unfold termL at h ⊢
  by_cases he : (readL false objC zTm l).2.2.2 = 0
  · rw [if_pos he] at h ⊢
    by_cases hq : longB (readL false objC zTm l).1 = true
    · rw [if_pos hq]; exact ⟨rfl, Nat.zero_le _⟩
    · rw [if_neg hq] at h; exact absurd rfl h
  · rw [if_neg he]
    refine ⟨rfl, ?_⟩
    unfold readL
    by_cases h1 : (lineL l).2.2 = 0
    · rw [if_pos h1, if_neg (fun x => by cases x.1)]
      exact told_at (obj_inl (toks_inl l hl))
    · rw [if_neg h1]; exact line_at l
/-- No end stands in a shown term. -/
theorem enc_no {n : Int} (h : isB n = true) (h1 : n ≠ 10) (h2 : n ≠ 13) : ∀ b ∈ Lib.encodeRune n, b ≠ 10 ∧ b ≠ 13 := by
  obtain ⟨h0, _, hn⟩ := isB_nat h
  intro b hb
  by_cases hl : n < 128
  · rw [enc_low h0 hl, List.mem_singleton] at hb
    subst hb
    have ne : ∀ k : UInt8, (k.toNat : Int) ≠ n → UInt8.ofNat n.toNat ≠ k := fun k hk e => hk (by rw [← e, ofNat_low (by omega), hn])
    exact ⟨ne 10 (by show ((10 : Nat) : Int) ≠ n; omega), ne 13 (by show ((13 : Nat) : Int) ≠ n; omega)⟩
  · have := enc_high (show 128 ≤ n by omega) b hb
    refine ⟨?_, ?_⟩ <;> (rintro rfl; revert this; decide)
theorem hxD_no : ∀ d : Fin 16, hxD d.val ≠ 10 ∧ hxD d.val ≠ 13 := by decide
theorem iriC_no (c : UInt8) : ∀ b ∈ iriC c, b ≠ 10 ∧ b ≠ 13 := by
  intro b hb
  unfold iriC at hb
  have hc := c.toNat_lt
  split at hb
  · have d1 := hxD_no ⟨c.toNat / 16, by omega⟩
    have d2 := hxD_no ⟨c.toNat % 16, by omega⟩
    simp only [List.mem_cons, List.not_mem_nil, or_false] at hb
    rcases hb with rfl | rfl | rfl | rfl | rfl | rfl
    · decide
    · decide
    · decide
    · decide
    · exact d1
    · exact d2
  · rename_i h
    rw [List.mem_singleton] at hb
    subst hb
    refine ⟨?_, ?_⟩ <;> (rintro rfl; exact h (by decide))
theorem iriL_no (l : List UInt8) : ∀ b ∈ iriL l, b ≠ 10 ∧ b ≠ 13 := by
  intro b hb
  unfold iriL at hb
  obtain ⟨c, _, h⟩ := List.mem_flatMap.1 hb
  exact iriC_no c b h
theorem litC_no (c : UInt8) : ∀ b ∈ litC c, b ≠ 10 ∧ b ≠ 13 := by
  intro b hb
  unfold litC at hb
  split at hb
  · simp only [List.mem_cons, List.not_mem_nil, or_false] at hb
    rcases hb with rfl | rfl <;> decide
  split at hb
  · simp only [List.mem_cons, List.not_mem_nil, or_false] at hb
    rcases hb with rfl | rfl <;> decide
  split at hb
  · simp only [List.mem_cons, List.not_mem_nil, or_false] at hb
    rcases hb with rfl | rfl <;> decide
  split at hb
  · simp only [List.mem_cons, List.not_mem_nil, or_false] at hb
    rcases hb with rfl | rfl <;> decide
  · rename_i h3 h4
    rw [List.mem_singleton] at hb
    subst hb
    exact ⟨h3, h4⟩
theorem litL_no (l : List UInt8) : ∀ b ∈ litL l, b ≠ 10 ∧ b ≠ 13 := by
  intro b hb
  unfold litL at hb
  obtain ⟨c, _, h⟩ := List.mem_flatMap.1 hb
  exact litC_no c b h
theorem reach_no {l : List UInt8} {st : Bool} {k b : Nat} (h : Um.Reach l st k b) : ∀ c ∈ l.take k, c ≠ 10 ∧ c ≠ 13 := by
  induction h with
  | start => intro c hc; simp at hc
  | @step st k b _ hk h0 hm ih =>
    intro c hc
    rw [List.take_add, List.mem_append] at hc
    rcases hc with hc | hc
    · exact ih c hc
    · obtain ⟨e1, -, e3, -, -⟩ := nx_enc (l.drop k) h0
      rw [e3] at hc
      refine enc_no e1 ?_ ?_ c hc
      · intro e
        rw [show (nx (l.drop k)).1 = 10 by omega] at hm
        revert hm
        cases st <;> decide
      · intro e
        rw [show (nx (l.drop k)).1 = 13 by omega] at hm
        revert hm
        cases st <;> decide
theorem label_no {x : ByteArray} (h : labelB x = true) : ∀ c ∈ x.data.toList, c ≠ 10 ∧ c ≠ 13 := by
  unfold labelB at h
  rw [Bool.and_eq_true] at h
  have h1 := h.2
  rw [beq_iff_eq, ← size_toList] at h1
  have h2 : label x.data.toList = x.data.toList.length := Int.ofNat.inj h1
  obtain ⟨st, hr⟩ := label_reach x.data.toList
  have := reach_no hr
  rwa [h2, List.take_length] at this
theorem tag_no {l : ByteArray} (h : tagB l = true) : ∀ c ∈ l.data.toList, c ≠ 10 ∧ c ≠ 13 := by
  intro c hc
  obtain ⟨i, hi, rfl⟩ := List.mem_iff_getElem.1 hc
  have h1 := (tag_reach l.data.toList).bytes i (by rw [(tagB_iff.1 h).1]; exact hi)
  rw [List.getD_eq_getElem?_getD, List.getElem?_eq_getElem hi, Option.getD_some] at h1
  refine ⟨?_, ?_⟩ <;> (intro e; rw [e] at h1; revert h1; decide)
theorem text_no {t : Tm} (h : rightB t = true) : ∀ b ∈ textL t, b ≠ 10 ∧ b ≠ 13 := by
  obtain ⟨k, x, l, y⟩ := t
  rcases right_cases h with ⟨rfl, rfl, rfl, hx⟩ | ⟨rfl, rfl, rfl, hx⟩ | ⟨rfl, rfl, hx, hl⟩ | ⟨rfl, rfl, -, hx, hy⟩
  · have e : textL ⟨1, x, ⟨#[]⟩, ⟨#[]⟩⟩ = 60 :: (iriL x.data.toList ++ [62]) := rfl
    rw [e]
    intro b hb
    simp only [List.mem_cons, List.mem_append, List.not_mem_nil, or_false] at hb
    rcases hb with rfl | hb | rfl
    · decide
    · exact iriL_no _ b hb
    · decide
  · have e : textL ⟨2, x, ⟨#[]⟩, ⟨#[]⟩⟩ = 95 :: 58 :: x.data.toList := rfl
    rw [e]
    intro b hb
    simp only [List.mem_cons] at hb
    rcases hb with rfl | rfl | hb
    · decide
    · decide
    · exact label_no hx b hb
  · by_cases h0 : l.data.toList = []
    · have e : textL ⟨3, x, l, ⟨#[]⟩⟩ = 34 :: (litL x.data.toList ++ [34]) := by unfold textL; rw [if_neg (by simp), if_neg (by simp), if_neg (by simp), if_pos h0]
      rw [e]
      intro b hb
      simp only [List.mem_cons, List.mem_append, List.not_mem_nil, or_false] at hb
      rcases hb with rfl | hb | rfl
      · decide
      · exact litL_no _ b hb
      · decide
    · have e : textL ⟨3, x, l, ⟨#[]⟩⟩ = 34 :: (litL x.data.toList ++ 34 :: 64 :: l.data.toList) := by unfold textL; rw [if_neg (by simp), if_neg (by simp), if_neg (by simp), if_neg h0]
      rw [e]
      intro b hb
      simp only [List.mem_cons, List.mem_append] at hb
      rcases hb with rfl | hb | rfl | rfl | hb
      · decide
      · exact litL_no _ b hb
      · decide
      · decide
      · exact tag_no hl b hb
  · have e : textL ⟨4, x, ⟨#[]⟩, y⟩ = 34 :: (litL x.data.toList ++ 34 :: 94 :: 94 :: 60 :: (iriL y.data.toList ++ [62])) := rfl
    rw [e]
    intro b hb
    simp only [List.mem_cons, List.mem_append, List.not_mem_nil, or_false] at hb
    rcases hb with rfl | hb | rfl | rfl | rfl | rfl | hb | rfl
    · decide
    · exact litL_no _ b hb
    · decide
    · decide
    · decide
    · decide
    · exact iriL_no _ b hb
    · decide
/-- A line made of a shown term. -/
def lineOf (t : Tm) : List UInt8 := [95, 58, 97, 32, 60, 98, 62] ++ (textL t ++ [46])
def tmA2 : Tm := ⟨2, ⟨#[97]⟩, ⟨#[]⟩, ⟨#[]⟩⟩
def tmB1 : Tm := ⟨1, ⟨#[98]⟩, ⟨#[]⟩, ⟨#[]⟩⟩
theorem lnL_lineOf {t : Tm} (h : rightB t = true) : lnL (lineOf t) 0 = .ok ([⟨2, ⟨#[97]⟩, 0⟩, ⟨1, ⟨#[98]⟩, 4⟩] ++ (tokT t 7 ++ [⟨6, ⟨#[]⟩, 7 + (textL t).length⟩])) := by
  have e : lineOf t = 95 :: 58 :: ((⟨#[97]⟩ : ByteArray).data.toList ++ 32 :: 60 :: ([98] ++ 62 :: (textL t ++ [46]))) := rfl
  rw [e, lnL_tok' 0 (tk_label ((stp_blank _).1 _ rfl) (by decide)) (z := 32 :: 60 :: ([98] ++ 62 :: (textL t ++ [46]))) rfl]
  rw [lnL_blank _ (by simp) (.inl rfl), List.drop_succ_cons, List.drop_zero]
  have hb : tkL (60 :: ([98] ++ 62 :: (textL t ++ [46]))) = some (1, ⟨#[98]⟩, 3) := tk_iri (x := ⟨#[98]⟩) (by decide) (textL t ++ [46])
  rw [lnL_tok' _ hb (z := textL t ++ [46]) rfl, lnL_text h stp_dot, lnL_point]
  rfl
theorem par_lineOf {t : Tm} (hT : hasT t = true) : parL (lineOf t) = ([⟨tmA2, tmB1, t⟩], 0, 0, 0) := by
  obtain ⟨hr, hlen⟩ := hasT_right hT
  have hv : vld (lineOf t) := vld_app (vld_asc _ rfl) (vld_app (vld_text hr) (vld_asc _ rfl))
  have hsp : splitL (lineOf t) = [lineOf t] := by
    refine split_flat ?_ (by simp [lineOf])
    intro b hb
    unfold lineOf at hb
    rw [List.mem_append, List.mem_append] at hb
    rcases hb with hb | hb | hb
    · simp only [List.mem_cons, List.not_mem_nil, or_false] at hb
      rcases hb with rfl | rfl | rfl | rfl | rfl | rfl | rfl <;> decide
    · exact text_no hr b hb
    · rw [List.mem_singleton] at hb; subst hb; decide
  have hrow : rowT (lineOf t) = (⟨tmA2, tmB1, t⟩, true, 0, 0) := by
    unfold rowT readL
    rw [lineL_ok hv (lnL_lineOf hr), if_pos rfl, if_neg (fun x => by cases x.2)]
    have ho := obj_tok hr (lineOf t).length 7 (r := [⟨6, ⟨#[]⟩, 7 + (textL t).length⟩]) ⟨by simp [headK], by simp [headK]⟩
    have htr : tripT (lineOf t).length ⟨[⟨2, ⟨#[97]⟩, 0⟩, ⟨1, ⟨#[98]⟩, 4⟩] ++ (tokT t 7 ++ [⟨6, ⟨#[]⟩, 7 + (textL t).length⟩]), none⟩ = (⟨tmA2, tmB1, t⟩, ⟨[], none⟩) := by
      unfold tripT tripC
      have m1 : mustP [1, 2] (lineOf t).length ⟨[⟨2, ⟨#[97]⟩, 0⟩, ⟨1, ⟨#[98]⟩, 4⟩] ++ (tokT t 7 ++ [⟨6, ⟨#[]⟩, 7 + (textL t).length⟩]), none⟩ = (⟨2, ⟨#[97]⟩, 0⟩, ⟨⟨1, ⟨#[98]⟩, 4⟩ :: (tokT t 7 ++ [⟨6, ⟨#[]⟩, 7 + (textL t).length⟩]), none⟩) := rfl
      have m2 : mustP [1] (lineOf t).length ⟨⟨1, ⟨#[98]⟩, 4⟩ :: (tokT t 7 ++ [⟨6, ⟨#[]⟩, 7 + (textL t).length⟩]), none⟩ = (⟨1, ⟨#[98]⟩, 4⟩, ⟨tokT t 7 ++ [⟨6, ⟨#[]⟩, 7 + (textL t).length⟩], none⟩) := rfl
      dsimp only
      rw [m1]
      dsimp only
      rw [m2]
      dsimp only
      rw [ho]
      rfl
    rw [htr, told_ok rfl rfl]
  have hl : longP ⟨tmA2, tmB1, t⟩ = false := by
    have l1 : longB tmA2 = false := by kernel_rfl
    have l2 : longB tmB1 = false := by kernel_rfl
    simp [longP, l1, l2, not_long hT]
  unfold parL
  rw [hsp, goP, hrow, if_neg (by simp), if_pos rfl, if_neg (by rintro ⟨_, _, h⟩; simp only at h; rw [hl] at h; cases h), goP, if_pos rfl]
  rfl
end Go.Proofs.YtffpgandgajihaaGreatDoor
