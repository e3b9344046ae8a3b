/- What tokens tell is right. The program's package lines: read; what it tells, plainly; the term's one. The program's package lines: read at api.Term. -/
import Derived.Test.YtffpgandgajihaaGreatDoorJLnShow
import Derived.Test.YtffpgandgajihaaGreatDoorJLexT
namespace Go.Proofs.YtffpgandgajihaaGreatDoor
open Go Go.RowKit Um Fm Lx Tx

/-- A token whose text is one of its kind. -/
structure TokG (t : LTok) : Prop where
  v : validB t.x = true
  b : t.k = 2 → labelB t.x = true
  g : t.k = 4 → tag t.x.data.toList = t.x.data.toList.length
  g0 : t.k = 4 → t.x.data.toList ≠ []
  k1 : 1 ≤ t.k
  k6 : t.k ≤ 6
theorem tk_tagged {l : List UInt8} {k m : Nat} {x : ByteArray} (e : k = 4) (h : tkL l = some (k, x, m)) : tag x.data.toList = x.data.toList.length ∧ x.data.toList ≠ [] := by
  subst e
  unfold tkL at h
  split at h
  · cases hi : inL false (l.drop 1) with
    | none => rw [hi] at h; cases h
    | some q => rw [hi] at h; simp at h
  split at h
  · cases hi : inL true (l.drop 1) with
    | none => rw [hi] at h; cases h
    | some q => rw [hi] at h; simp at h
  split at h
  · split at h <;> simp at h
  split at h
  · split at h
    · cases h
    · next h0 =>
      simp only [Option.some.injEq, Prod.mk.injEq] at h
      obtain ⟨-, rfl, -⟩ := h
      show tag ((l.drop 1).take (tag (l.drop 1))).toArray.toList = ((l.drop 1).take (tag (l.drop 1))).toArray.toList.length ∧ ((l.drop 1).take (tag (l.drop 1))).toArray.toList ≠ []
      have hle := tag_le (l.drop 1)
      rw [List.toList_toArray, tag_take, List.length_take]
      refine ⟨by omega, fun e => ?_⟩
      have := congrArg List.length e
      rw [List.length_take, List.length_nil] at this
      omega
  split at h
  · simp at h
  split at h
  · simp at h
  · cases h
theorem tk_right {l : List UInt8} {k m : Nat} {x : ByteArray} (h : tkL l = some (k, x, m)) (p : Nat) : TokG ⟨k, x, p⟩ := by
  obtain ⟨-, -, -, -, hv, -, h1, h6⟩ := tkL_spec h
  refine ⟨vld_valid hv, fun e => ?_, fun e => (tk_tagged e h).1, fun e => (tk_tagged e h).2, h1, h6⟩
  · simp only at e
    subst e
    unfold tkL at h
    split at h
    · cases hi : inL false (l.drop 1) with
      | none => rw [hi] at h; cases h
      | some q => rw [hi] at h; simp at h
    split at h
    · cases hi : inL true (l.drop 1) with
      | none => rw [hi] at h; cases h
      | some q => rw [hi] at h; simp at h
    split at h
    · split at h
      · cases h
      · next h0 =>
        simp only [Option.some.injEq, Prod.mk.injEq] at h
        obtain ⟨-, rfl, -⟩ := h
        have hle := label_le (l.drop 2)
        unfold labelB
        rw [Bool.and_eq_true]
        have hl : (mkS ((l.drop 2).take (label (l.drop 2)))).size = label (l.drop 2) := by rw [mkS_size, List.length_take]; omega
        refine ⟨?_, ?_⟩
        · show (!(mkS ((l.drop 2).take (label (l.drop 2)))).toList.isEmpty) = true
          rw [mkS_list]
          cases hx : (l.drop 2).take (label (l.drop 2)) with
          | nil =>
            have := congrArg List.length hx
            rw [List.length_take, List.length_nil] at this
            omega
          | cons _ _ => rfl
        · show ((label (mkS ((l.drop 2).take (label (l.drop 2)))).data.toList : Int) == (mkS ((l.drop 2).take (label (l.drop 2)))).size) = true
          rw [hl]
          show ((label ((l.drop 2).take (label (l.drop 2))).toArray.toList : Int) == _) = true
          rw [List.toList_toArray, label_take]
          simp
    split at h
    · split at h <;> simp at h
    split at h
    · simp at h
    split at h
    · simp at h
    · cases h
theorem ln_right : ∀ (l : List UInt8) (p : Nat) (ts : List LTok), lnL l p = .ok ts → ∀ t ∈ ts, TokG t := by
  refine ln_ind (P := fun l => ∀ (p : Nat) (ts : List LTok), lnL l p = .ok ts → ∀ t ∈ ts, TokG t) ?_ ?_ ?_ ?_
  · intro l h p ts hl
    rw [lnL_stop p h] at hl
    cases hl
    intro t ht; cases ht
  · intro l h0 h ih p ts hl
    rw [lnL_blank p h0 h] at hl
    exact ih _ _ hl
  · intro l h0 h1 h ht p ts hl
    rw [lnL_bad p h0 h1 h ht] at hl
    cases hl
  · intro l k m x ht ih p ts hl
    rw [lnL_tok p ht] at hl
    cases hr : lnL (l.drop m) (p + m) with
    | error e => rw [hr] at hl; cases hl
    | ok us =>
      rw [hr] at hl
      cases hl
      intro t h
      rw [List.mem_cons] at h
      rcases h with rfl | h
      · exact tk_right ht p
      · exact ih _ _ hr t h
theorem span_map (q : Int → Bool) (f : UInt8 → UInt8) (hq : ∀ c : UInt8, q (f c).toNat = q c.toNat) : ∀ l : List UInt8, span q (l.map f) = span q l
  | [] => rfl
  | c :: t => by
    rw [List.map_cons, span, span, hq c, span_map q f hq t]
theorem low_alpha (c : UInt8) : alphaB (lowB c).toNat = alphaB c.toNat := by
  have h := lowB_low c
  have hc := c.toNat_lt
  rw [h]
  unfold alphaB lowI
  simp only [inB]
  split
  · rw [Bool.eq_iff_iff]; simp; omega
  · rfl
theorem low_alnum (c : UInt8) : alnumB (lowB c).toNat = alnumB c.toNat := by
  unfold alnumB
  rw [low_alpha]
  have h := lowB_low c
  have hc := c.toNat_lt
  rw [h]
  unfold alphaB digitB lowI
  simp only [inB]
  split
  · rw [Bool.eq_iff_iff]; simp; omega
  · rfl
theorem tag_lower (l : List UInt8) : tag (l.map lowB) = tag l := by
  have key : ∀ (f n : Nat), tagF f (l.map lowB) n = tagF f l n := by
    intro f
    induction f with
    | zero => intro n; rfl
    | succ f ih =>
      intro n
      unfold tagF
      have e : (0 < n ∧ n < (l.map lowB).length ∧ ((l.map lowB).getD n 0).toNat = 45 ∧ span alnumB ((l.map lowB).drop (n + 1)) ≠ 0) ↔ (0 < n ∧ n < l.length ∧ (l.getD n 0).toNat = 45 ∧ span alnumB (l.drop (n + 1)) ≠ 0) := by
        rw [List.length_map, ← List.map_drop, span_map alnumB lowB low_alnum]
        by_cases hn : n < l.length
        · have e1 : ((l.map lowB).getD n 0).toNat = 45 ↔ (l.getD n 0).toNat = 45 := by
            rw [List.getD_eq_getElem?_getD, List.getElem?_map, List.getD_eq_getElem?_getD, List.getElem?_eq_getElem hn]
            simp only [Option.map_some, Option.getD_some]
            have h := lowB_low l[n]
            have hc := l[n].toNat_lt
            unfold lowI at h
            split at h <;> omega
          rw [e1]
        · simp [hn]
      rw [← List.map_drop, span_map alnumB lowB low_alnum, ih] at *
      by_cases hc : (0 < n ∧ n < l.length ∧ (l.getD n 0).toNat = 45 ∧ span alnumB (l.drop (n + 1)) ≠ 0)
      · rw [if_pos (e.2 hc), if_pos hc]
      · rw [if_neg (fun h => hc (e.1 h)), if_neg hc]
  unfold tag
  rw [List.length_map, span_map alphaB lowB low_alpha, key]
theorem small_lower : ∀ l : List UInt8, smallB (l.map lowB) = true
  | [] => rfl
  | c :: t => by
    unfold smallB
    rw [List.map_cons, List.all_cons, Bool.and_eq_true]
    refine ⟨?_, small_lower t⟩
    have h := lowB_low c
    have hc := c.toNat_lt
    unfold lowI at h
    unfold upB
    split at h <;> simp <;> omega
theorem tag_lowS {x : ByteArray} (h : tag x.data.toList = x.data.toList.length) : tagB (lowS x) = true := by
  rw [tagB_iff]
  show tag (x.data.toList.map lowB).toArray.toList = (x.data.toList.map lowB).toArray.toList.length ∧ smallB (x.data.toList.map lowB).toArray.toList = true
  rw [List.toList_toArray, tag_lower, List.length_map]
  exact ⟨h, small_lower _⟩
theorem emptyB_nil : emptyB (⟨#[]⟩ : ByteArray) = true := (empty_iff _).2 rfl
theorem emptyB_nil2 : emptyB ((⟨#[]⟩ : ByteArray) ++ ⟨#[]⟩) = true := (empty_iff _).2 rfl
theorem right1 {x : ByteArray} (h : validB x = true) : rightB ⟨1, x, ⟨#[]⟩, ⟨#[]⟩⟩ = true := by unfold rightB; rw [if_pos rfl]; simp only; rw [h, emptyB_nil2]; rfl
theorem right2 {x : ByteArray} (h : labelB x = true) : rightB ⟨2, x, ⟨#[]⟩, ⟨#[]⟩⟩ = true := by unfold rightB; rw [if_neg (by simp), if_pos rfl]; simp only; rw [h, emptyB_nil2]; rfl
theorem right3 {x l : ByteArray} (h : validB x = true) (hl : tagB l = true) : rightB ⟨3, x, l, ⟨#[]⟩⟩ = true := by unfold rightB; rw [if_neg (by simp), if_neg (by simp), if_pos rfl]; simp only; rw [h, hl, emptyB_nil]; rfl
theorem tagB_nil : tagB ⟨#[]⟩ = true := by rw [tagB_iff]; exact ⟨rfl, rfl⟩
theorem right_typed {x y : ByteArray} (h : validB x = true) (hy : validB y = true) : rightB (typedT x y) = true := by
  cases hq : (y.toList == xsdL)
  · rw [typed_no hq]
    unfold rightB
    rw [if_neg (by simp), if_neg (by simp), if_neg (by simp), if_pos rfl]
    simp only
    rw [hq, h, hy, emptyB_nil]
    rfl
  · rw [typed_yes hq]
    exact right3 h tagB_nil
/-- The next token, taken. -/
theorem must_took {ks : List Nat} {n : Nat} {s : Ls} (h : (mustP ks n s).2.bad = none) : ∃ t r, s = ⟨t :: r, none⟩ ∧ t.k ∈ ks ∧ mustP ks n s = (t, ⟨r, none⟩) := by
  obtain ⟨r, b⟩ := s
  cases b with
  | some p => simp [mustP] at h
  | none =>
    cases r with
    | nil => simp [mustP] at h
    | cons t r =>
      by_cases hk : t.k ∈ ks
      · exact ⟨t, r, rfl, hk, by simp [mustP, hk]⟩
      · simp [mustP, hk] at h
theorem obj_right {n : Nat} {s : Ls} (hs : ∀ t ∈ s.r, TokG t) (h : (objC n s).2.bad = none) : rightB (objC n s).1 = true ∧ ∀ t ∈ (objC n s).2.r, TokG t := by
  have h0 := objC_keeps h
  unfold objC at h ⊢
  dsimp only at h ⊢
  by_cases h3 : (mustP [1, 2, 3] n s).1.k = 3
  · rw [if_pos h3] at h ⊢
    by_cases h4 : headK (mustP [1, 2, 3] n s).2.r = 4
    · rw [if_pos h4] at h ⊢
      dsimp only at h ⊢
      obtain ⟨t2, r2, e2, k2, m2⟩ := must_took h
      obtain ⟨t1, r1, rfl, k1, m1⟩ := must_took (must_keeps h)
      rw [m1] at e2 m2 ⊢
      cases e2
      rw [m2]
      have g1 := hs t1 (by simp)
      have g2 := hs t2 (by simp)
      refine ⟨right3 g1.v (tag_lowS (g2.g (by simpa using k2))), fun t ht => hs t (by simp [ht])⟩
    · rw [if_neg h4] at h ⊢
      by_cases h5 : headK (mustP [1, 2, 3] n s).2.r = 5
      · rw [if_pos h5] at h ⊢
        dsimp only at h ⊢
        obtain ⟨t3, r3, e3, k3, m3⟩ := must_took h
        obtain ⟨t2, r2, e2, k2, m2⟩ := must_took (must_keeps h)
        obtain ⟨t1, r1, rfl, k1, m1⟩ := must_took (must_keeps (must_keeps h))
        rw [m1] at e2 m2 e3 m3 ⊢
        cases e2
        rw [m2] at e3 m3 ⊢
        cases e3
        rw [m3]
        have g1 := hs t1 (by simp)
        have g3 := hs t3 (by simp)
        exact ⟨right_typed g1.v g3.v, fun t ht => hs t (by simp [ht])⟩
      · rw [if_neg h5] at h ⊢
        dsimp only at h ⊢
        obtain ⟨t1, r1, rfl, k1, m1⟩ := must_took h
        rw [m1]
        have g1 := hs t1 (by simp)
        exact ⟨right3 g1.v tagB_nil, fun t ht => hs t (by simp [ht])⟩
  · rw [if_neg h3] at h ⊢
    dsimp only at h ⊢
    obtain ⟨t1, r1, rfl, k1, m1⟩ := must_took h
    rw [m1] at h3 ⊢
    have g1 := hs t1 (by simp)
    refine ⟨?_, fun t ht => hs t (by simp [ht])⟩
    unfold namedP
    split
    · next e => exact right2 (g1.b e)
    · exact right1 g1.v
end Go.Proofs.YtffpgandgajihaaGreatDoor
namespace Go.Proofs.YtffpgandgajihaaGreatDoor
open Go Go.RowKit Um Fm Lx Tx
/-- What is told of what was read, if it is all that there is. -/
def told {α : Type} (z : α) (o : α × Ls) : α × Bool × Nat × Int := match (stopP o.2).bad with
  | some p => (z, false, p, 10)
  | none => (o.1, true, 0, 0)
/-- Something that is all that a line has, if it has something; whether it has, and where it can't be, and why. -/
def readL {α : Type} (blank : Bool) (f : Nat → Ls → α × Ls) (z : α) (l : List UInt8) : α × Bool × Nat × Int :=
  if (lineL l).2.2 = 0 then
    if blank = true ∧ (lineL l).1 = [] then (z, false, 0, 0)
    else told z (f l.length ⟨(lineL l).1, none⟩)
  else (z, false, (lineL l).2.1, (lineL l).2.2)
theorem ln_size : ∀ (l : List UInt8) (p : Nat) (ts : List LTok), lnL l p = .ok ts → ∀ t ∈ ts, t.x.size ≤ 4 * l.length := by
  refine ln_ind (P := fun l => ∀ (p : Nat) (ts : List LTok), lnL l p = .ok ts → ∀ t ∈ ts, t.x.size ≤ 4 * l.length) ?_ ?_ ?_ ?_
  · intro l h p ts hl
    rw [lnL_stop p h] at hl
    cases hl
    intro t ht; cases ht
  · intro l h0 h ih p ts hl t ht
    rw [lnL_blank p h0 h] at hl
    have := ih _ _ hl t ht
    rw [List.length_drop] at this
    omega
  · intro l h0 h1 h ht p ts hl
    rw [lnL_bad p h0 h1 h ht] at hl
    cases hl
  · intro l k m x ht ih p ts hl
    rw [lnL_tok p ht] at hl
    cases hr : lnL (l.drop m) (p + m) with
    | error e => rw [hr] at hl; cases hl
    | ok us =>
      rw [hr] at hl
      cases hl
      obtain ⟨m1, m2, _, _, _, m6, _, _⟩ := tkL_spec ht
      intro t h
      rw [List.mem_cons] at h
      rcases h with rfl | h
      · show x.size ≤ _; omega
      · have := ih _ _ hr t h
        rw [List.length_drop] at this
        omega
/-- A line's tokens are some, or there are none. -/
theorem lineL_cases (l : List UInt8) : (∃ ts, vld l ∧ lnL l 0 = .ok ts ∧ lineL l = (ts, 0, 0)) ∨ ((lineL l).1 = [] ∧ (lineL l).2.2 ≠ 0 ∧ (lineL l).2.1 ≤ l.length) := by
  by_cases hv : vld l
  · cases hl : lnL l 0 with
    | ok ts => exact .inl ⟨ts, hv, rfl, lineL_ok hv hl⟩
    | error e =>
      right
      rw [lineL_no hv hl]
      obtain ⟨a, h1, h2, _⟩ := lnL_err _ _ _ hl
      exact ⟨rfl, by show (10 : Int) ≠ 0; decide, by show e ≤ _; omega⟩
  · right
    have h2 : (sgn l).2.2 = false := by simpa [vld] using hv
    have h3 := (sgn_invalid l h2).1
    unfold lineL
    rw [h2]
    exact ⟨rfl, by show (11 : Int) ≠ 0; decide, Nat.le_of_lt h3⟩
theorem line_toks (l : List UInt8) (hl : l.length ≤ 100000) : TsOk (lineL l).1 ∧ (∀ t ∈ (lineL l).1, TokG t) ∧ (lineL l).1.length ≤ l.length ∧ (∀ t ∈ (lineL l).1, t.p ≤ l.length) := by
  rcases lineL_cases l with ⟨ts, hv, h, e⟩ | ⟨e, -, -⟩
  · rw [e]
    exact ⟨fun t ht => by have := ln_size l 0 ts h t ht; omega, ln_right l 0 ts h, lnL_len l 0 ts h, lnL_p h⟩
  · rw [e]
    refine ⟨?_, ?_, Nat.zero_le _, ?_⟩ <;> (intro t ht; cases ht)
theorem CrAt.new {W : World} {base : Nat} {A : Option Addr} {c : Nat} {ts : List LTok} (own : W.ownsRow base 72 3 (.slice A ts.length c) ts.length (ts.flatMap tokC)) (n : Nat) :
    CrAt (W.alloc (.cells #[.slice A ts.length c, .int .i64 n, .bool false, .int .i64 0] 93)) W.heap.size n ⟨ts, none⟩ := by
  have hB : Below W.heap.size W (W.alloc (.cells #[.slice A ts.length c, .int .i64 n, .bool false, .int .i64 0] 93)) := (Below.refl _ _).alloc (Nat.le_refl _) _
  refine ⟨A, c, 0, heap_alloc_new W _, fun p hp => (by cases hp), ?_, ?_, ?_⟩
  · intro a ha
    rcases own.2 with ⟨hv, _⟩ | ⟨g, cap, cur, hv, hg, hh, _⟩
    · injection hv with e1 e2 e3; subst e1; cases ha
    · injection hv with e1 e2 e3
      rw [e1] at ha
      injection ha with ha
      subst ha
      exact (Array.getElem?_eq_some_iff.1 hh).1
  · rcases own.2 with ⟨hv, hx⟩ | ⟨g, cap, cur, hv, hg, hh, hnc, _⟩
    · injection hv with e1 e2 e3; show ts.length ≤ c; omega
    · injection hv with e1 e2 e3; show ts.length ≤ c; omega
  · exact ⟨_, (Rd.of_own own).later hB, All.of_flat ts fun _ _ => rfl⟩
theorem stop_none {s : Ls} (h : s.bad = none) (h2 : s.r = []) : stopP s = s := by
  unfold stopP
  rw [h, h2]
theorem stop_some {s : Ls} {p : Nat} (h : s.bad = some p) : stopP s = s := by
  unfold stopP
  rw [h]
theorem stop_more {s : Ls} {t : LTok} {r : List LTok} (h : s.bad = none) (h2 : s.r = t :: r) : (stopP s).bad = some t.p ∧ (mustP [] 0 s).2 = ⟨t :: r, some t.p⟩ := by
  unfold stopP mustP
  rw [h, h2]
  exact ⟨rfl, rfl⟩
theorem told_bad {α : Type} {z : α} {o : α × Ls} {p : Nat} (h : o.2.bad = some p) : told z o = (z, false, p, 10) := by
  unfold told
  rw [stop_some h, h]
theorem told_more {α : Type} {z : α} {o : α × Ls} {t : LTok} {r : List LTok} (h : o.2.bad = none) (h2 : o.2.r = t :: r) : told z o = (z, false, t.p, 10) := by
  unfold told
  rw [(stop_more h h2).1]
theorem told_ok {α : Type} {z : α} {o : α × Ls} (h : o.2.bad = none) (h2 : o.2.r = []) : told z o = (o.1, true, 0, 0) := by
  unfold told
  rw [stop_none h h2, h]
theorem below_s4 {B : Nat} {w W : World} (h : Below B w W) {z : Nat} (hz : B ≤ z) (i : Nat) (v0 v1 v2 v3 : Value) : Below B w ((((W.setCell ⟨z, i, none⟩ v0).setCell ⟨z, i + 1, none⟩ v1).setCell ⟨z, i + 2, none⟩ v2).setCell ⟨z, i + 3, none⟩ v3) :=
  (((h.setCell (p := ⟨z, i, none⟩) hz v0).setCell (p := ⟨z, i + 1, none⟩) hz v1).setCell (p := ⟨z, i + 2, none⟩) hz v2).setCell (p := ⟨z, i + 3, none⟩) hz v3
theorem below_s12 {B : Nat} {w W : World} (h : Below B w W) {z : Nat} (hz : B ≤ z) (v0 v1 v2 v3 v4 v5 v6 v7 v8 v9 v10 v11 : Value) : Below B w ((((((((((((W.setCell ⟨z, 0, none⟩ v0).setCell ⟨z, 1, none⟩ v1).setCell ⟨z, 2, none⟩ v2).setCell ⟨z, 3, none⟩ v3).setCell ⟨z, 4, none⟩ v4).setCell ⟨z, 5, none⟩ v5).setCell ⟨z, 6, none⟩ v6).setCell ⟨z, 7, none⟩ v7).setCell ⟨z, 8, none⟩ v8).setCell ⟨z, 9, none⟩ v9).setCell ⟨z, 10, none⟩ v10).setCell ⟨z, 11, none⟩ v11) :=
  below_s4 (below_s4 (below_s4 h hz 0 v0 v1 v2 v3) hz 4 v4 v5 v6 v7) hz 8 v8 v9 v10 v11
/-- What the program's line tells, as a call. -/
theorem lexLineT (s : ByteArray) (w : World) (hC : CtxL w) (hs : s.size ≤ 100000) : Calls Tryz.prog 10 #[.string s] w (LineR s w) := lexLine s w hC (by omega)
end Go.Proofs.YtffpgandgajihaaGreatDoor
namespace Go.Proofs.YtffpgandgajihaaGreatDoor
open Go Go.RowKit Um Fm Lx Tx
set_option maxHeartbeats 4000000 in
set_option maxRecDepth 20000 in
theorem rReadT (s : ByteArray) (w : World) (hC : CtxL w) (hs : s.size ≤ 100000) :
    Calls Tryz.prog 33 #[.string s, .bool false, .func (.func 34) #[] #[]] w fun e w' => e = .returned (.tuple #[tA (readL false objC zTm s.data.toList).1, .bool (readL false objC zTm s.data.toList).2.1, .int .i64 (readL false objC zTm s.data.toList).2.2.1, .int .i64 (readL false objC zTm s.data.toList).2.2.2]) ∧ Below w.heap.size w w' := by
  obtain ⟨res, hres⟩ : ∃ r, readL false objC zTm s.data.toList = r := ⟨_, rfl⟩
  rw [hres]
  have Hm : Hid (res = readL false objC zTm s.data.toList) := hres.symm
  clear hres
  unfold readL at Hm
  have hln : Hid (s.data.toList.length = s.size) := size_toList s
  obtain ⟨hts, -, htl, -⟩ := line_toks s.data.toList (by rw [size_toList]; exact hs)
  rw [size_toList] at htl
  have hB0 : Below w.heap.size w (w.alloc (.cells #[.int .i64 0, .string ⟨#[]⟩, .string ⟨#[]⟩, .string ⟨#[]⟩] 35)) := (Below.refl _ w).alloc (Nat.le_refl _) _
  have hz0 : bkT w.heap.size 35 #[.int .i64 0, .string ⟨#[]⟩, .string ⟨#[]⟩, .string ⟨#[]⟩] (w.alloc (.cells #[.int .i64 0, .string ⟨#[]⟩, .string ⟨#[]⟩, .string ⟨#[]⟩] 35)) := heap_alloc_new w _
  have hln2 := lexLineT s _ (hC.step hB0) hs
  unfold LineR at hln2
  rcases lineL_cases s.data.toList with ⟨ts, -, -, e⟩ | ⟨e1, e2, -⟩
  · rw [e] at hln2 hts htl Hm
    simp only at hts htl Hm hln2
    simp only [if_true] at Hm
    have HB0 := Lib.hid hB0
    have HZ0 := Lib.hid hz0
    clear hB0 hz0 e hC
    have hslen : w.heap.size < (w.alloc (.cells #[.int .i64 0, .string ⟨#[]⟩, .string ⟨#[]⟩, .string ⟨#[]⟩] 35)).heap.size := by simp
    have hmm : Hid (res = told zTm (objC s.data.toList.length ⟨ts, none⟩)) := by show _ = _; rw [Hm.out, if_neg (by simp)]
    rw [hln.out] at hmm
    have hob := fun b W hC => rObject b s.size ⟨ts, none⟩ W hC hts
    generalize objC s.size ⟨ts, none⟩ = a at *
    obtain ⟨o, s2⟩ := a
    simp only at hob hmm
    clear Hm
    go_enter Tryz.func33, Tryz.ntmps33
    go_wp2_with fail
    refine hln2.mono ?_
    rintro e W1 ⟨v, rfl, own, hB1⟩
    have HB1 := Lib.hid (below_tr HB0.out hB1)
    have HZ1 := Lib.hid (HZ0.out.step hB1)
    obtain ⟨A, c, rfl, hc, -⟩ := own_slice own
    have hn := CrAt.new own s.size
    have HN := Lib.hid hn
    have hlt1 : w.heap.size < W1.heap.size := HZ1.out.lt
    clear own hB1 hn
    have hlr : W1.heap.size < (W1.alloc (.cells #[.slice A ts.length c, .int .i64 s.size, .bool false, .int .i64 0] 93)).heap.size := by simp
    have hBr : Below W1.heap.size W1 (W1.alloc (.cells #[.slice A ts.length c, .int .i64 s.size, .bool false, .int .i64 0] 93)) := (Below.refl _ _).alloc (Nat.le_refl _) _
    have HBr := Lib.hid hBr
    clear hBr
    go_wp2_with fail
    refine (hob _ _ HN.out).mono ?_
    rintro e W2 ⟨rfl, hC2, hG2⟩
    have hzr : w.heap.size ≠ W1.heap.size := by omega
    have HB2 : Hid (Below w.heap.size w W2) := (HB1.out.trans (HBr.out.mono HB1.out.size)).grown hG2 (Nat.le_trans HB1.out.size HBr.out.size) (fun k e => by injection e with e; omega)
    have HZ2 : Hid (bkT w.heap.size 35 #[.int .i64 0, .string ⟨#[]⟩, .string ⟨#[]⟩, .string ⟨#[]⟩] W2) := (HZ1.out.step HBr.out).grown hG2 (fun e => hzr e.symm)
    have HC2 := Lib.hid hC2
    have hl2 := hC2.lt
    have hlz2 := HZ2.out.lt
    have hB3 : Below W2.heap.size W2 (W2.alloc (.cells #[.int .i64 o.k, .string o.x, .string o.l, .string o.y] 35)) := (Below.refl _ _).alloc (Nat.le_refl _) _
    have HC3 := Lib.hid (hC2.below hB3)
    have HZ3 := Lib.hid (HZ2.out.step hB3)
    have HB3 := Lib.hid (below_tr HB2.out hB3)
    have HY3 : Hid (bkT W2.heap.size 35 #[.int .i64 o.k, .string o.x, .string o.l, .string o.y] (W2.alloc (.cells #[.int .i64 o.k, .string o.x, .string o.l, .string o.y] 35))) := heap_alloc_new W2 _
    clear hC2 hG2 hB3
    go_upto_region 6 with fail
    change Code.wp _ _ _ _ (W2.alloc (.cells #[.int .i64 o.k, .string o.x, .string o.l, .string o.y] 35))
    generalize W2.alloc (.cells #[.int .i64 o.k, .string o.x, .string o.l, .string o.y] 35) = W3 at *
    generalize W2.heap.size = y at *
    generalize W1.heap.size = b at *
    obtain ⟨A3, c3, z3, r0, r1, r2, r3, rz, -, -⟩ := HC3.out.plain
    have fr := fun i => HC3.out.fz i
    have f3 := HZ3.out.fz
    have d0 := HZ3.out.cell 0 rfl
    have d1 := HZ3.out.cell 1 rfl
    have d2 := HZ3.out.cell 2 rfl
    have d3 := HZ3.out.cell 3 rfl
    have y0 := HY3.out.cell 0 rfl
    have y1 := HY3.out.cell 1 rfl
    have y2 := HY3.out.cell 2 rfl
    have y3 := HY3.out.cell 3 rfl
    have hl3 := HC3.out.lt
    have hlz3 := HZ3.out.lt
    have hly3 := HY3.out.lt
    cases hb : s2.bad with
    | some p =>
      have hm : Hid (res = (zTm, false, p, 10)) := by show _ = _; rw [hmm.out]; exact told_bad hb
      have hp := rz p hb
      rw [hb] at r2
      subst hp
      have r2 : W3.cell? ⟨b, 2, none⟩ = some (.bool true) := r2
      clear hb rz hmm
      go_wp2
      go_region
      go_wp2
      refine bodyPost_ret (v := .tuple #[tA zTm, .bool false, .int .i64 p, .int .i64 10]) (by simp [results, Tryz.results33, go_sem, d0, d1, d2, d3, zTm]) rfl ?_
      rw [hm.out]
      exact ⟨rfl, (below_s4 HB3.out (Nat.le_refl _) 0 _ _ _ _).drew⟩
    | none =>
      rw [hb] at r2
      have r2 : W3.cell? ⟨b, 2, none⟩ = some (.bool false) := r2
      cases hr : s2.r with
      | nil =>
        have hm : Hid (res = (o, true, 0, 0)) := by show _ = _; rw [hmm.out]; exact told_ok hb hr
        rw [hr] at r0
        have r0 : W3.cell? ⟨b, 0, none⟩ = some (.slice A3 0 c3) := r0
        clear hb hr rz hmm r3
        go_wp2
        refine bodyPost_ret (v := .tuple #[tA o, .bool true, .int .i64 0, .int .i64 0]) (by simp [results, Tryz.results33, go_sem, d0, d1, d2, d3]) rfl ?_
        rw [hm.out]
        exact ⟨rfl, below_s4 HB3.out (Nat.le_refl _) 0 _ _ _ _⟩
      | cons t r =>
        have hm : Hid (res = (zTm, false, t.p, 10)) := by show _ = _; rw [hmm.out]; exact told_more hb hr
        have hmu := rMust [] 0 b s.size none s2 W3 HC3.out (Rd.nil _ _) (by decide) (by simp)
        have hme : Hid ((mustP [] s.size s2).2 = ⟨t :: r, some t.p⟩) := by
          show _ = _
          unfold mustP
          rw [hb, hr]
          rfl
        rw [hr] at r0
        have r0 : W3.cell? ⟨b, 0, none⟩ = some (.slice A3 (r.length + 1) c3) := r0
        clear hb hr rz hmm
        go_wp2_with fail
        refine hmu.mono ?_
        rintro e W4 ⟨rfl, hC4, hG4⟩
        rw [hme.out] at hC4
        have HB4 : Hid (Below w.heap.size w W4) := HB3.out.grown hG4 HB3.out.size (fun k e => by injection e with e; omega)
        have HZ4 := HZ3.out.grown hG4 (fun e => hzr e.symm)
        obtain ⟨A4, c4, z4, q0, q1, q2, q3, qz, -, -⟩ := hC4.plain
        have fq := fun i => hC4.fz i
        have f4 := HZ4.fz
        have hp := qz t.p rfl
        subst hp
        have q2 : W4.cell? ⟨b, 2, none⟩ = some (.bool true) := q2
        have e0 := HZ4.cell 0 rfl
        have e1 := HZ4.cell 1 rfl
        have e2 := HZ4.cell 2 rfl
        have e3 := HZ4.cell 3 rfl
        have hl4 := hC4.lt
        have hlz4 := HZ4.lt
        clear hC4 hG4 HZ4 qz
        go_wp2
        go_region
        go_wp2
        refine bodyPost_ret (v := .tuple #[tA zTm, .bool false, .int .i64 t.p, .int .i64 10]) (by simp [results, Tryz.results33, go_sem, e0, e1, e2, e3, zTm]) rfl ?_
        rw [hm.out]
        exact ⟨rfl, (below_s4 HB4.out (Nat.le_refl _) 0 _ _ _ _).drew⟩
  · have hm : Hid (res = (zTm, false, (lineL s.data.toList).2.1, (lineL s.data.toList).2.2)) := by show _ = _; rw [Hm.out, if_neg e2]
    rw [e1] at hln2
    generalize (lineL s.data.toList).2.1 = at1 at *
    generalize (lineL s.data.toList).2.2 = er1 at *
    have hne : (er1 != (0 : Int)) = true := by simpa using e2
    have HB0 := Lib.hid hB0
    have HZ0 := Lib.hid hz0
    clear hB0 hz0 hC Hm e1
    go_enter Tryz.func33, Tryz.ntmps33
    go_wp2_with fail
    refine hln2.mono ?_
    rintro e W1 ⟨v, rfl, own, hB1⟩
    have HB1 := Lib.hid (below_tr HB0.out hB1)
    have HZ1 := HZ0.out.step hB1
    obtain ⟨A, c, rfl, hc, -⟩ := own_slice own
    have f1 := HZ1.fz
    have d0 := HZ1.cell 0 rfl
    have d1 := HZ1.cell 1 rfl
    have d2 := HZ1.cell 2 rfl
    have d3 := HZ1.cell 3 rfl
    have hlz1 := HZ1.lt
    clear own hB1 HZ1
    go_wp2
    refine bodyPost_ret (v := .tuple #[tA zTm, .bool false, .int .i64 at1, .int .i64 er1]) (by simp [results, Tryz.results33, go_sem, d0, d1, d2, d3, zTm]) rfl ?_
    rw [hm.out]
    exact ⟨rfl, below_s4 HB1.out (Nat.le_refl _) 0 _ _ _ _⟩
end Go.Proofs.YtffpgandgajihaaGreatDoor
