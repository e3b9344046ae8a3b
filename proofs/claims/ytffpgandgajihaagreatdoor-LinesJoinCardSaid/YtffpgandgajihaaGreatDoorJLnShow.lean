/- A right term's text, lexed: its tokens are the term's own; and what tokens tell is right. -/
import Derived.Test.YtffpgandgajihaaGreatDoorJLn1
import Derived.Test.YtffpgandgajihaaGreatDoorJLexT
namespace Go.Proofs.YtffpgandgajihaaGreatDoor
open Go Go.RowKit Um Fm Lx Tx

theorem isB_nat {n : Int} (h : isB n = true) : 0 ≤ n ∧ n ≤ 1114111 ∧ (n.toNat : Int) = n := by
  have := (isB_iff n).1 h
  omega
theorem enc_low {n : Int} (h0 : 0 ≤ n) (h : n < 128) : Lib.encodeRune n = [UInt8.ofNat n.toNat] := by
  unfold Lib.encodeRune
  rw [Lib.encodeRuneZ_one (by omega) (by omega)]
  simp
theorem ofNat_low {n : Nat} (h : n < 256) : (UInt8.ofNat n).toNat = n := by rw [UInt8.toNat_ofNat']; omega
theorem raw_high {n : Int} (hB : isB n = true) (h : 128 ≤ n) : rawB n = true := by
  unfold rawB
  rw [hB, decide_eq_true (by omega : (32 : Int) < n)]
  have : badL.contains n = false := by
    unfold badL
    simp; omega
  rw [this]; rfl
theorem iri_one {n : Int} (hB : isB n = true) : iriL (Lib.encodeRune n) = iriR n.toNat := by
  obtain ⟨h0, h1, h2⟩ := isB_nat hB
  unfold iriR
  rw [h2]
  by_cases hl : n < 128
  · rw [enc_low h0 hl]
    unfold iriL
    rw [List.flatMap_cons, List.flatMap_nil, List.append_nil]
    unfold iriC escC
    rw [ofNat_low (by omega), decide_eq_true (by omega), Bool.true_and, h2]
    cases rawB n
    · rfl
    · rw [if_neg (by simp), if_pos rfl]
  · rw [raw_high hB (by omega), if_pos rfl]
    exact iriL_high _ (enc_high (by omega))
theorem c0_high {n : Int} (h : 128 ≤ n) (z : List UInt8) : 128 ≤ c0 (Lib.encodeRune n ++ z) := by
  have hp := enc_len_pos n
  have he := enc_high h
  cases hx : Lib.encodeRune n with
  | nil => rw [hx] at hp; simp at hp
  | cons b r =>
    rw [hx] at he
    exact he b (by simp)
theorem numL_four {c : Nat} (hc : c < 128) (z : List UInt8) : Lx.numL 4 (48 :: 48 :: hxD (c / 16) :: hxD (c % 16) :: z) = some c := by
  unfold Lx.numL
  rw [if_neg (by simp)]
  simp only [List.take_succ_cons, List.take_zero]
  have h0 : hexB (48 : UInt8).toNat = some 0 := by decide
  simp only [hexN, h0, hexB_hxD (show c / 16 < 16 by omega), hexB_hxD (show c % 16 < 16 by omega), Option.bind_some]
  have e : 16 * (16 * (16 * (16 * 0 + 0) + 0) + c / 16) + c % 16 = c := by omega
  rw [e, if_pos]
  rw [isB_iff]
  omega
/-- One sign, written in an IRI, is read back. -/
theorem sign_iri {n : Int} (hB : isB n = true) (z : List UInt8) : signL false (iriR n.toNat ++ z) = (n.toNat, (iriR n.toNat).length) ∧ c0 (iriR n.toNat ++ z) ≠ 62 ∧ (iriR n.toNat).length ≠ 0 := by
  obtain ⟨h0, h1, h2⟩ := isB_nat hB
  unfold iriR
  rw [h2]
  cases hr : rawB n
  · have hl : n < 128 := by
      rcases Int.lt_or_le n 128 with h | h
      · exact h
      · rw [raw_high hB h] at hr; cases hr
    rw [if_neg (by simp)]
    refine ⟨?_, by show (92 : Nat) ≠ 62; decide, by simp⟩
    unfold signL
    rw [if_pos (by rfl)]
    unfold Lx.escL
    rw [if_pos (by rfl)]
    show optP 6 (Lx.numL 4 (48 :: 48 :: hxD (n.toNat / 16) :: hxD (n.toNat % 16) :: z)) = _
    rw [numL_four (by omega)]
    rfl
  · rw [if_pos rfl]
    have hp := enc_len_pos n
    have hn := nx_enc_app n hB z
    have hc : c0 (Lib.encodeRune n ++ z) ≠ 92 ∧ c0 (Lib.encodeRune n ++ z) ≠ 62 := by
      by_cases hl : n < 128
      · have e : c0 (Lib.encodeRune n ++ z) = n.toNat := by
          rw [enc_low h0 hl]
          show (UInt8.ofNat n.toNat).toNat = _
          rw [ofNat_low (by omega)]
        rw [e]
        have hb : badL.contains n = false := by
          unfold rawB at hr
          simp only [Bool.and_eq_true, Bool.not_eq_true'] at hr
          exact hr.2
        unfold badL at hb
        simp at hb
        omega
      · have := c0_high (show 128 ≤ n by omega) z
        omega
    refine ⟨?_, hc.2, by omega⟩
    unfold signL
    rw [if_neg hc.1, hn]
    dsimp only
    rw [if_neg (by
      rintro (h | h)
      · omega
      · unfold rawL at h
        rw [if_neg (by simp), h2, hr] at h
        cases h)]
/-- .. in a literal. -/
theorem sign_lit {n : Int} (hB : isB n = true) (z : List UInt8) : signL true (litL (Lib.encodeRune n) ++ z) = (n.toNat, (litL (Lib.encodeRune n)).length) ∧ c0 (litL (Lib.encodeRune n) ++ z) ≠ 34 ∧ (litL (Lib.encodeRune n)).length ≠ 0 := by
  obtain ⟨h0, h1, h2⟩ := isB_nat hB
  by_cases h34 : n = 34
  · subst h34; exact ⟨rfl, by show (92 : Nat) ≠ 34; decide, by decide⟩
  by_cases h92 : n = 92
  · subst h92; exact ⟨rfl, by show (92 : Nat) ≠ 34; decide, by decide⟩
  by_cases h10 : n = 10
  · subst h10; exact ⟨rfl, by show (92 : Nat) ≠ 34; decide, by decide⟩
  by_cases h13 : n = 13
  · subst h13; exact ⟨rfl, by show (92 : Nat) ≠ 34; decide, by decide⟩
  have hsame : litL (Lib.encodeRune n) = Lib.encodeRune n := by
    by_cases hl : n < 128
    · rw [enc_low h0 hl]
      unfold litL
      rw [List.flatMap_cons, List.flatMap_nil, List.append_nil]
      unfold litC
      have ne : ∀ k : UInt8, (k.toNat : Int) ≠ n → UInt8.ofNat n.toNat ≠ k := fun k hk e => hk (by rw [← e, ofNat_low (by omega), h2])
      rw [if_neg (ne 34 (by show ((34 : Nat) : Int) ≠ n; omega)), if_neg (ne 92 (by show ((92 : Nat) : Int) ≠ n; omega)), if_neg (ne 10 (by show ((10 : Nat) : Int) ≠ n; omega)), if_neg (ne 13 (by show ((13 : Nat) : Int) ≠ n; omega))]
    · refine litL_same _ ?_
      rw [List.countP_eq_zero]
      intro b hb
      have := enc_high (show 128 ≤ n by omega) b hb
      unfold isE rpX
      rw [if_neg (by omega), if_neg (by omega), if_neg (by omega), if_neg (by omega)]
      simp
  rw [hsame]
  have hp := enc_len_pos n
  have hn := nx_enc_app n hB z
  have hc : c0 (Lib.encodeRune n ++ z) ≠ 92 ∧ c0 (Lib.encodeRune n ++ z) ≠ 34 := by
    by_cases hl : n < 128
    · have e : c0 (Lib.encodeRune n ++ z) = n.toNat := by
        rw [enc_low h0 hl]
        show (UInt8.ofNat n.toNat).toNat = _
        rw [ofNat_low (by omega)]
      rw [e]
      omega
    · have := c0_high (show 128 ≤ n by omega) z
      omega
  refine ⟨?_, hc.2, by omega⟩
  unfold signL
  rw [if_neg hc.1, hn]
  dsimp only
  rw [if_neg (by
    rintro (h | h)
    · omega
    · unfold rawL at h
      rw [if_pos rfl] at h
      simp at h
      omega)]
theorem inL_step {lit : Bool} {a z : List UInt8} {n : Nat} {ns : List Int} {m : Nat} (hs : signL lit (a ++ z) = (n, a.length)) (hc : c0 (a ++ z) ≠ endC lit) (ha : a.length ≠ 0) (h : inL lit z = some (ns, m)) : inL lit (a ++ z) = some ((n : Int) :: ns, a.length + m) := by
  rw [inL_go (by rw [List.length_append]; omega) hc (by rw [hs]; exact ha), hs]
  dsimp only
  rw [List.drop_left' rfl, h]
  rfl
theorem in_iri (z : List UInt8) : ∀ ns : List Int, (∀ x ∈ ns, isB x = true) → inL false (iriL (ns.flatMap Lib.encodeRune) ++ 62 :: z) = some (ns, (iriL (ns.flatMap Lib.encodeRune)).length + 1)
  | [], _ => inL_end (by simp) rfl
  | n :: ns, h => by
    have ih := in_iri z ns (fun x hx => h x (by simp [hx]))
    have hB := h n (by simp)
    rw [List.flatMap_cons, iriL_app, iri_one hB, List.append_assoc]
    obtain ⟨s1, s2, s3⟩ := sign_iri hB (iriL (ns.flatMap Lib.encodeRune) ++ 62 :: z)
    rw [inL_step s1 s2 s3 ih, List.length_append, (isB_nat hB).2.2, Nat.add_assoc]
theorem in_lit (z : List UInt8) : ∀ ns : List Int, (∀ x ∈ ns, isB x = true) → inL true (litL (ns.flatMap Lib.encodeRune) ++ 34 :: z) = some (ns, (litL (ns.flatMap Lib.encodeRune)).length + 1)
  | [], _ => inL_end (by simp) rfl
  | n :: ns, h => by
    have ih := in_lit z ns (fun x hx => h x (by simp [hx]))
    have hB := h n (by simp)
    rw [List.flatMap_cons, litL_app, List.append_assoc]
    obtain ⟨s1, s2, s3⟩ := sign_lit hB (litL (ns.flatMap Lib.encodeRune) ++ 34 :: z)
    rw [inL_step s1 s2 s3 ih, List.length_append, (isB_nat hB).2.2, Nat.add_assoc]
theorem valid_vld {x : ByteArray} (h : validB x = true) : vld x.data.toList := by
  rw [← sigR_valid] at h
  unfold vld
  have h2 := eq_of_beq h
  unfold sigR at h2
  split at h2
  · assumption
  · simp at h2
theorem vld_valid {x : ByteArray} (h : vld x.data.toList) : validB x = true := by
  rw [← sigR_valid, sigR_ok h]; rfl
theorem signs_of {x : ByteArray} (h : validB x = true) : ∃ ns : List Int, (∀ n ∈ ns, isB n = true) ∧ x.data.toList = ns.flatMap Lib.encodeRune ∧ textS ns = x := by
  have hv := valid_vld h
  obtain ⟨h1, h2⟩ := sgn_valid _ hv
  exact ⟨_, h1, h2.symm, ba_ext (text_sig _ hv).2⟩
theorem tk_iri {x : ByteArray} (h : validB x = true) (z : List UInt8) : tkL (60 :: (iriL x.data.toList ++ 62 :: z)) = some (1, x, (iriL x.data.toList).length + 2) := by
  obtain ⟨ns, h1, h2, h3⟩ := signs_of h
  unfold tkL
  rw [if_pos (show c0 (60 :: (iriL x.data.toList ++ 62 :: z)) = 60 from rfl), List.drop_succ_cons, List.drop_zero, h2, in_iri z ns h1]
  simp only [Option.map_some, h3]
  rw [show 1 + ((iriL (ns.flatMap Lib.encodeRune)).length + 1) = (iriL (ns.flatMap Lib.encodeRune)).length + 2 by omega]
theorem tk_lit {x : ByteArray} (h : validB x = true) (z : List UInt8) : tkL (34 :: (litL x.data.toList ++ 34 :: z)) = some (3, x, (litL x.data.toList).length + 2) := by
  obtain ⟨ns, h1, h2, h3⟩ := signs_of h
  unfold tkL
  rw [if_neg (by simp [c0]), if_pos (show c0 (34 :: (litL x.data.toList ++ 34 :: z)) = 34 from rfl), List.drop_succ_cons, List.drop_zero, h2, in_lit z ns h1]
  simp only [Option.map_some, h3]
  rw [show 1 + ((litL (ns.flatMap Lib.encodeRune)).length + 1) = (litL (ns.flatMap Lib.encodeRune)).length + 2 by omega]
theorem tk_caret (z : List UInt8) : tkL (94 :: 94 :: z) = some (5, ⟨#[]⟩, 2) := by
  unfold tkL
  simp [c0, c1]
theorem tk_dot (z : List UInt8) : tkL (46 :: z) = some (6, ⟨#[]⟩, 1) := by
  unfold tkL
  simp [c0]
theorem tk_label {x : ByteArray} {z : List UInt8} (h : label (x.data.toList ++ z) = x.data.toList.length) (h0 : x.data.toList ≠ []) : tkL (95 :: 58 :: (x.data.toList ++ z)) = some (2, x, x.data.toList.length + 2) := by
  unfold tkL
  rw [if_neg (by simp [c0]), if_neg (by simp [c0]), if_pos (by simp [c0, c1]), List.drop_succ_cons, List.drop_succ_cons, List.drop_zero, h, if_neg (by rw [List.length_eq_zero_iff]; exact h0), List.take_left' rfl, Nat.add_comm]
theorem tk_tag {x : ByteArray} {z : List UInt8} (h : tag (x.data.toList ++ z) = x.data.toList.length) (h0 : x.data.toList ≠ []) : tkL (64 :: (x.data.toList ++ z)) = some (4, x, x.data.toList.length + 1) := by
  unfold tkL
  rw [if_neg (by simp [c0]), if_neg (by simp [c0]), if_neg (by simp [c0]), if_pos (by simp [c0]), List.drop_succ_cons, List.drop_zero, h, if_neg (by rw [List.length_eq_zero_iff]; exact h0), List.take_left' rfl, Nat.add_comm]
/-- What may stand behind a term's text: it ends a label, a tag. -/
def Stp (z : List UInt8) : Prop := (∀ b : List UInt8, label b = b.length → label (b ++ z) = b.length) ∧ (∀ b : List UInt8, tag b = b.length → tag (b ++ z) = b.length)
theorem stp_nil : Stp [] := ⟨fun b h => by rw [List.append_nil, h], fun b h => by rw [List.append_nil, h]⟩
theorem stp_blank (z : List UInt8) : Stp (32 :: z) := by
  refine ⟨fun b h => ?_, fun b h => ?_⟩
  · have := label_blank b z
    rw [h, List.take_length] at this
    exact this
  · have := tag_blank b z
    rw [h, List.take_length] at this
    exact this
theorem tag_stop (l t : List UInt8) (c : UInt8) (hc : alnumB c.toNat = false) (h45 : c.toNat ≠ 45) : tag (l.take (tag l) ++ c :: t) = tag l := by
  have hle := tag_le l
  have hd : (l.take (tag l) ++ c :: t).getD (tag l) 0 = c := by
    have : (l.take (tag l) ++ c :: t).drop (tag l) = c :: t := List.drop_left' (by simp; omega)
    have h2 := getD_drop (l.take (tag l) ++ c :: t) (tag l) 0
    rw [this] at h2
    simpa using h2.symm
  have h1 := (tag_reach l).alike (alike_append l (c :: t) _ hle) (by simp; omega) (fun _ => by rw [hd]; exact hc)
  refine tagRest_out h1.rest ?_
  rw [hd]
  intro h
  exact absurd h.2.2.1 h45
theorem stp_dot : Stp [46] := by
  refine ⟨fun l hb => ?_, fun b h => ?_⟩
  · obtain ⟨st, h⟩ := label_reach l
    have hle := h.le
    have h1 := h.alike (alike_append l [46] _ hle.2.1) (by simp; omega)
    rw [hb, List.take_length] at h1
    have hd : (l ++ [(46 : UInt8)]).drop l.length = [46] := List.drop_left' rfl
    have hx : nx ((l ++ [(46 : UInt8)]).drop l.length) = (46, 1) := by rw [hd]; exact nx_ascii _ _ (by decide)
    cases st with
    | true =>
      refine labRest_out h1.rest ?_
      rw [hx]; decide
    | false =>
      have h2 := Reach.step h1 (by simp) (by rw [hx]; decide) (by rw [hx]; decide)
      rw [hx] at h2
      refine labRest_end h2.rest (.inl ?_)
      simp
  · have := tag_stop b [] 46 (by decide) (by decide)
    rw [h, List.take_length] at this
    exact this
/-- A term's tokens. -/
def tokT (t : Tm) (p : Nat) : List LTok :=
  if t.k = 1 then [⟨1, t.x, p⟩]
  else if t.k = 2 then [⟨2, t.x, p⟩]
  else if t.k = 4 then [⟨3, t.x, p⟩, ⟨5, ⟨#[]⟩, p + (litL t.x.data.toList).length + 2⟩, ⟨1, t.y, p + (litL t.x.data.toList).length + 4⟩]
  else if t.l.data.toList = [] then [⟨3, t.x, p⟩]
  else [⟨3, t.x, p⟩, ⟨4, t.l, p + (litL t.x.data.toList).length + 2⟩]
theorem lnL_tok' {l z : List UInt8} (p : Nat) {k m : Nat} {x : ByteArray} (ht : tkL l = some (k, x, m)) (hz : l.drop m = z) : lnL l p = (lnL z (p + m)).map fun ts => ⟨k, x, p⟩ :: ts := by
  rw [lnL_tok p ht, hz]
theorem map_map_e (e : Except Nat (List LTok)) (f g : List LTok → List LTok) : (e.map f).map g = e.map fun x => g (f x) := by cases e <;> rfl
theorem lnL_text {t : Tm} (h : rightB t = true) {z : List UInt8} (hz : Stp z) (p : Nat) : lnL (textL t ++ z) p = (lnL z (p + (textL t).length)).map fun ts => tokT t p ++ ts := by
  obtain ⟨k, x, l, y⟩ := t
  have dropc : ∀ (c : UInt8) (m r : List UInt8) (d : UInt8), (c :: (m ++ d :: r)).drop (m.length + 2) = r := fun c m r d => by
    rw [show m.length + 2 = (m.length + 1) + 1 by omega, List.drop_succ_cons, ← List.drop_drop, List.drop_left' rfl]; rfl
  rcases right_cases h with ⟨rfl, rfl, rfl, hx⟩ | ⟨rfl, rfl, rfl, hx⟩ | ⟨rfl, rfl, hx, hl⟩ | ⟨rfl, rfl, -, hx, hy⟩
  · have e : textL ⟨1, x, ⟨#[]⟩, ⟨#[]⟩⟩ = 60 :: (iriL x.data.toList ++ [62]) := rfl
    have e2 : textL ⟨1, x, ⟨#[]⟩, ⟨#[]⟩⟩ ++ z = 60 :: (iriL x.data.toList ++ 62 :: z) := by rw [e]; simp
    have e3 : (textL ⟨1, x, ⟨#[]⟩, ⟨#[]⟩⟩).length = (iriL x.data.toList).length + 2 := by rw [e]; simp
    rw [e2, e3, lnL_tok' p (tk_iri hx z) (dropc _ _ _ _)]
    rfl
  · have e : textL ⟨2, x, ⟨#[]⟩, ⟨#[]⟩⟩ = 95 :: 58 :: x.data.toList := rfl
    have e2 : textL ⟨2, x, ⟨#[]⟩, ⟨#[]⟩⟩ ++ z = 95 :: 58 :: (x.data.toList ++ z) := by rw [e]; rfl
    have e3 : (textL ⟨2, x, ⟨#[]⟩, ⟨#[]⟩⟩).length = x.data.toList.length + 2 := by rw [e]; rfl
    unfold labelB at hx
    rw [Bool.and_eq_true] at hx
    have h0 : x.data.toList ≠ [] := by
      intro e0
      have h1 := hx.1
      rw [ByteArray.toList_eq, e0] at h1
      cases h1
    have hlab : label x.data.toList = x.data.toList.length := by
      have h1 := hx.2
      rw [beq_iff_eq, ← size_toList] at h1
      exact Int.ofNat.inj h1
    rw [e2, e3, lnL_tok' p (tk_label (hz.1 _ hlab) h0) (by rw [List.drop_succ_cons, List.drop_succ_cons, List.drop_left' rfl])]
    rfl
  · by_cases h0 : l.data.toList = []
    · have e : textL ⟨3, x, l, ⟨#[]⟩⟩ = 34 :: (litL x.data.toList ++ [34]) := by unfold textL; rw [if_neg (by simp), if_neg (by simp), if_neg (by simp), if_pos h0]
      have e2 : textL ⟨3, x, l, ⟨#[]⟩⟩ ++ z = 34 :: (litL x.data.toList ++ 34 :: z) := by rw [e]; simp
      have e3 : (textL ⟨3, x, l, ⟨#[]⟩⟩).length = (litL x.data.toList).length + 2 := by rw [e]; simp
      rw [e2, e3, lnL_tok' p (tk_lit hx z) (dropc _ _ _ _)]
      unfold tokT
      rw [if_neg (by simp), if_neg (by simp), if_neg (by simp), if_pos h0]
      rfl
    · have e : textL ⟨3, x, l, ⟨#[]⟩⟩ = 34 :: (litL x.data.toList ++ 34 :: 64 :: l.data.toList) := by unfold textL; rw [if_neg (by simp), if_neg (by simp), if_neg (by simp), if_neg h0]
      have e2 : textL ⟨3, x, l, ⟨#[]⟩⟩ ++ z = 34 :: (litL x.data.toList ++ 34 :: 64 :: (l.data.toList ++ z)) := by rw [e]; simp
      have e3 : (textL ⟨3, x, l, ⟨#[]⟩⟩).length = (litL x.data.toList).length + 2 + (l.data.toList.length + 1) := by rw [e]; simp; omega
      have htag : tag l.data.toList = l.data.toList.length := by
        unfold tagB at hl
        rw [Bool.and_eq_true] at hl
        have h1 := hl.1
        rw [beq_iff_eq, ← size_toList] at h1
        exact Int.ofNat.inj h1
      rw [e2, e3, lnL_tok' p (tk_lit hx _) (dropc _ _ _ _), lnL_tok' _ (tk_tag (hz.2 _ htag) h0) (by rw [List.drop_succ_cons, List.drop_left' rfl]), map_map_e]
      unfold tokT
      rw [if_neg (by simp), if_neg (by simp), if_neg (by simp), if_neg h0]
      simp only [Nat.add_assoc]
      rfl
  · have e : textL ⟨4, x, ⟨#[]⟩, y⟩ = 34 :: (litL x.data.toList ++ 34 :: 94 :: 94 :: 60 :: (iriL y.data.toList ++ [62])) := rfl
    have e2 : textL ⟨4, x, ⟨#[]⟩, y⟩ ++ z = 34 :: (litL x.data.toList ++ 34 :: 94 :: 94 :: 60 :: (iriL y.data.toList ++ 62 :: z)) := by rw [e]; simp
    have e3 : (textL ⟨4, x, ⟨#[]⟩, y⟩).length = (litL x.data.toList).length + 2 + 2 + ((iriL y.data.toList).length + 2) := by rw [e]; simp; omega
    rw [e2, e3, lnL_tok' p (tk_lit hx _) (dropc _ _ _ _), lnL_tok' (z := 60 :: (iriL y.data.toList ++ 62 :: z)) _ (tk_caret _) rfl, lnL_tok' _ (tk_iri hy z) (dropc _ _ _ _), map_map_e, map_map_e]
    unfold tokT
    rw [if_neg (by simp), if_neg (by simp), if_pos rfl]
    simp only [Nat.add_assoc]
    rfl
theorem tagB_iff {l : ByteArray} : tagB l = true ↔ tag l.data.toList = l.data.toList.length ∧ smallB l.data.toList = true := by
  rw [tagB_small, Bool.and_eq_true, beq_iff_eq, ← size_toList]
  constructor
  · rintro ⟨h1, h2⟩
    exact ⟨by omega, h2⟩
  · rintro ⟨h1, h2⟩
    exact ⟨by omega, h2⟩
theorem low_same : ∀ l : List UInt8, smallB l = true → l.map lowB = l
  | [], _ => rfl
  | c :: t, h => by
    unfold smallB at h
    rw [List.all_cons, Bool.and_eq_true] at h
    rw [List.map_cons, low_same t h.2]
    unfold lowB
    rw [if_neg (by simpa using h.1)]
theorem low_tag {l : ByteArray} (h : tagB l = true) : lowS l = l := by
  unfold lowS
  rw [low_same _ (tagB_iff.1 h).2, mk_of]
/-- What the program reads of a term's tokens. -/
theorem obj_tok {t : Tm} (h : rightB t = true) (n p : Nat) {r : List LTok} (hr : headK r ≠ 4 ∧ headK r ≠ 5) : objC n ⟨tokT t p ++ r, none⟩ = (t, ⟨r, none⟩) := by
  obtain ⟨k, x, l, y⟩ := t
  rcases right_cases h with ⟨rfl, rfl, rfl, hx⟩ | ⟨rfl, rfl, rfl, hx⟩ | ⟨rfl, rfl, hx, hl⟩ | ⟨rfl, rfl, hq, hx, hy⟩
  · simp [tokT, objC, mustP, namedP]
  · simp [tokT, objC, mustP, namedP]
  · by_cases h0 : l.data.toList = []
    · have e : l = ⟨#[]⟩ := nil_of h0
      subst e
      simp [tokT, objC, mustP, hr.1, hr.2]
    · simp [tokT, objC, mustP, h0, headK, low_tag hl]
  · have e : typedT x y = ⟨4, x, ⟨#[]⟩, y⟩ := typed_no (by simpa using hq)
    simp [tokT, objC, mustP, headK, e]
end Go.Proofs.YtffpgandgajihaaGreatDoor
