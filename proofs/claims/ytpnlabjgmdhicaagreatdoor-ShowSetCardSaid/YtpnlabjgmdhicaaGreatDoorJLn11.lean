/- A right term's text, lexed: its tokens are the term's own; and what tokens tell is right. What tokens tell is right. The program's package lines: read; what it tells, plainly; the term's one. The program's package lines: read at api.Term. -/
import Derived.Test.YtpnlabjgmdhicaaGreatDoorJLn7
import Derived.Test.YtpnlabjgmdhicaaGreatDoorJLexT
namespace Go.Proofs.YtpnlabjgmdhicaaGreatDoor
open Go Go.RowKit Um Fm Lx Tx

theorem isB_nat {n : Int} (h : isB n = true) : 0 ≤ n ∧ n ≤ 1114111 ∧ (n.toNat : Int) = n := by
  have := (isB_iff n).1 h
  omega
theorem enc_low {n : Int} (h0 : 0 ≤ n) (h : n < 128) : Lib.encodeRune n = [UInt8.ofNat n.toNat] := by
  unfold Lib.encodeRune
  rw [Lib.encodeRuneZ_one (by omega) (by omega)]
  simp
theorem ofNat_low {n : Nat} (h : n < 256) : (UInt8.ofNat n).toNat = n := by rw [UInt8.toNat_ofNat']; omega
theorem raw_high {n : Int} (hB : isB n = true) (h : 128 ≤ n) : rawB n = true := by
  unfold rawB
  rw [hB, decide_eq_true (by omega : (32 : Int) < n)]
  have : badL.contains n = false := by
    unfold badL
    simp; omega
  rw [this]; rfl
theorem iri_one {n : Int} (hB : isB n = true) : iriL (Lib.encodeRune n) = iriR n.toNat := by
  obtain ⟨h0, h1, h2⟩ := isB_nat hB
  unfold iriR
  rw [h2]
  by_cases hl : n < 128
  · rw [enc_low h0 hl]
    unfold iriL
    rw [List.flatMap_cons, List.flatMap_nil, List.append_nil]
    unfold iriC escC
    rw [ofNat_low (by omega), decide_eq_true (by omega), Bool.true_and, h2]
    cases rawB n
    · rfl
    · rw [if_neg (by simp), if_pos rfl]
  · rw [raw_high hB (by omega), if_pos rfl]
    exact iriL_high _ (enc_high (by omega))
theorem c0_high {n : Int} (h : 128 ≤ n) (z : List UInt8) : 128 ≤ c0 (Lib.encodeRune n ++ z) := by
  have hp := enc_len_pos n
  have he := enc_high h
  cases hx : Lib.encodeRune n with
  | nil => rw [hx] at hp; simp at hp
  | cons b r =>
    rw [hx] at he
    exact he b (by simp)
theorem numL_four {c : Nat} (hc : c < 128) (z : List UInt8) : Lx.numL 4 (48 :: 48 :: hxD (c / 16) :: hxD (c % 16) :: z) = some c := by
  unfold Lx.numL
  rw [if_neg (by simp)]
  simp only [List.take_succ_cons, List.take_zero]
  have h0 : hexB (48 : UInt8).toNat = some 0 := by decide
  simp only [hexN, h0, hexB_hxD (show c / 16 < 16 by omega), hexB_hxD (show c % 16 < 16 by omega), Option.bind_some]
  have e : 16 * (16 * (16 * (16 * 0 + 0) + 0) + c / 16) + c % 16 = c := by omega
  rw [e, if_pos]
  rw [isB_iff]
  omega
/-- One sign, written in an IRI, is read back. -/
theorem sign_iri {n : Int} (hB : isB n = true) (z : List UInt8) : signL false (iriR n.toNat ++ z) = (n.toNat, (iriR n.toNat).length) ∧ c0 (iriR n.toNat ++ z) ≠ 62 ∧ (iriR n.toNat).length ≠ 0 := by
  obtain ⟨h0, h1, h2⟩ := isB_nat hB
  unfold iriR
  rw [h2]
  cases hr : rawB n
  · have hl : n < 128 := by
      rcases Int.lt_or_le n 128 with h | h
      · exact h
      · rw [raw_high hB h] at hr; cases hr
    rw [if_neg (by simp)]
    refine ⟨?_, by show (92 : Nat) ≠ 62; decide, by simp⟩
    unfold signL
    rw [if_pos (by rfl)]
    unfold Lx.escL
    rw [if_pos (by rfl)]
    show optP 6 (Lx.numL 4 (48 :: 48 :: hxD (n.toNat / 16) :: hxD (n.toNat % 16) :: z)) = _
    rw [numL_four (by omega)]
    rfl
  · rw [if_pos rfl]
    have hp := enc_len_pos n
    have hn := nx_enc_app n hB z
    have hc : c0 (Lib.encodeRune n ++ z) ≠ 92 ∧ c0 (Lib.encodeRune n ++ z) ≠ 62 := by
      by_cases hl : n < 128
      · have e : c0 (Lib.encodeRune n ++ z) = n.toNat := by
          rw [enc_low h0 hl]
          show (UInt8.ofNat n.toNat).toNat = _
          rw [ofNat_low (by omega)]
        rw [e]
        have hb : badL.contains n = false := by
          unfold rawB at hr
          simp only [Bool.and_eq_true, Bool.not_eq_true'] at hr
          exact hr.2
        unfold badL at hb
        simp at hb
        omega
      · have := c0_high (show 128 ≤ n by omega) z
        omega
    refine ⟨?_, hc.2, by omega⟩
    unfold signL
    rw [if_neg hc.1, hn]
    dsimp only
    rw [if_neg (by
      rintro (h | h)
      · omega
      · unfold rawL at h
        rw [if_neg (by simp), h2, hr] at h
        cases h)]
/-- .. in a literal. -/
theorem sign_lit {n : Int} (hB : isB n = true) (z : List UInt8) : signL true (litL (Lib.encodeRune n) ++ z) = (n.toNat, (litL (Lib.encodeRune n)).length) ∧ c0 (litL (Lib.encodeRune n) ++ z) ≠ 34 ∧ (litL (Lib.encodeRune n)).length ≠ 0 := by
  obtain ⟨h0, h1, h2⟩ := isB_nat hB
  by_cases h34 : n = 34
  · subst h34; exact ⟨rfl, by show (92 : Nat) ≠ 34; decide, by decide⟩
  by_cases h92 : n = 92
  · subst h92; exact ⟨rfl, by show (92 : Nat) ≠ 34; decide, by decide⟩
  by_cases h10 : n = 10
  · subst h10; exact ⟨rfl, by show (92 : Nat) ≠ 34; decide, by decide⟩
  by_cases h13 : n = 13
  · subst h13; exact ⟨rfl, by show (92 : Nat) ≠ 34; decide, by decide⟩
  have hsame : litL (Lib.encodeRune n) = Lib.encodeRune n := by
    by_cases hl : n < 128
    · rw [enc_low h0 hl]
      unfold litL
      rw [List.flatMap_cons, List.flatMap_nil, List.append_nil]
      unfold litC
      have ne : ∀ k : UInt8, (k.toNat : Int) ≠ n → UInt8.ofNat n.toNat ≠ k := fun k hk e => hk (by rw [← e, ofNat_low (by omega), h2])
      rw [if_neg (ne 34 (by show ((34 : Nat) : Int) ≠ n; omega)), if_neg (ne 92 (by show ((92 : Nat) : Int) ≠ n; omega)), if_neg (ne 10 (by show ((10 : Nat) : Int) ≠ n; omega)), if_neg (ne 13 (by show ((13 : Nat) : Int) ≠ n; omega))]
    · refine litL_same _ ?_
      rw [List.countP_eq_zero]
      intro b hb
      have := enc_high (show 128 ≤ n by omega) b hb
      unfold isE rpX
      rw [if_neg (by omega), if_neg (by omega), if_neg (by omega), if_neg (by omega)]
      simp
  rw [hsame]
  have hp := enc_len_pos n
  have hn := nx_enc_app n hB z
  have hc : c0 (Lib.encodeRune n ++ z) ≠ 92 ∧ c0 (Lib.encodeRune n ++ z) ≠ 34 := by
    by_cases hl : n < 128
    · have e : c0 (Lib.encodeRune n ++ z) = n.toNat := by
        rw [enc_low h0 hl]
        show (UInt8.ofNat n.toNat).toNat = _
        rw [ofNat_low (by omega)]
      rw [e]
      omega
    · have := c0_high (show 128 ≤ n by omega) z
      omega
  refine ⟨?_, hc.2, by omega⟩
  unfold signL
  rw [if_neg hc.1, hn]
  dsimp only
  rw [if_neg (by
    rintro (h | h)
    · omega
    · unfold rawL at h
      rw [if_pos rfl] at h
      simp at h
      omega)]
theorem inL_step {lit : Bool} {a z : List UInt8} {n : Nat} {ns : List Int} {m : Nat} (hs : signL lit (a ++ z) = (n, a.length)) (hc : c0 (a ++ z) ≠ endC lit) (ha : a.length ≠ 0) (h : inL lit z = some (ns, m)) : inL lit (a ++ z) = some ((n : Int) :: ns, a.length + m) := by
  rw [inL_go (by rw [List.length_append]; omega) hc (by rw [hs]; exact ha), hs]
  dsimp only
  rw [List.drop_left' rfl, h]
  rfl
theorem in_iri (z : List UInt8) : ∀ ns : List Int, (∀ x ∈ ns, isB x = true) → inL false (iriL (ns.flatMap Lib.encodeRune) ++ 62 :: z) = some (ns, (iriL (ns.flatMap Lib.encodeRune)).length + 1)
  | [], _ => inL_end (by simp) rfl
  | n :: ns, h => by
    have ih := in_iri z ns (fun x hx => h x (by simp [hx]))
    have hB := h n (by simp)
    rw [List.flatMap_cons, iriL_app, iri_one hB, List.append_assoc]
    obtain ⟨s1, s2, s3⟩ := sign_iri hB (iriL (ns.flatMap Lib.encodeRune) ++ 62 :: z)
    rw [inL_step s1 s2 s3 ih, List.length_append, (isB_nat hB).2.2, Nat.add_assoc]
theorem in_lit (z : List UInt8) : ∀ ns : List Int, (∀ x ∈ ns, isB x = true) → inL true (litL (ns.flatMap Lib.encodeRune) ++ 34 :: z) = some (ns, (litL (ns.flatMap Lib.encodeRune)).length + 1)
  | [], _ => inL_end (by simp) rfl
  | n :: ns, h => by
    have ih := in_lit z ns (fun x hx => h x (by simp [hx]))
    have hB := h n (by simp)
    rw [List.flatMap_cons, litL_app, List.append_assoc]
    obtain ⟨s1, s2, s3⟩ := sign_lit hB (litL (ns.flatMap Lib.encodeRune) ++ 34 :: z)
    rw [inL_step s1 s2 s3 ih, List.length_append, (isB_nat hB).2.2, Nat.add_assoc]
theorem valid_vld {x : ByteArray} (h : validB x = true) : vld x.data.toList := by
  rw [← sigR_valid] at h
  unfold vld
  have h2 := eq_of_beq h
  unfold sigR at h2
  split at h2
  · assumption
  · simp at h2
theorem vld_valid {x : ByteArray} (h : vld x.data.toList) : validB x = true := by
  rw [← sigR_valid, sigR_ok h]; rfl
theorem signs_of {x : ByteArray} (h : validB x = true) : ∃ ns : List Int, (∀ n ∈ ns, isB n = true) ∧ x.data.toList = ns.flatMap Lib.encodeRune ∧ textS ns = x := by
  have hv := valid_vld h
  obtain ⟨h1, h2⟩ := sgn_valid _ hv
  exact ⟨_, h1, h2.symm, ba_ext (text_sig _ hv).2⟩
theorem tk_iri {x : ByteArray} (h : validB x = true) (z : List UInt8) : tkL (60 :: (iriL x.data.toList ++ 62 :: z)) = some (1, x, (iriL x.data.toList).length + 2) := by
  obtain ⟨ns, h1, h2, h3⟩ := signs_of h
  unfold tkL
  rw [if_pos (show c0 (60 :: (iriL x.data.toList ++ 62 :: z)) = 60 from rfl), List.drop_succ_cons, List.drop_zero, h2, in_iri z ns h1]
  simp only [Option.map_some, h3]
  rw [show 1 + ((iriL (ns.flatMap Lib.encodeRune)).length + 1) = (iriL (ns.flatMap Lib.encodeRune)).length + 2 by omega]
theorem tk_lit {x : ByteArray} (h : validB x = true) (z : List UInt8) : tkL (34 :: (litL x.data.toList ++ 34 :: z)) = some (3, x, (litL x.data.toList).length + 2) := by
  obtain ⟨ns, h1, h2, h3⟩ := signs_of h
  unfold tkL
  rw [if_neg (by simp [c0]), if_pos (show c0 (34 :: (litL x.data.toList ++ 34 :: z)) = 34 from rfl), List.drop_succ_cons, List.drop_zero, h2, in_lit z ns h1]
  simp only [Option.map_some, h3]
  rw [show 1 + ((litL (ns.flatMap Lib.encodeRune)).length + 1) = (litL (ns.flatMap Lib.encodeRune)).length + 2 by omega]
theorem tk_caret (z : List UInt8) : tkL (94 :: 94 :: z) = some (5, ⟨#[]⟩, 2) := by
  unfold tkL
  simp [c0, c1]
theorem tk_label {x : ByteArray} {z : List UInt8} (h : label (x.data.toList ++ z) = x.data.toList.length) (h0 : x.data.toList ≠ []) : tkL (95 :: 58 :: (x.data.toList ++ z)) = some (2, x, x.data.toList.length + 2) := by
  unfold tkL
  rw [if_neg (by simp [c0]), if_neg (by simp [c0]), if_pos (by simp [c0, c1]), List.drop_succ_cons, List.drop_succ_cons, List.drop_zero, h, if_neg (by rw [List.length_eq_zero_iff]; exact h0), List.take_left' rfl, Nat.add_comm]
theorem tk_tag {x : ByteArray} {z : List UInt8} (h : tag (x.data.toList ++ z) = x.data.toList.length) (h0 : x.data.toList ≠ []) : tkL (64 :: (x.data.toList ++ z)) = some (4, x, x.data.toList.length + 1) := by
  unfold tkL
  rw [if_neg (by simp [c0]), if_neg (by simp [c0]), if_neg (by simp [c0]), if_pos (by simp [c0]), List.drop_succ_cons, List.drop_zero, h, if_neg (by rw [List.length_eq_zero_iff]; exact h0), List.take_left' rfl, Nat.add_comm]
/-- What may stand behind a term's text: it ends a label, a tag. -/
def Stp (z : List UInt8) : Prop := (∀ b : List UInt8, label b = b.length → label (b ++ z) = b.length) ∧ (∀ b : List UInt8, tag b = b.length → tag (b ++ z) = b.length)
theorem stp_blank (z : List UInt8) : Stp (32 :: z) := by
  refine ⟨fun b h => ?_, fun b h => ?_⟩
  · have := label_blank b z
    rw [h, List.take_length] at this
    exact this
  · have := tag_blank b z
    rw [h, List.take_length] at this
    exact this
/-- A term's tokens. -/
def tokT (t : Tm) (p : Nat) : List LTok :=
  if t.k = 1 then [⟨1, t.x, p⟩]
  else if t.k = 2 then [⟨2, t.x, p⟩]
  else if t.k = 4 then [⟨3, t.x, p⟩, ⟨5, ⟨#[]⟩, p + (litL t.x.data.toList).length + 2⟩, ⟨1, t.y, p + (litL t.x.data.toList).length + 4⟩]
  else if t.l.data.toList = [] then [⟨3, t.x, p⟩]
  else [⟨3, t.x, p⟩, ⟨4, t.l, p + (litL t.x.data.toList).length + 2⟩]
theorem lnL_tok' {l z : List UInt8} (p : Nat) {k m : Nat} {x : ByteArray} (ht : tkL l = some (k, x, m)) (hz : l.drop m = z) : lnL l p = (lnL z (p + m)).map fun ts => ⟨k, x, p⟩ :: ts := by
  rw [lnL_tok p ht, hz]
theorem map_map_e (e : Except Nat (List LTok)) (f g : List LTok → List LTok) : (e.map f).map g = e.map fun x => g (f x) := by cases e <;> rfl
theorem lnL_text {t : Tm} (h : rightB t = true) {z : List UInt8} (hz : Stp z) (p : Nat) : lnL (textL t ++ z) p = (lnL z (p + (textL t).length)).map fun ts => tokT t p ++ ts := by
  obtain ⟨k, x, l, y⟩ := t
  have dropc : ∀ (c : UInt8) (m r : List UInt8) (d : UInt8), (c :: (m ++ d :: r)).drop (m.length + 2) = r := fun c m r d => by
    rw [show m.length + 2 = (m.length + 1) + 1 by omega, List.drop_succ_cons, ← List.drop_drop, List.drop_left' rfl]; rfl
  rcases right_cases h with ⟨rfl, rfl, rfl, hx⟩ | ⟨rfl, rfl, rfl, hx⟩ | ⟨rfl, rfl, hx, hl⟩ | ⟨rfl, rfl, -, hx, hy⟩
  · have e : textL ⟨1, x, ⟨#[]⟩, ⟨#[]⟩⟩ = 60 :: (iriL x.data.toList ++ [62]) := rfl
    have e2 : textL ⟨1, x, ⟨#[]⟩, ⟨#[]⟩⟩ ++ z = 60 :: (iriL x.data.toList ++ 62 :: z) := by rw [e]; simp
    have e3 : (textL ⟨1, x, ⟨#[]⟩, ⟨#[]⟩⟩).length = (iriL x.data.toList).length + 2 := by rw [e]; simp
    rw [e2, e3, lnL_tok' p (tk_iri hx z) (dropc _ _ _ _)]
    rfl
  · have e : textL ⟨2, x, ⟨#[]⟩, ⟨#[]⟩⟩ = 95 :: 58 :: x.data.toList := rfl
    have e2 : textL ⟨2, x, ⟨#[]⟩, ⟨#[]⟩⟩ ++ z = 95 :: 58 :: (x.data.toList ++ z) := by rw [e]; rfl
    have e3 : (textL ⟨2, x, ⟨#[]⟩, ⟨#[]⟩⟩).length = x.data.toList.length + 2 := by rw [e]; rfl
    unfold labelB at hx
    rw [Bool.and_eq_true] at hx
    have h0 : x.data.toList ≠ [] := by
      intro e0
      have h1 := hx.1
      rw [ByteArray.toList_eq, e0] at h1
      cases h1
    have hlab : label x.data.toList = x.data.toList.length := by
      have h1 := hx.2
      rw [beq_iff_eq, ← size_toList] at h1
      exact Int.ofNat.inj h1
    rw [e2, e3, lnL_tok' p (tk_label (hz.1 _ hlab) h0) (by rw [List.drop_succ_cons, List.drop_succ_cons, List.drop_left' rfl])]
    rfl
  · by_cases h0 : l.data.toList = []
    · have e : textL ⟨3, x, l, ⟨#[]⟩⟩ = 34 :: (litL x.data.toList ++ [34]) := by unfold textL; rw [if_neg (by simp), if_neg (by simp), if_neg (by simp), if_pos h0]
      have e2 : textL ⟨3, x, l, ⟨#[]⟩⟩ ++ z = 34 :: (litL x.data.toList ++ 34 :: z) := by rw [e]; simp
      have e3 : (textL ⟨3, x, l, ⟨#[]⟩⟩).length = (litL x.data.toList).length + 2 := by rw [e]; simp
      rw [e2, e3, lnL_tok' p (tk_lit hx z) (dropc _ _ _ _)]
      unfold tokT
      rw [if_neg (by simp), if_neg (by simp), if_neg (by simp), if_pos h0]
      rfl
    · have e : textL ⟨3, x, l, ⟨#[]⟩⟩ = 34 :: (litL x.data.toList ++ 34 :: 64 :: l.data.toList) := by unfold textL; rw [if_neg (by simp), if_neg (by simp), if_neg (by simp), if_neg h0]
      have e2 : textL ⟨3, x, l, ⟨#[]⟩⟩ ++ z = 34 :: (litL x.data.toList ++ 34 :: 64 :: (l.data.toList ++ z)) := by rw [e]; simp
      have e3 : (textL ⟨3, x, l, ⟨#[]⟩⟩).length = (litL x.data.toList).length + 2 + (l.data.toList.length + 1) := by rw [e]; simp; omega
      have htag : tag l.data.toList = l.data.toList.length := by
        unfold tagB at hl
        rw [Bool.and_eq_true] at hl
        have h1 := hl.1
        rw [beq_iff_eq, ← size_toList] at h1
        exact Int.ofNat.inj h1
      rw [e2, e3, lnL_tok' p (tk_lit hx _) (dropc _ _ _ _), lnL_tok' _ (tk_tag (hz.2 _ htag) h0) (by rw [List.drop_succ_cons, List.drop_left' rfl]), map_map_e]
      unfold tokT
      rw [if_neg (by simp), if_neg (by simp), if_neg (by simp), if_neg h0]
      simp only [Nat.add_assoc]
      rfl
  · have e : textL ⟨4, x, ⟨#[]⟩, y⟩ = 34 :: (litL x.data.toList ++ 34 :: 94 :: 94 :: 60 :: (iriL y.data.toList ++ [62])) := rfl
    have e2 : textL ⟨4, x, ⟨#[]⟩, y⟩ ++ z = 34 :: (litL x.data.toList ++ 34 :: 94 :: 94 :: 60 :: (iriL y.data.toList ++ 62 :: z)) := by rw [e]; simp
    have e3 : (textL ⟨4, x, ⟨#[]⟩, y⟩).length = (litL x.data.toList).length + 2 + 2 + ((iriL y.data.toList).length + 2) := by rw [e]; simp; omega
    rw [e2, e3, lnL_tok' p (tk_lit hx _) (dropc _ _ _ _), lnL_tok' (z := 60 :: (iriL y.data.toList ++ 62 :: z)) _ (tk_caret _) rfl, lnL_tok' _ (tk_iri hy z) (dropc _ _ _ _), map_map_e, map_map_e]
    unfold tokT
    rw [if_neg (by simp), if_neg (by simp), if_pos rfl]
    simp only [Nat.add_assoc]
    rfl
theorem tagB_iff {l : ByteArray} : tagB l = true ↔ tag l.data.toList = l.data.toList.length ∧ smallB l.data.toList = true := by
  rw [tagB_small, Bool.and_eq_true, beq_iff_eq, ← size_toList]
  constructor
  · rintro ⟨h1, h2⟩
    exact ⟨by omega, h2⟩
  · rintro ⟨h1, h2⟩
    exact ⟨by omega, h2⟩
theorem low_same : ∀ l : List UInt8, smallB l = true → l.map lowB = l
  | [], _ => rfl
  | c :: t, h => by
    unfold smallB at h
    rw [List.all_cons, Bool.and_eq_true] at h
    rw [List.map_cons, low_same t h.2]
    unfold lowB
    rw [if_neg (by simpa using h.1)]
theorem low_tag {l : ByteArray} (h : tagB l = true) : lowS l = l := by
  unfold lowS
  rw [low_same _ (tagB_iff.1 h).2, mk_of]
/-- What the program reads of a term's tokens. -/
theorem obj_tok {t : Tm} (h : rightB t = true) (n p : Nat) {r : List LTok} (hr : headK r ≠ 4 ∧ headK r ≠ 5) : objC n ⟨tokT t p ++ r, none⟩ = (t, ⟨r, none⟩) := by
  obtain ⟨k, x, l, y⟩ := t
  rcases right_cases h with ⟨rfl, rfl, rfl, hx⟩ | ⟨rfl, rfl, rfl, hx⟩ | ⟨rfl, rfl, hx, hl⟩ | ⟨rfl, rfl, hq, hx, hy⟩
  · simp [tokT, objC, mustP, namedP]
  · simp [tokT, objC, mustP, namedP]
  · by_cases h0 : l.data.toList = []
    · have e : l = ⟨#[]⟩ := nil_of h0
      subst e
      simp [tokT, objC, mustP, hr.1, hr.2]
    · simp [tokT, objC, mustP, h0, headK, low_tag hl]
  · have e : typedT x y = ⟨4, x, ⟨#[]⟩, y⟩ := typed_no (by simpa using hq)
    simp [tokT, objC, mustP, headK, e]
end Go.Proofs.YtpnlabjgmdhicaaGreatDoor
namespace Go.Proofs.YtpnlabjgmdhicaaGreatDoor
open Go Go.RowKit Um Fm Lx Tx

/-- A token whose text is one of its kind. -/
structure TokG (t : LTok) : Prop where
  v : validB t.x = true
  b : t.k = 2 → labelB t.x = true
  g : t.k = 4 → tag t.x.data.toList = t.x.data.toList.length
  g0 : t.k = 4 → t.x.data.toList ≠ []
  k1 : 1 ≤ t.k
  k6 : t.k ≤ 6
theorem tk_tagged {l : List UInt8} {k m : Nat} {x : ByteArray} (e : k = 4) (h : tkL l = some (k, x, m)) : tag x.data.toList = x.data.toList.length ∧ x.data.toList ≠ [] := by
  subst e
  unfold tkL at h
  split at h
  · cases hi : inL false (l.drop 1) with
    | none => rw [hi] at h; cases h
    | some q => rw [hi] at h; simp at h
  split at h
  · cases hi : inL true (l.drop 1) with
    | none => rw [hi] at h; cases h
    | some q => rw [hi] at h; simp at h
  split at h
  · split at h <;> simp at h
  split at h
  · split at h
    · cases h
    · next h0 =>
      simp only [Option.some.injEq, Prod.mk.injEq] at h
      obtain ⟨-, rfl, -⟩ := h
      show tag ((l.drop 1).take (tag (l.drop 1))).toArray.toList = ((l.drop 1).take (tag (l.drop 1))).toArray.toList.length ∧ ((l.drop 1).take (tag (l.drop 1))).toArray.toList ≠ []
      have hle := tag_le (l.drop 1)
      rw [List.toList_toArray, tag_take, List.length_take]
      refine ⟨by omega, fun e => ?_⟩
      have := congrArg List.length e
      rw [List.length_take, List.length_nil] at this
      omega
  split at h
  · simp at h
  split at h
  · simp at h
  · cases h
theorem tk_right {l : List UInt8} {k m : Nat} {x : ByteArray} (h : tkL l = some (k, x, m)) (p : Nat) : TokG ⟨k, x, p⟩ := by
  obtain ⟨-, -, -, -, hv, -, h1, h6⟩ := tkL_spec h
  refine ⟨vld_valid hv, fun e => ?_, fun e => (tk_tagged e h).1, fun e => (tk_tagged e h).2, h1, h6⟩
  · simp only at e
    subst e
    unfold tkL at h
    split at h
    · cases hi : inL false (l.drop 1) with
      | none => rw [hi] at h; cases h
      | some q => rw [hi] at h; simp at h
    split at h
    · cases hi : inL true (l.drop 1) with
      | none => rw [hi] at h; cases h
      | some q => rw [hi] at h; simp at h
    split at h
    · split at h
      · cases h
      · next h0 =>
        simp only [Option.some.injEq, Prod.mk.injEq] at h
        obtain ⟨-, rfl, -⟩ := h
        have hle := label_le (l.drop 2)
        unfold labelB
        rw [Bool.and_eq_true]
        have hl : (mkS ((l.drop 2).take (label (l.drop 2)))).size = label (l.drop 2) := by rw [mkS_size, List.length_take]; omega
        refine ⟨?_, ?_⟩
        · show (!(mkS ((l.drop 2).take (label (l.drop 2)))).toList.isEmpty) = true
          rw [mkS_list]
          cases hx : (l.drop 2).take (label (l.drop 2)) with
          | nil =>
            have := congrArg List.length hx
            rw [List.length_take, List.length_nil] at this
            omega
          | cons _ _ => rfl
        · show ((label (mkS ((l.drop 2).take (label (l.drop 2)))).data.toList : Int) == (mkS ((l.drop 2).take (label (l.drop 2)))).size) = true
          rw [hl]
          show ((label ((l.drop 2).take (label (l.drop 2))).toArray.toList : Int) == _) = true
          rw [List.toList_toArray, label_take]
          simp
    split at h
    · split at h <;> simp at h
    split at h
    · simp at h
    split at h
    · simp at h
    · cases h
theorem ln_right : ∀ (l : List UInt8) (p : Nat) (ts : List LTok), lnL l p = .ok ts → ∀ t ∈ ts, TokG t := by
  refine ln_ind (P := fun l => ∀ (p : Nat) (ts : List LTok), lnL l p = .ok ts → ∀ t ∈ ts, TokG t) ?_ ?_ ?_ ?_
  · intro l h p ts hl
    rw [lnL_stop p h] at hl
    cases hl
    intro t ht; cases ht
  · intro l h0 h ih p ts hl
    rw [lnL_blank p h0 h] at hl
    exact ih _ _ hl
  · intro l h0 h1 h ht p ts hl
    rw [lnL_bad p h0 h1 h ht] at hl
    cases hl
  · intro l k m x ht ih p ts hl
    rw [lnL_tok p ht] at hl
    cases hr : lnL (l.drop m) (p + m) with
    | error e => rw [hr] at hl; cases hl
    | ok us =>
      rw [hr] at hl
      cases hl
      intro t h
      rw [List.mem_cons] at h
      rcases h with rfl | h
      · exact tk_right ht p
      · exact ih _ _ hr t h
end Go.Proofs.YtpnlabjgmdhicaaGreatDoor
namespace Go.Proofs.YtpnlabjgmdhicaaGreatDoor
open Go Go.RowKit Um Fm Lx Tx
/-- What is told of what was read, if it is all that there is. -/
def told {α : Type} (z : α) (o : α × Ls) : α × Bool × Nat × Int := match (stopP o.2).bad with
  | some p => (z, false, p, 10)
  | none => (o.1, true, 0, 0)
/-- Something that is all that a line has, if it has something; whether it has, and where it can't be, and why. -/
def readL {α : Type} (blank : Bool) (f : Nat → Ls → α × Ls) (z : α) (l : List UInt8) : α × Bool × Nat × Int :=
  if (lineL l).2.2 = 0 then
    if blank = true ∧ (lineL l).1 = [] then (z, false, 0, 0)
    else told z (f l.length ⟨(lineL l).1, none⟩)
  else (z, false, (lineL l).2.1, (lineL l).2.2)
theorem ln_size : ∀ (l : List UInt8) (p : Nat) (ts : List LTok), lnL l p = .ok ts → ∀ t ∈ ts, t.x.size ≤ 4 * l.length := by
  refine ln_ind (P := fun l => ∀ (p : Nat) (ts : List LTok), lnL l p = .ok ts → ∀ t ∈ ts, t.x.size ≤ 4 * l.length) ?_ ?_ ?_ ?_
  · intro l h p ts hl
    rw [lnL_stop p h] at hl
    cases hl
    intro t ht; cases ht
  · intro l h0 h ih p ts hl t ht
    rw [lnL_blank p h0 h] at hl
    have := ih _ _ hl t ht
    rw [List.length_drop] at this
    omega
  · intro l h0 h1 h ht p ts hl
    rw [lnL_bad p h0 h1 h ht] at hl
    cases hl
  · intro l k m x ht ih p ts hl
    rw [lnL_tok p ht] at hl
    cases hr : lnL (l.drop m) (p + m) with
    | error e => rw [hr] at hl; cases hl
    | ok us =>
      rw [hr] at hl
      cases hl
      obtain ⟨m1, m2, _, _, _, m6, _, _⟩ := tkL_spec ht
      intro t h
      rw [List.mem_cons] at h
      rcases h with rfl | h
      · show x.size ≤ _; omega
      · have := ih _ _ hr t h
        rw [List.length_drop] at this
        omega
/-- A line's tokens are some, or there are none. -/
theorem lineL_cases (l : List UInt8) : (∃ ts, vld l ∧ lnL l 0 = .ok ts ∧ lineL l = (ts, 0, 0)) ∨ ((lineL l).1 = [] ∧ (lineL l).2.2 ≠ 0 ∧ (lineL l).2.1 ≤ l.length) := by
  by_cases hv : vld l
  · cases hl : lnL l 0 with
    | ok ts => exact .inl ⟨ts, hv, rfl, lineL_ok hv hl⟩
    | error e =>
      right
      rw [lineL_no hv hl]
      obtain ⟨a, h1, h2, _⟩ := lnL_err _ _ _ hl
      exact ⟨rfl, by show (10 : Int) ≠ 0; decide, by show e ≤ _; omega⟩
  · right
    have h2 : (sgn l).2.2 = false := by simpa [vld] using hv
    have h3 := (sgn_invalid l h2).1
    unfold lineL
    rw [h2]
    exact ⟨rfl, by show (11 : Int) ≠ 0; decide, Nat.le_of_lt h3⟩
theorem line_toks (l : List UInt8) (hl : l.length ≤ 100000) : TsOk (lineL l).1 ∧ (∀ t ∈ (lineL l).1, TokG t) ∧ (lineL l).1.length ≤ l.length ∧ (∀ t ∈ (lineL l).1, t.p ≤ l.length) := by
  rcases lineL_cases l with ⟨ts, hv, h, e⟩ | ⟨e, -, -⟩
  · rw [e]
    exact ⟨fun t ht => by have := ln_size l 0 ts h t ht; omega, ln_right l 0 ts h, lnL_len l 0 ts h, lnL_p h⟩
  · rw [e]
    refine ⟨?_, ?_, Nat.zero_le _, ?_⟩ <;> (intro t ht; cases ht)
theorem CrAt.new {W : World} {base : Nat} {A : Option Addr} {c : Nat} {ts : List LTok} (own : W.ownsRow base 102 3 (.slice A ts.length c) ts.length (ts.flatMap tokC)) (n : Nat) :
    CrAt (W.alloc (.cells #[.slice A ts.length c, .int .i64 n, .bool false, .int .i64 0] 99)) W.heap.size n ⟨ts, none⟩ := by
  have hB : Below W.heap.size W (W.alloc (.cells #[.slice A ts.length c, .int .i64 n, .bool false, .int .i64 0] 99)) := (Below.refl _ _).alloc (Nat.le_refl _) _
  refine ⟨A, c, 0, heap_alloc_new W _, fun p hp => (by cases hp), ?_, ?_, ?_⟩
  · intro a ha
    rcases own.2 with ⟨hv, _⟩ | ⟨g, cap, cur, hv, hg, hh, _⟩
    · injection hv with e1 e2 e3; subst e1; cases ha
    · injection hv with e1 e2 e3
      rw [e1] at ha
      injection ha with ha
      subst ha
      exact (Array.getElem?_eq_some_iff.1 hh).1
  · rcases own.2 with ⟨hv, hx⟩ | ⟨g, cap, cur, hv, hg, hh, hnc, _⟩
    · injection hv with e1 e2 e3; show ts.length ≤ c; omega
    · injection hv with e1 e2 e3; show ts.length ≤ c; omega
  · exact ⟨_, (Rd.of_own own).later hB, All.of_flat ts fun _ _ => rfl⟩
theorem stop_none {s : Ls} (h : s.bad = none) (h2 : s.r = []) : stopP s = s := by
  unfold stopP
  rw [h, h2]
theorem stop_some {s : Ls} {p : Nat} (h : s.bad = some p) : stopP s = s := by
  unfold stopP
  rw [h]
theorem stop_more {s : Ls} {t : LTok} {r : List LTok} (h : s.bad = none) (h2 : s.r = t :: r) : (stopP s).bad = some t.p ∧ (mustP [] 0 s).2 = ⟨t :: r, some t.p⟩ := by
  unfold stopP mustP
  rw [h, h2]
  exact ⟨rfl, rfl⟩
theorem told_bad {α : Type} {z : α} {o : α × Ls} {p : Nat} (h : o.2.bad = some p) : told z o = (z, false, p, 10) := by
  unfold told
  rw [stop_some h, h]
theorem told_more {α : Type} {z : α} {o : α × Ls} {t : LTok} {r : List LTok} (h : o.2.bad = none) (h2 : o.2.r = t :: r) : told z o = (z, false, t.p, 10) := by
  unfold told
  rw [(stop_more h h2).1]
theorem told_ok {α : Type} {z : α} {o : α × Ls} (h : o.2.bad = none) (h2 : o.2.r = []) : told z o = (o.1, true, 0, 0) := by
  unfold told
  rw [stop_none h h2, h]
theorem below_s4 {B : Nat} {w W : World} (h : Below B w W) {z : Nat} (hz : B ≤ z) (i : Nat) (v0 v1 v2 v3 : Value) : Below B w ((((W.setCell ⟨z, i, none⟩ v0).setCell ⟨z, i + 1, none⟩ v1).setCell ⟨z, i + 2, none⟩ v2).setCell ⟨z, i + 3, none⟩ v3) :=
  (((h.setCell (p := ⟨z, i, none⟩) hz v0).setCell (p := ⟨z, i + 1, none⟩) hz v1).setCell (p := ⟨z, i + 2, none⟩) hz v2).setCell (p := ⟨z, i + 3, none⟩) hz v3
theorem below_s12 {B : Nat} {w W : World} (h : Below B w W) {z : Nat} (hz : B ≤ z) (v0 v1 v2 v3 v4 v5 v6 v7 v8 v9 v10 v11 : Value) : Below B w ((((((((((((W.setCell ⟨z, 0, none⟩ v0).setCell ⟨z, 1, none⟩ v1).setCell ⟨z, 2, none⟩ v2).setCell ⟨z, 3, none⟩ v3).setCell ⟨z, 4, none⟩ v4).setCell ⟨z, 5, none⟩ v5).setCell ⟨z, 6, none⟩ v6).setCell ⟨z, 7, none⟩ v7).setCell ⟨z, 8, none⟩ v8).setCell ⟨z, 9, none⟩ v9).setCell ⟨z, 10, none⟩ v10).setCell ⟨z, 11, none⟩ v11) :=
  below_s4 (below_s4 (below_s4 h hz 0 v0 v1 v2 v3) hz 4 v4 v5 v6 v7) hz 8 v8 v9 v10 v11
/-- What the program's line tells, as a call. -/
theorem lexLineT (s : ByteArray) (w : World) (hC : CtxL w) (hs : s.size ≤ 100000) : Calls Tryz.prog 63 #[.string s] w (LineR s w) := lexLine s w hC (by omega)
end Go.Proofs.YtpnlabjgmdhicaaGreatDoor
namespace Go.Proofs.YtpnlabjgmdhicaaGreatDoor
open Go Go.RowKit Um Fm Lx Tx
end Go.Proofs.YtpnlabjgmdhicaaGreatDoor
