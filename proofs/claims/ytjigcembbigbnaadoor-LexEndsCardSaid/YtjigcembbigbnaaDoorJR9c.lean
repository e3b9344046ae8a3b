/- The answer for lex (ossuaryref09): inner. -/
import Derived.Test.YtjigcembbigbnaaDoorJR9b
import Derived.Test.YtjigcembbigbnaaDoorJLex6
import Derived.Test.YtjigcembbigbnaaDoorJUtfNext
import Derived.Test.YtjigcembbigbnaaDoorJUtfRaw
import Derived.Test.YtjigcembbigbnaaDoorJMem
namespace Go.Proofs.YtjigcembbigbnaaDoor
open Go Go.RowKit Um Lx

theorem uint8Info9 : (Tryd.prog.info? 5).map (fun i => (i.zero, i.size, i.bytes)) = some (some (.int .u8 0), 1, 1) := by kernel_rfl
/-- What the signs up to an end are told as. -/
def inV : Option (List Int × Nat) → ByteArray × Nat
  | some (ns, m) => (textS ns, m)
  | none => (⟨#[]⟩, 0)
def InV (lit : Bool) (s : ByteArray) (k : Nat) (w : World) (e : Ending) (w' : World) : Prop := e = .returned (.tuple #[.string (inV (inL lit (from_ s k))).1, .int .i64 (inV (inL lit (from_ s k))).2]) ∧ Below w.heap.size w w'
def InVL (lit : Bool) (s : ByteArray) (k : Nat) (w : World) (v i : Value) (wr : World) : Prop :=
  ∃ (p n : Nat) (acc : List Int), k ≤ p ∧ p ≤ s.size ∧ acc.length ≤ p - k ∧ i = .int .i64 p ∧ wr.ownsRow w.heap.size 5 1 v n ((encL acc).map (Value.int .u8)) ∧ Below w.heap.size w wr ∧ Hid (inRest lit (from_ s k) (p - k) acc)
theorem nx_zero {l : List UInt8} (h : (nx l).2 = 0) : nx l = (0, 0) := by
  unfold nx at h ⊢
  split
  · rfl
  · rename_i h0
    rw [if_neg h0] at h
    split
    · rfl
    · rename_i h1
      rw [if_neg h1] at h
      exact absurd h (by have := decodeN_pos l.length (l.getD 0 0).toNat (l.getD 1 0).toNat (l.getD 2 0).toNat (l.getD 3 0).toNat; omega)
theorem rawL_f9 (n : Nat) : rawL false n = rawB (n : Int) := by unfold rawL; simp only [Bool.false_eq_true, if_false]
theorem raw_lit {n : Nat} (h : rawL true n = false) : n = 10 ∨ n = 13 := by
  unfold rawL at h
  simp at h
  omega
theorem raw_lit' {n : Nat} (h : rawL true n = true) : n ≠ 10 ∧ n ≠ 13 := by
  unfold rawL at h
  simpa using h
theorem encL_snoc9 (l : List Int) (x : Int) : encL (l ++ [x]) = encL l ++ Lib.encodeRuneZ x := by unfold encL; rw [List.flatMap_append]; simp
theorem encL_len9 {w : World} {base n : Nat} {v : Value} {acc : List Int} {T : TypeId} (h : w.ownsRow base T 1 v n ((encL acc).map (Value.int .u8))) : n ≤ 4 * acc.length := by
  have h1 := h.1
  have h2 := encL_length acc
  simp at h1
  omega
theorem rune_len (x : Int) : (Lib.encodeRuneZ x).length ≤ 4 := by
  have := encL_length [x]
  simpa [encL] using this
set_option maxRecDepth 10000 in
set_option maxHeartbeats 4000000 in
theorem refInner (lit : Bool) (s : ByteArray) (k : Nat) (w : World) (hk : k ≤ s.size) (hs : s.size ≤ 1000000) :
    Calls Tryd.prog 31 #[.string s, .int .i64 k, .int .u8 (endC lit)] w (InV lit s k w) := by
  obtain ⟨q, hq⟩ : ∃ q, endC lit = q := ⟨_, rfl⟩
  have hq34 : ((q : Int) == 34) = lit := by rw [← hq]; cases lit <;> decide
  have hq62 : ((q : Int) == 62) = !lit := by rw [← hq]; cases lit <;> decide
  rw [hq]
  have Hq := Lib.hid hq
  clear hq
  go_enter Tryd.func31, Tryd.ntmps31
  go_wp2
  go_loopw [8, 9] (InVL lit s k w) (fun _ i _ => s.size - (intOf i).toNat)
  case atStart => exact ⟨k, 0, [], by omega, hk, by simp, rfl, by simpa [encL] using World.ownsRow_nil _ _ _ _, Below.refl _ _, by rw [Nat.sub_self]; exact inRest_start _ _⟩
  case round =>
    obtain ⟨p, n, acc, hkp, hp, had, rfl, own, hB, HI⟩ := hrel
    have hn4 := encL_len9 own
    have Own := Lib.hid own
    have HB := Lib.hid hB
    have hdr : (from_ s k).drop (p - k) = from_ s p := by rw [← from_drop]; congr 1; omega
    have Hdr := Lib.hid hdr
    have hfl := from_len s p
    have hfk := from_len s k
    have hb0 : bn s p = c0 (from_ s p) := (bn_from s p 0).symm
    clear own hB hdr
    by_cases hlt : p < s.size
    · have hd1 : decide (p < s.size) = true := by simp; omega
      have hpe : ((p : Int) == (s.size : Int)) = false := by simp; omega
      have hpe2 : (p == s.size) = false := by simp; omega
      by_cases hend : bn s p = q
      · have h1 : ((bn s p : Int) != (q : Int)) = false := by rw [hend]; simp
        have h2 : (bn s p != q) = false := by rw [hend]; simp
        have Hres : Hid (inV (inL lit (from_ s k)) = (textS acc, p - k + 1)) := by
          show _ = _
          rw [inRest_end HI.out (by omega) (by rw [Hdr.out, ← hb0, hend, Hq.out])]; rfl
        obtain ⟨A', c', rfl⟩ := own_form Own.out
        have hcv := run_conv_bytes (P := Tryd.prog) (c := c') 25 9 5 Tryd.underlying25 Tryd.underlying5 Tryd.underlying9 (Rd.of_own Own.out) (by simpa using Own.out.1)
        rw [show strOfNums (encL acc) = textS acc from rfl] at hcv
        have hm : (p : Int) + 1 - (k : Int) = ((p - k + 1 : Nat) : Int) := by omega
        have Hm := Lib.hid hm
        clear hend hb0 hfl hfk hm
        go_wp2
        go_ret2
        exact ⟨by rw [Hres.out, ← Hm.out]; rfl, HB.out⟩
      · have h1 : ((bn s p : Int) != (q : Int)) = true := by simp; omega
        have h2 : (bn s p != q) = true := by simp [hend]
        have hne : c0 (from_ s p) ≠ endC lit := by rw [← hb0, Hq.out]; exact hend
        have he := fun W => refEscape lit s p W hlt hs
        have hnx := fun W => refNext s p W hlt (Nat.le_trans hs (by decide))
        have H0 : Hid ((from_ s p).length ≠ 0) := by show _ ≠ _; omega
        have Hne := Lib.hid hne
        have Hlk : Hid (p - k < (from_ s k).length) := by show _ < _; omega
        have hgo : (signL lit (from_ s p)).2 ≠ 0 → inRest lit (from_ s k) (p + (signL lit (from_ s p)).2 - k) (acc ++ [((signL lit (from_ s p)).1 : Int)]) := fun h => by
          have := inRest_go HI.out Hlk.out (by rw [Hdr.out]; exact hne) (by rw [Hdr.out]; exact h)
          rw [Hdr.out] at this
          rwa [show p + (signL lit (from_ s p)).2 - k = p - k + (signL lit (from_ s p)).2 by omega]
        have hno : (signL lit (from_ s p)).2 = 0 → inV (inL lit (from_ s k)) = (⟨#[]⟩, 0) := fun h => by
          rw [inRest_none HI.out (by rw [Hdr.out]; exact inL_bad H0.out hne h)]; rfl
        have hsp := fun h => signL_spec (lit := lit) (l := from_ s p) h
        unfold EscV at he
        clear hend hne hfk
        by_cases h92 : c0 (from_ s p) = 92
        · have hsl : signL lit (from_ s p) = escL lit (from_ s p) := by unfold signL; rw [if_pos h92]
          have her : escR lit (from_ s p) = escL lit (from_ s p) := by unfold escR; rw [if_pos h92]
          rw [hsl] at hgo hno hsp
          rw [her] at he
          have hn92 : nx (from_ s p) = (92, 1) := by rw [nx_low (by omega) (by omega), h92]
          rw [hn92] at hnx
          generalize escL lit (from_ s p) = z at *
          obtain ⟨x, m⟩ := z
          simp only at hgo hno he hsp
          clear hsl her hn92 h92 hb0
          by_cases hm : m = 0
          · subst hm
            have Hres := Lib.hid (hno rfl)
            clear hgo hno hsp hfl
            cases lit
            · have hr := fun W => refRaw 92 W
              rw [show rawB 92 = false by decide] at hr
              go_wp2_with (first
                | (go_at_call 50; refine (he _).mono ?_; rintro e w5 ⟨rfl, hb5⟩; have HB5 := Lib.hid (below_tr HB.out hb5); clear hb5)
                | (go_at_call 30; refine (hnx _).mono ?_; rintro e w6 ⟨rfl, hb6⟩; have HB6 := Lib.hid (below_tr HB5.out hb6); clear hb6)
                | (go_at_call 51; refine (hr _).mono ?_; rintro e w7 ⟨rfl, rfl⟩))
              go_ret2
              exact ⟨by rw [Hres.out]; rfl, HB6.out⟩
            · go_wp2_with (first
                | (go_at_call 50; refine (he _).mono ?_; rintro e w5 ⟨rfl, hb5⟩; have HB5 := Lib.hid (below_tr HB.out hb5); clear hb5)
                | (go_at_call 30; refine (hnx _).mono ?_; rintro e w6 ⟨rfl, hb6⟩; have HB6 := Lib.hid (below_tr HB5.out hb6); clear hb6))
              go_ret2
              exact ⟨by rw [Hres.out]; rfl, HB6.out⟩
          · obtain ⟨s1, s2, _⟩ := hsp hm
            rw [hfl] at s1
            have HI2 := Lib.hid (hgo hm)
            have hby := fun W => refBytesRd (x : Int) W s2
            have hrl := rune_len (x : Int)
            have hme : ((m : Int) == 0) = false := by simp; omega
            have hgap : p + m ≤ s.size := by omega
            clear hgo hno hsp hfl s2
            go_wp2_with (first
              | (go_at_call 50; refine (he _).mono ?_; rintro e w5 ⟨rfl, hb5⟩; have HB5 := Lib.hid (below_tr HB.out hb5); have Own5 := Lib.hid (own_below Own.out hb5 (Nat.le_refl _)); clear hb5)
              | (go_at_call 49; refine (hby _).mono ?_; rintro e w7 ⟨g, rfl, hb7, hr7⟩; have Own7 := Lib.hid (own_below Own5.out hb7 (Nat.le_refl _)); have HB7 := Lib.hid (below_tr HB5.out hb7); have hz7 := HB7.out.size; clear hb7)
              | (at_builtin; refine wpList_app (m := (Lib.encodeRuneZ (x : Int)).length) rfl rfl Tryd.underlying25 uint8Info9 rfl (by omega) rfl Own7.out rfl hr7 (by simp) (ints_oneCell _ _) (by omega) (by omega) hz7 ?_; intro v8 w8 own8 hb8))
            have HBN : Hid (Below w.heap.size w w8) := HB7.out.trans hb8
            go_roundw
            case rel =>
              refine ⟨p + m, n + (Lib.encodeRuneZ (x : Int)).length, acc ++ [(x : Int)], by omega, by omega, by simp; omega, by go_num, ?_, HBN.out, HI2⟩
              rw [encL_snoc9, List.map_append]; exact own8
            case measure => simp [intOf]; omega
        · have hes : escR lit (from_ s p) = (0, 0) := by unfold escR; rw [if_neg h92]
          rw [hes] at he
          have hsl : signL lit (from_ s p) = if (nx (from_ s p)).2 = 0 ∨ rawL lit (nx (from_ s p)).1 = false then (0, 0) else nx (from_ s p) := by unfold signL; rw [if_neg h92]
          rw [hsl] at hgo hno hsp
          by_cases hm : (nx (from_ s p)).2 = 0
          · have hz := nx_zero hm
            rw [hz] at hnx
            have Hres := Lib.hid (hno (by rw [if_pos (.inl hm)]))
            clear hgo hno hsp hfl hsl hm hz hes h92 hb0
            cases lit
            · have hr := fun W => refRaw 0 W
              rw [show rawB 0 = false by decide] at hr
              go_wp2_with (first
                | (go_at_call 50; refine (he _).mono ?_; rintro e w5 ⟨rfl, hb5⟩; have HB5 := Lib.hid (below_tr HB.out hb5); have Own5 := Lib.hid (own_below Own.out hb5 (Nat.le_refl _)); clear hb5)
                | (go_at_call 30; refine (hnx _).mono ?_; rintro e w6 ⟨rfl, hb6⟩; have HB6 := Lib.hid (below_tr HB5.out hb6); have Own6 := Lib.hid (own_below Own5.out hb6 (Nat.le_refl _)); clear hb6)
                | (go_at_call 51; refine (hr _).mono ?_; rintro e w9 ⟨rfl, rfl⟩))
              go_ret2
              exact ⟨by rw [Hres.out]; rfl, HB6.out⟩
            · go_wp2_with (first
                | (go_at_call 50; refine (he _).mono ?_; rintro e w5 ⟨rfl, hb5⟩; have HB5 := Lib.hid (below_tr HB.out hb5); have Own5 := Lib.hid (own_below Own.out hb5 (Nat.le_refl _)); clear hb5)
                | (go_at_call 30; refine (hnx _).mono ?_; rintro e w6 ⟨rfl, hb6⟩; have HB6 := Lib.hid (below_tr HB5.out hb6); have Own6 := Lib.hid (own_below Own5.out hb6 (Nat.le_refl _)); clear hb6))
              go_ret2
              exact ⟨by rw [Hres.out]; rfl, HB6.out⟩
          · have hst := nx_step s p hm
            have hx92 := nx_92 hm
            obtain ⟨x, hx⟩ : ∃ x, (nx (from_ s p)).1 = x := ⟨_, rfl⟩
            obtain ⟨m, hmm⟩ : ∃ m, (nx (from_ s p)).2 = m := ⟨_, rfl⟩
            have hxm : nx (from_ s p) = (x, m) := Prod.ext hx hmm
            rw [hxm] at hnx hgo hno hsp hst
            have hm0 : m ≠ 0 := by rw [← hmm]; exact hm
            have hx92 : x ≠ 92 := by rw [hx] at hx92; exact fun h => h92 (hx92.1 h)
            simp only at hnx hgo hno hsp hst
            obtain ⟨g1, g2, g3⟩ := hst
            have hme : ((m : Int) == 0) = false := by simp; omega
            clear hx hmm hxm hm hes hsl h92 hb0 hfl
            cases hraw : rawL lit x
            · have Hres := Lib.hid (hno (by rw [if_pos (.inr hraw)]))
              clear hno hgo hsp
              cases lit
              · have hr := fun W => refRaw (x : Int) W
                rw [← rawL_f9, hraw] at hr
                clear hraw
                go_wp2_with (first
                  | (go_at_call 50; refine (he _).mono ?_; rintro e w5 ⟨rfl, hb5⟩; have HB5 := Lib.hid (below_tr HB.out hb5); have Own5 := Lib.hid (own_below Own.out hb5 (Nat.le_refl _)); clear hb5)
                  | (go_at_call 30; refine (hnx _).mono ?_; rintro e w6 ⟨rfl, hb6⟩; have HB6 := Lib.hid (below_tr HB5.out hb6); have Own6 := Lib.hid (own_below Own5.out hb6 (Nat.le_refl _)); clear hb6)
                  | (go_at_call 51; refine (hr _).mono ?_; rintro e w9 ⟨rfl, rfl⟩))
                go_ret2
                exact ⟨by rw [Hres.out]; rfl, HB6.out⟩
              · rcases raw_lit hraw with rfl | rfl
                all_goals
                  clear hraw
                  go_wp2_with (first
                    | (go_at_call 50; refine (he _).mono ?_; rintro e w5 ⟨rfl, hb5⟩; have HB5 := Lib.hid (below_tr HB.out hb5); have Own5 := Lib.hid (own_below Own.out hb5 (Nat.le_refl _)); clear hb5)
                    | (go_at_call 30; refine (hnx _).mono ?_; rintro e w6 ⟨rfl, hb6⟩; have HB6 := Lib.hid (below_tr HB5.out hb6); have Own6 := Lib.hid (own_below Own5.out hb6 (Nat.le_refl _)); clear hb6))
                  go_ret2
                  exact ⟨by rw [Hres.out]; rfl, HB6.out⟩
            · have hif : (if m = 0 ∨ rawL lit x = false then ((0, 0) : Nat × Nat) else (x, m)) = (x, m) := by rw [if_neg]; rintro (h | h); exact hm0 h; rw [hraw] at h; cases h
              rw [hif] at hgo hsp
              obtain ⟨_, s2, _⟩ := hsp hm0
              have HI2 := Lib.hid (hgo hm0)
              have hby := fun W => refBytesRd (x : Int) W s2
              have hrl := rune_len (x : Int)
              have hgap : p + m ≤ s.size := g1
              clear hno hgo hsp s2 hif
              cases lit
              · have hr := fun W => refRaw (x : Int) W
                rw [← rawL_f9, hraw] at hr
                clear hraw
                go_wp2_with (first
                  | (go_at_call 50; refine (he _).mono ?_; rintro e w5 ⟨rfl, hb5⟩; have HB5 := Lib.hid (below_tr HB.out hb5); have Own5 := Lib.hid (own_below Own.out hb5 (Nat.le_refl _)); clear hb5)
                  | (go_at_call 30; refine (hnx _).mono ?_; rintro e w6 ⟨rfl, hb6⟩; have HB6 := Lib.hid (below_tr HB5.out hb6); have Own6 := Lib.hid (own_below Own5.out hb6 (Nat.le_refl _)); clear hb6)
                  | (go_at_call 51; refine (hr _).mono ?_; rintro e w9 ⟨rfl, rfl⟩)
                  | (go_at_call 49; refine (hby _).mono ?_; rintro e w7 ⟨g, rfl, hb7, hr7⟩; have Own7 := Lib.hid (own_below Own6.out hb7 (Nat.le_refl _)); have HB7 := Lib.hid (below_tr HB6.out hb7); have hz7 := HB7.out.size; clear hb7)
                  | (at_builtin; refine wpList_app (m := (Lib.encodeRuneZ (x : Int)).length) rfl rfl Tryd.underlying25 uint8Info9 rfl (by omega) rfl Own7.out rfl hr7 (by simp) (ints_oneCell _ _) (by omega) (by omega) hz7 ?_; intro v8 w8 own8 hb8))
                have HBN : Hid (Below w.heap.size w w8) := HB7.out.trans hb8
                go_roundw
                case rel =>
                  refine ⟨p + m, n + (Lib.encodeRuneZ (x : Int)).length, acc ++ [(x : Int)], by omega, by omega, by simp; omega, by go_num, ?_, HBN.out, HI2⟩
                  rw [encL_snoc9, List.map_append]; exact own8
                case measure => simp [intOf]; omega
              · obtain ⟨r10, r13⟩ := raw_lit' hraw
                have e92 : ((x : Int) != 92) = true := by simp; omega
                have e10 : ((x : Int) != 10) = true := by simp; omega
                have e13 : ((x : Int) != 13) = true := by simp; omega
                clear hraw r10 r13
                go_wp2_with (first
                  | (go_at_call 50; refine (he _).mono ?_; rintro e w5 ⟨rfl, hb5⟩; have HB5 := Lib.hid (below_tr HB.out hb5); have Own5 := Lib.hid (own_below Own.out hb5 (Nat.le_refl _)); clear hb5)
                  | (go_at_call 30; refine (hnx _).mono ?_; rintro e w6 ⟨rfl, hb6⟩; have HB6 := Lib.hid (below_tr HB5.out hb6); have Own6 := Lib.hid (own_below Own5.out hb6 (Nat.le_refl _)); clear hb6)
                  | (go_at_call 49; refine (hby _).mono ?_; rintro e w7 ⟨g, rfl, hb7, hr7⟩; have Own7 := Lib.hid (own_below Own6.out hb7 (Nat.le_refl _)); have HB7 := Lib.hid (below_tr HB6.out hb7); have hz7 := HB7.out.size; clear hb7)
                  | (at_builtin; refine wpList_app (m := (Lib.encodeRuneZ (x : Int)).length) rfl rfl Tryd.underlying25 uint8Info9 rfl (by omega) rfl Own7.out rfl hr7 (by simp) (ints_oneCell _ _) (by omega) (by omega) hz7 ?_; intro v8 w8 own8 hb8))
                have HBN : Hid (Below w.heap.size w w8) := HB7.out.trans hb8
                go_roundw
                case rel =>
                  refine ⟨p + m, n + (Lib.encodeRuneZ (x : Int)).length, acc ++ [(x : Int)], by omega, by omega, by simp; omega, by go_num, ?_, HBN.out, HI2⟩
                  rw [encL_snoc9, List.map_append]; exact own8
                case measure => simp [intOf]; omega
    · have hd1 : decide (p < s.size) = false := by simp; omega
      have hpp : p = s.size := by omega
      have hpe : ((p : Int) == (s.size : Int)) = true := by simp; omega
      have hpe2 : (p == s.size) = true := by simp; omega
      have Hres : Hid (inV (inL lit (from_ s k)) = (⟨#[]⟩, 0)) := by
        show _ = _
        rw [inRest_none HI.out (by rw [Hdr.out]; exact inL_nil (by omega))]; rfl
      clear hb0 hfl hfk hpp
      go_wp2
      go_ret2
      exact ⟨by rw [Hres.out]; rfl, HB.out⟩
end Go.Proofs.YtjigcembbigbnaaDoor
