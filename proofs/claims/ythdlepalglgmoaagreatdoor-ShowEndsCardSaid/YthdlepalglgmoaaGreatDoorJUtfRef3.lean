/- The reference's Text, Signs. The program's package utf, walked: at, next, Signs, Text. The program's package lex, walked: number. The program's package lex, walked: escape. The reference's Label, Tag. -/
import Derived.Test.YthdlepalglgmoaaGreatDoorJUtfNext
import Derived.Test.YthdlepalglgmoaaGreatDoorJUtfProg3
import Derived.Test.YthdlepalglgmoaaGreatDoorJUtfProg2b
namespace Go.Proofs.YthdlepalglgmoaaGreatDoor
open Go Go.RowKit Um

theorem intInfo : (Tryz.prog.info? 3).map (fun i => (i.zero, i.size, i.bytes)) = some (some (.int .i64 0), 1, 8) := by kernel_rfl

set_option maxHeartbeats 1000000 in
theorem refSigns (s : ByteArray) (w : World) (hs : s.size ≤ 2000000) :
    Calls Tryz.prog 82 #[.string s] w fun e w' => ∃ v n, e = .returned (.tuple #[v, .int .i64 (sigR s.data.toList).2.1, .int .i64 (sigR s.data.toList).2.2]) ∧
      w'.ownsRow w.heap.size 3 1 v n ((sigR s.data.toList).1.map (Value.int .i64)) ∧ Below w.heap.size w w' := by
  go_enter Tryz.func82, Tryz.ntmps82
  go_wp2
  go_loopw [5, 6] (fun v i wr => ∃ k n : Nat, ∃ acc : List Int, k ≤ s.size ∧ n ≤ k ∧ i = .int .i64 k ∧ wr.ownsRow w.heap.size 3 1 v n (acc.map (Value.int .i64)) ∧ Below w.heap.size w wr ∧ Hid (sgRest s.data.toList k acc)) (fun _ i _ => s.size - (intOf i).toNat)
  case atStart => exact ⟨0, 0, [], by omega, by omega, rfl, by simpa using World.ownsRow_nil _ _ _ _, Below.refl _ _, sgRest_start _⟩
  case round =>
    obtain ⟨k, n, acc, hk, hnk, rfl, hown, hB, H⟩ := hrel
    have hsz : s.data.toList.length = s.size := size_toList s
    by_cases hlt : k < s.size
    · have hnx := fun W => refNext s k W hlt (by omega)
      by_cases h0 : (nx (from_ s k)).2 = 0
      · have hres := Lib.hid (sgRest_bad H.out (by rw [hsz]; exact hlt) h0)
        rw [h0] at hnx
        clear hsz
        generalize (nx (from_ s k)).1 = x at hnx
        go_wp2_with (go_at_call 83; refine (hnx _).mono ?_; rintro e w1 ⟨rfl, hb1⟩)
        go_ret3
        refine ⟨_, 0, by rw [hres.out]; rfl, ?_, hB.trans (hb1.mono hB.size)⟩
        rw [hres.out]
        simpa using World.ownsRow_nil _ _ _ _
      · have hres := Lib.hid (sgRest_go H.out (by rw [hsz]; exact hlt) h0)
        obtain ⟨h1, h2, h3⟩ := nx_step s k h0
        clear hsz
        generalize (nx (from_ s k)).1 = x at hnx h3 hres
        generalize (nx (from_ s k)).2 = d at hnx h0 h1 h2 hres
        have hd : (d : Int) ≠ 0 := by omega
        have hd1 : ((d : Int) == 0) = false := by simpa using hd
        go_wp2_with (first
          | (go_at_call 83; refine (hnx _).mono ?_; rintro e w1 ⟨rfl, hb1⟩; have hown1 := own_below hown hb1 (Nat.le_refl _); have hB1 := hB.trans (hb1.mono hB.size))
          | (at_builtin; refine wpList_app rfl rfl Tryz.underlying91 intInfo rfl (by omega) rfl (hown1.alloc _) rfl (Rd.of_block (heap_alloc_new w1 _) rfl) rfl (ints_oneCell _ [(x : Int)]) (by omega) (by omega) (by have := hB1.size; simp; omega) ?_; intro v2 w2 hown2 hb2))
        go_roundw
        case rel =>
          refine ⟨k+d, n+1, acc ++ [(x : Int)], by omega, by omega, by go_num, by simpa using hown2, (hB1.alloc hB1.size _).trans hb2, hres.out⟩
        case measure => simp [intOf]; omega
    · have hkl : k = s.size := by omega
      have hres := Lib.hid (sgRest_end H.out (by rw [hsz]; omega))
      clear hkl hsz
      go_wp2
      go_ret3
      refine ⟨_, n, by rw [hres.out]; rfl, ?_, hB⟩
      rw [hres.out]
      exact hown

theorem refAlpha (c : Int) (w : World) (h0 : 0 ≤ c) (h1 : c < 256) :
    Calls Tryz.prog 87 #[.int .u8 c] w fun e w' => e = .returned (.bool (alphaB c)) ∧ w = w' := by
  go_enter Tryz.func87, Tryz.ntmps87
  go_wp2
  all_goals
    go_ret
    refine ⟨?_, rfl⟩
    simp [alphaB, inB, *]
  all_goals omega

theorem refDigit (c : Int) (w : World) (h0 : 0 ≤ c) (h1 : c < 256) :
    Calls Tryz.prog 88 #[.int .u8 c] w fun e w' => e = .returned (.bool (digitB c)) ∧ w = w' := by
  go_enter Tryz.func88, Tryz.ntmps88
  go_wp2
  all_goals
    go_ret
    refine ⟨?_, rfl⟩
    simp [digitB, *]
  all_goals omega
end Go.Proofs.YthdlepalglgmoaaGreatDoor
namespace Go.Proofs.YthdlepalglgmoaaGreatDoor
open Go Go.RowKit Um
end Go.Proofs.YthdlepalglgmoaaGreatDoor
namespace Go.Proofs.YthdlepalglgmoaaGreatDoor
open Go Go.RowKit Um Lx

end Go.Proofs.YthdlepalglgmoaaGreatDoor
namespace Go.Proofs.YthdlepalglgmoaaGreatDoor
open Go Go.RowKit Um Lx

end Go.Proofs.YthdlepalglgmoaaGreatDoor
namespace Go.Proofs.YthdlepalglgmoaaGreatDoor
open Go Go.RowKit Um

theorem lab_close1 {l : List UInt8} {k d x best : Nat} (h : labRest l false (k + d) (if x = 46 then best else k + d)) (hx : ((x : Int) != 46) = true) (hd : d ≠ 0) : labRest l (k + d == 0) (k + d) (k + d) := by
  have h1 : (k + d == 0) = false := by simp; omega
  have h2 : ¬ x = 46 := by rw [bne_iff_ne] at hx; omega
  rw [h1]; rwa [if_neg h2] at h
theorem lab_close2 {l : List UInt8} {k d x best : Nat} (h : labRest l false (k + d) (if x = 46 then best else k + d)) (hx : ((x : Int) != 46) = false) (hd : d ≠ 0) : labRest l (k + d == 0) (k + d) best := by
  have h1 : (k + d == 0) = false := by simp; omega
  have h2 : x = 46 := by simp at hx; omega
  rw [h1]; rwa [if_pos h2] at h

set_option maxHeartbeats 2000000 in
theorem refLabel (s : ByteArray) (w : World) (hs : s.size ≤ 2000000) :
    Calls Tryz.prog 54 #[.string s] w fun e w' => e = .returned (.int .i64 (label s.data.toList)) ∧ Below w.heap.size w w' := by
  go_enter Tryz.func54, Tryz.ntmps54
  go_wp2
  go_loopw [3, 4] (fun b i wr => ∃ k best : Nat, k ≤ s.size ∧ b = .int .i64 best ∧ i = .int .i64 k ∧ (k = 0 → best = 0) ∧ Below w.heap.size w wr ∧ Hid (labRest s.data.toList (k == 0) k best)) (fun _ i _ => s.size - (intOf i).toNat)
  case atStart => exact ⟨0, 0, by omega, rfl, rfl, fun _ => rfl, Below.refl _ _, labRest_start _⟩
  case round =>
    obtain ⟨k, best, hk, rfl, rfl, hb0, hB, H⟩ := hrel
    have hsz : s.data.toList.length = s.size := size_toList s
    by_cases hlt : k < s.size
    · have hnx := fun W => refNext s k W hlt (by omega)
      by_cases h0 : (nx (from_ s k)).2 = 0
      · have hres := Lib.hid (labRest_end H.out (.inr h0))
        rw [h0] at hnx
        clear hsz hb0
        generalize (nx (from_ s k)).1 = x at hnx
        go_wp2_with (go_at_call 83; refine (hnx _).mono ?_; rintro e w1 ⟨rfl, hb1⟩)
        go_ret
        exact ⟨by rw [hres.out]; rfl, hB.trans (hb1.mono hB.size)⟩
      · have hout := labRest_out H.out
        have hgo := labRest_go H.out (by rw [hsz]; exact hlt) h0
        obtain ⟨h1, h2, h3⟩ := nx_step s k h0
        clear hsz H
        have e1 : (List.drop k s.data.toList) = from_ s k := rfl
        rw [e1] at hout hgo
        clear e1
        generalize (nx (from_ s k)).1 = x at hnx h3 hout hgo
        generalize (nx (from_ s k)).2 = d at hnx h0 h1 h2 hgo
        have Hout := Lib.hid hout
        have Hgo := Lib.hid hgo
        have Hb0 := Lib.hid hb0
        clear hout hgo hb0
        have hd1 : ((d : Int) == 0) = false := by simp; omega
        have hfi := fun W => refFirst (x : Int) W
        have hle := fun W => refLetter (x : Int) W
        have hin := fun (W : World) (g : Nat) hW => refIn (x : Int) beginL (some ⟨g, 0, none⟩) 6 W (by decide) hW
        by_cases hk0 : k = 0
        · have hz : ((k : Int) == 0) = true := by simp [hk0]
          have hb0 := Lib.hid (Hb0.out hk0)
          have Hk0 := Lib.hid hk0
          have Hst := Lib.hid (show (k == 0) = true by simp [hk0])
          rw [Hst.out] at Hgo Hout
          clear hk0
          by_cases hbeg : beginB x = true
          · have hlet := begin_letter x hbeg
            rw [hlet] at hle
            have Hgo2 := Lib.hid (Hgo.out hbeg)
            clear hlet
            unfold beginB at hbeg
            by_cases hf : firstB x = true
            · rw [hf] at hfi
              clear hbeg hf
              go_wp2_with (first
                | (go_at_call 83; refine (hnx _).mono ?_; rintro e w1 ⟨rfl, hb1⟩; have hB1 := hB.trans (hb1.mono hB.size))
                | (go_at_call 84; refine (hfi _).mono ?_; rintro e w2 ⟨rfl, hb2⟩; have hB2 := hB1.trans (hb2.mono hB1.size))
                | (go_at_call 86; refine (hle _).mono ?_; rintro e w3 ⟨rfl, hb3⟩; have hB3 := hB2.trans (hb3.mono hB2.size)))
              · have hx : ((x : Int) != 46) = true := by assumption
                go_roundw
                case rel => exact ⟨k+d, k+d, by omega, by go_num, by go_num, fun h => by omega, hB3, lab_close1 Hgo2.out hx h0⟩
                case measure => simp [intOf]; omega
              · have hx : ((x : Int) != 46) = false := by assumption
                go_roundw
                case rel => exact ⟨k+d, best, by omega, rfl, by go_num, fun h => by omega, hB3, lab_close2 Hgo2.out hx h0⟩
                case measure => simp [intOf]; omega
            · have hf : firstB x = false := by simpa using hf
              rw [hf] at hfi hbeg
              have hi : inB x beginL = true := by simpa using hbeg
              rw [hi] at hin
              clear hbeg hf hi
              go_wp2_with (first
                | (go_at_call 83; refine (hnx _).mono ?_; rintro e w1 ⟨rfl, hb1⟩; have hB1 := hB.trans (hb1.mono hB.size))
                | (go_at_call 84; refine (hfi _).mono ?_; rintro e w2 ⟨rfl, hb2⟩; have hB2 := hB1.trans (hb2.mono hB1.size))
                | (go_at_call 85; refine (hin _ _ ?_).mono ?_; exact Rd.of_block (heap_alloc_new w2 _) rfl; rintro e w4 ⟨rfl, rfl⟩; have hB4 := hB2.alloc hB2.size (.cells #[.int .i64 95, .int .i64 95, .int .i64 58, .int .i64 58, .int .i64 48, .int .i64 57] 3))
                | (go_at_call 86; refine (hle _).mono ?_; rintro e w3 ⟨rfl, hb3⟩; have hB3 := hB4.trans (hb3.mono hB4.size)))
              · have hx : ((x : Int) != 46) = true := by assumption
                go_roundw
                case rel => exact ⟨k+d, k+d, by omega, by go_num, by go_num, fun h => by omega, hB3, lab_close1 Hgo2.out hx h0⟩
                case measure => simp [intOf]; omega
              · have hx : ((x : Int) != 46) = false := by assumption
                go_roundw
                case rel => exact ⟨k+d, best, by omega, rfl, by go_num, fun h => by omega, hB3, lab_close2 Hgo2.out hx h0⟩
                case measure => simp [intOf]; omega
          · have hbeg : beginB x = false := by simpa using hbeg
            have Hout2 := Lib.hid (Hout.out hbeg)
            unfold beginB at hbeg
            have hf : firstB x = false := by simp at hbeg; exact hbeg.1
            have hi : inB x beginL = false := by simp at hbeg; exact hbeg.2
            rw [hf] at hfi
            rw [hi] at hin
            clear hbeg hf hi
            go_wp2_with (first
              | (go_at_call 83; refine (hnx _).mono ?_; rintro e w1 ⟨rfl, hb1⟩; have hB1 := hB.trans (hb1.mono hB.size))
              | (go_at_call 84; refine (hfi _).mono ?_; rintro e w2 ⟨rfl, hb2⟩; have hB2 := hB1.trans (hb2.mono hB1.size))
              | (go_at_call 85; refine (hin _ _ ?_).mono ?_; exact Rd.of_block (heap_alloc_new w2 _) rfl; rintro e w4 ⟨rfl, rfl⟩; have hB4 := hB2.alloc hB2.size (.cells #[.int .i64 95, .int .i64 95, .int .i64 58, .int .i64 58, .int .i64 48, .int .i64 57] 3)))
            go_ret
            exact ⟨by rw [Hout2.out, hb0.out]; rfl, hB4⟩
        · have hz : ((k : Int) == 0) = false := by simp; omega
          have Hst := Lib.hid (show (k == 0) = false by simp [hk0])
          rw [Hst.out] at Hgo Hout
          clear hk0 Hb0
          rw [show mayB false x = (letterB x || decide ((x : Int) = 46)) from rfl] at Hgo Hout
          by_cases hl : letterB x = true
          · have Hgo2 := Lib.hid (Hgo.out (by rw [hl]; rfl))
            rw [hl] at hle
            clear hl
            go_wp2_with (first
              | (go_at_call 83; refine (hnx _).mono ?_; rintro e w1 ⟨rfl, hb1⟩; have hB1 := hB.trans (hb1.mono hB.size))
              | (go_at_call 86; refine (hle _).mono ?_; rintro e w3 ⟨rfl, hb3⟩; have hB3 := hB1.trans (hb3.mono hB1.size)))
            · have hx : ((x : Int) != 46) = true := by assumption
              go_roundw
              case rel => exact ⟨k+d, k+d, by omega, by go_num, by go_num, fun h => by omega, hB3, lab_close1 Hgo2.out hx h0⟩
              case measure => simp [intOf]; omega
            · have hx : ((x : Int) != 46) = false := by assumption
              go_roundw
              case rel => exact ⟨k+d, best, by omega, rfl, by go_num, fun h => by omega, hB3, lab_close2 Hgo2.out hx h0⟩
              case measure => simp [intOf]; omega
          · have hl : letterB x = false := by simpa using hl
            rw [hl] at hle Hgo Hout
            clear hl
            by_cases hd : (x : Int) = 46
            · have Hgo2 := Lib.hid (Hgo.out (by rw [hd]; rfl))
              have hd1 : ((x : Int) != 46) = false := by simp [hd]
              clear hd
              go_wp2_with (first
                | (go_at_call 83; refine (hnx _).mono ?_; rintro e w1 ⟨rfl, hb1⟩; have hB1 := hB.trans (hb1.mono hB.size))
                | (go_at_call 86; refine (hle _).mono ?_; rintro e w3 ⟨rfl, hb3⟩; have hB3 := hB1.trans (hb3.mono hB1.size)))
              go_roundw
              case rel => exact ⟨k+d, best, by omega, rfl, by go_num, fun h => by omega, hB3, lab_close2 Hgo2.out hd1 h0⟩
              case measure => simp [intOf]; omega
            · have Hout2 := Lib.hid (Hout.out (by simp [hd]))
              have hd1 : ((x : Int) != 46) = true := by simp [hd]
              clear hd
              go_wp2_with (first
                | (go_at_call 83; refine (hnx _).mono ?_; rintro e w1 ⟨rfl, hb1⟩; have hB1 := hB.trans (hb1.mono hB.size))
                | (go_at_call 86; refine (hle _).mono ?_; rintro e w3 ⟨rfl, hb3⟩; have hB3 := hB1.trans (hb3.mono hB1.size)))
              go_ret
              exact ⟨by rw [Hout2.out]; rfl, hB3⟩
    · have hres := Lib.hid (labRest_end H.out (.inl (by rw [hsz]; omega)))
      clear hsz hb0
      go_wp2
      go_ret
      exact ⟨by rw [hres.out]; rfl, hB⟩
set_option maxHeartbeats 2000000 in
theorem refTag (s : ByteArray) (w : World) (hs : s.size ≤ 2000000) :
    Calls Tryz.prog 55 #[.string s] w fun e w' => e = .returned (.int .i64 (tag s.data.toList)) ∧ w = w' := by
  have hsz : s.data.toList.length = s.size := size_toList s
  have Hsz := Lib.hid hsz
  clear hsz
  go_enter Tryz.func55, Tryz.ntmps55
  go_wp2
  go_loop [3] (fun i => ∃ k : Nat, k ≤ s.size ∧ i = .int .i64 k ∧ Hid (span alphaB s.data.toList = k + span alphaB (s.data.toList.drop k))) (fun i => s.size - (intOf i).toNat)
  case atStart => exact ⟨0, by omega, rfl, by show _ = _; simp⟩
  case round =>
    obtain ⟨k, hk, rfl, H⟩ := hrel
    have hb := bn_lt s k
    have hal := fun W => refAlpha (bn s k) W (by omega) (by omega)
    have go : alphaB (bn s k) = true → k < s.size → span alphaB s.data.toList = (k+1) + span alphaB (s.data.toList.drop (k+1)) := fun ha hlt => by
      rw [H.out, span_drop _ _ _ (by rw [Hsz.out]; exact hlt), bn_getD, if_pos ha]; omega
    have stop : (k < s.size → alphaB (bn s k) = false) → span alphaB s.data.toList = k := fun ha => by
      rw [H.out]
      rcases Nat.lt_or_ge k s.size with h | h
      · rw [span_drop _ _ _ (by rw [Hsz.out]; exact h), bn_getD, ha h]; rfl
      · rw [span_end _ _ _ (by rw [Hsz.out]; exact h)]; rfl
    have Hgo := Lib.hid go
    have Hstop := Lib.hid stop
    clear go stop H
    by_cases hlt : k < s.size ∧ alphaB (bn s k) = true
    · obtain ⟨hlt, ha⟩ := hlt
      rw [ha] at hal
      have hg := Lib.hid (Hgo.out ha hlt)
      clear ha
      go_wp2_with (go_at_call 87; refine (hal _).mono ?_; rintro e w1 ⟨rfl, rfl⟩)
      go_round
      case rel => exact ⟨k+1, by omega, by go_num, hg⟩
      case measure => simp [intOf]; omega
    · have hsp := Hstop.out (fun h => by
        cases hh : alphaB (bn s k) with
        | false => rfl
        | true => exact absurd ⟨h, hh⟩ hlt)
      have hT : tagRest s.data.toList k := by unfold tagRest tag; rw [hsp]
      have HT := Lib.hid hT
      clear hsp hT Hgo Hstop
      have key : ∀ b : Bool, (k < s.size → alphaB (bn s k) = b) → b = false ∨ ¬ k < s.size → True := fun _ _ _ => trivial
      clear key
      by_cases hlt2 : k < s.size
      case' pos =>
        have ha : alphaB (bn s k) = false := by
          cases hh : alphaB (bn s k) with
          | false => rfl
          | true => exact absurd ⟨hlt2, hh⟩ hlt
        rw [ha] at hal
        clear ha
      all_goals
        clear hlt
        go_wp2_with (go_at_call 87; refine (hal _).mono ?_; rintro e w1 ⟨rfl, rfl⟩)
        clear hb hal
        go_loop [3] (fun i => ∃ n : Nat, n ≤ s.size ∧ i = .int .i64 n ∧ Hid (tagRest s.data.toList n)) (fun i => s.size - (intOf i).toNat)
        case atStart => exact ⟨k, by omega, rfl, HT⟩
        case round =>
          clear HT
          obtain ⟨n, hn, rfl, HT⟩ := hrel
          have hb := bn_lt s n
          have hout := fun h => tagRest_out HT.out h
          have hgo := fun h => tagRest_go HT.out h
          rw [Hsz.out, bn_getD] at hout hgo
          have Hout := Lib.hid hout
          have Hgo := Lib.hid hgo
          clear hout hgo
          by_cases h0 : 0 < n
          case' neg =>
            have Hres := Lib.hid (Hout.out (fun h => h0 h.1))
            go_wp2
            go_ret
            exact ⟨by rw [Hres.out]; rfl, rfl⟩
          by_cases h1 : n < s.size
          case' neg =>
            have Hres := Lib.hid (Hout.out (fun h => h1 h.2.1))
            go_wp2
            go_ret
            exact ⟨by rw [Hres.out]; rfl, rfl⟩
          by_cases h2 : bn s n = 45
          case' neg =>
            have Hres := Lib.hid (Hout.out (fun h => h2 h.2.2.1))
            have h3 : ((bn s n : Int) == 45) = false := by simp; omega
            clear h2
            go_wp2
            go_ret
            exact ⟨by rw [Hres.out]; rfl, rfl⟩
          have h3 : ((bn s n : Int) == 45) = true := by simp; omega
          have H2 := Lib.hid h2
          clear h2
          go_wp2
          go_loop [4] (fun i => ∃ m : Nat, n + 1 ≤ m ∧ m ≤ s.size ∧ i = .int .i64 m ∧ Hid (span alnumB (s.data.toList.drop (n + 1)) = (m - (n + 1)) + span alnumB (s.data.toList.drop m))) (fun i => s.size - (intOf i).toNat)
          case atStart => exact ⟨n + 1, by omega, by omega, by go_num, by show _ = _; omega⟩
          case round =>
            obtain ⟨m, hm1, hm2, rfl, H⟩ := hrel
            have hbm := bn_lt s m
            have hal := fun W => refAlpha (bn s m) W (by omega) (by omega)
            have hdi := fun W => refDigit (bn s m) W (by omega) (by omega)
            have go : alnumB (bn s m) = true → m < s.size → span alnumB (s.data.toList.drop (n + 1)) = ((m + 1) - (n + 1)) + span alnumB (s.data.toList.drop (m+1)) := fun ha hlt => by
              rw [H.out, span_drop _ _ m (by rw [Hsz.out]; exact hlt), bn_getD, if_pos ha]; omega
            have stop : (m < s.size → alnumB (bn s m) = false) → span alnumB (s.data.toList.drop (n + 1)) = m - (n + 1) := fun ha => by
              rw [H.out]
              rcases Nat.lt_or_ge m s.size with h | h
              · rw [span_drop _ _ m (by rw [Hsz.out]; exact h), bn_getD, ha h]; rfl
              · rw [span_end _ _ m (by rw [Hsz.out]; exact h)]; rfl
            have Hg := Lib.hid go
            have Hs := Lib.hid stop
            clear go stop H
            by_cases hlt : m < s.size
            · by_cases ha : alphaB (bn s m) = true
              · have hg := Lib.hid (Hg.out (by unfold alnumB; rw [ha]; rfl) hlt)
                rw [ha] at hal
                clear ha Hg Hs
                go_wp2_with (go_at_call 87; refine (hal _).mono ?_; rintro e w1 ⟨rfl, rfl⟩)
                go_round
                case rel => exact ⟨m+1, by omega, by omega, by go_num, hg⟩
                case measure => simp [intOf]; omega
              · have ha : alphaB (bn s m) = false := by simpa using ha
                rw [ha] at hal
                by_cases hd : digitB (bn s m) = true
                · have hg := Lib.hid (Hg.out (by unfold alnumB; rw [hd]; simp) hlt)
                  rw [hd] at hdi
                  clear ha hd Hg Hs
                  go_wp2_with (first
                    | (go_at_call 87; refine (hal _).mono ?_; rintro e w1 ⟨rfl, rfl⟩)
                    | (go_at_call 88; refine (hdi _).mono ?_; rintro e w1 ⟨rfl, rfl⟩))
                  go_round
                  case rel => exact ⟨m+1, by omega, by omega, by go_num, hg⟩
                  case measure => simp [intOf]; omega
                · have hd : digitB (bn s m) = false := by simpa using hd
                  have hs' := Hs.out (fun _ => by unfold alnumB; rw [ha, hd]; rfl)
                  rw [hd] at hdi
                  clear ha hd Hg Hs
                  by_cases hz : m = n + 1
                  · have hz1 : ((m : Int) == (n : Int) + 1) = true := by simp; omega
                    have Hres := Lib.hid (Hout.out (fun h => h.2.2.2 (by rw [hs']; omega)))
                    clear hs' hz
                    go_wp2_with (first
                      | (go_at_call 87; refine (hal _).mono ?_; rintro e w1 ⟨rfl, rfl⟩)
                      | (go_at_call 88; refine (hdi _).mono ?_; rintro e w1 ⟨rfl, rfl⟩))
                    go_ret
                    exact ⟨by rw [Hres.out]; rfl, rfl⟩
                  · have hz1 : ((m : Int) == (n : Int) + 1) = false := by simp; omega
                    have hr := Hgo.out ⟨h0, h1, H2.out, by rw [hs']; omega⟩
                    rw [hs', show n + 1 + (m - (n + 1)) = m from by omega] at hr
                    have Hr := Lib.hid hr
                    clear hs' hz hr
                    go_wp2_with (first
                      | (go_at_call 87; refine (hal _).mono ?_; rintro e w1 ⟨rfl, rfl⟩)
                      | (go_at_call 88; refine (hdi _).mono ?_; rintro e w1 ⟨rfl, rfl⟩))
                    go_round
                    case rel => exact ⟨m, by omega, rfl, Hr⟩
                    case measure => simp [intOf]; omega
            · have hs' := Hs.out (fun h => absurd h hlt)
              clear Hg Hs
              by_cases hz : m = n + 1
              · have hz1 : ((m : Int) == (n : Int) + 1) = true := by simp; omega
                have Hres := Lib.hid (Hout.out (fun h => h.2.2.2 (by rw [hs']; omega)))
                clear hs' hz
                go_wp2
                go_ret
                exact ⟨by rw [Hres.out]; rfl, rfl⟩
              · have hz1 : ((m : Int) == (n : Int) + 1) = false := by simp; omega
                have hr := Hgo.out ⟨h0, h1, H2.out, by rw [hs']; omega⟩
                rw [hs', show n + 1 + (m - (n + 1)) = m from by omega] at hr
                have Hr := Lib.hid hr
                clear hs' hz hr
                go_wp2
                go_round
                case rel => exact ⟨m, by omega, rfl, Hr⟩
                case measure => simp [intOf]; omega
end Go.Proofs.YthdlepalglgmoaaGreatDoor
