/- The law's walks: awake, UtfWrites, UtfReads, reads. -/
import Derived.Test.YtdplnlbplgmijaaDoorUtfProg5
import Derived.Test.YtdplnlbplgmijaaDoorKitInts2
namespace Go.Proofs.YtdplnlbplgmijaaDoor
open Go Go.RowKit YtdplnlbplgmijaaDoor.Um

theorem awake_text : textR [233, 8364] = .tuple #[.string ⟨#[195, 169, 226, 130, 172]⟩, .int .i64 0] := by kernel_rfl
theorem awake_label : label (ByteArray.mk #[97, 46, 98, 46, 32, 120]).data.toList = 3 := by kernel_rfl
theorem awake_tag : tag (ByteArray.mk #[101, 110, 45, 49, 45, 32]).data.toList = 4 := by kernel_rfl
theorem awake_raw : rawB 60 = false := by kernel_rfl

set_option maxHeartbeats 1000000 in
theorem awake (w : World) (hC : Ctx w) :
    Calls Tryd.prog 8 #[] w fun e w' => e = .returned (.bool true) ∧ Below w.heap.size w w' := by
  have h1 := fun W A c hr => utfText [233, 8364] A c W (by decide) hr
  rw [awake_text] at h1
  have h2 := fun W hW => utfLabel ⟨#[97, 46, 98, 46, 32, 120]⟩ W hW (by decide)
  rw [awake_label] at h2
  have h3 := fun W => utfTag ⟨#[101, 110, 45, 49, 45, 32]⟩ W (by decide)
  rw [awake_tag] at h3
  have h4 := fun W hW => utfRaw 60 W hW
  rw [awake_raw] at h4
  go_enter Tryd.func8, Tryd.ntmps8
  go_wp2_with (first
    | (go_at_call 10; refine (h1 _ _ _ (Rd.of_block (heap_alloc_new w _) rfl)).mono ?_; rintro e w1 ⟨rfl, hb1⟩; have hB1 : Below w.heap.size w w1 := ((Below.refl _ _).alloc (Nat.le_refl _) _).trans (hb1.mono (by simp)))
    | (go_at_call 17; refine (h2 _ (hC.step hB1)).mono ?_; rintro e w2 ⟨rfl, hb2⟩; have hB2 := hB1.trans (hb2.mono hB1.size))
    | (go_at_call 18; refine (h3 _).mono ?_; rintro e w3 ⟨rfl, hb3⟩; have hB3 := hB2.trans (hb3.mono hB2.size))
    | (go_at_call 14; refine (h4 _ (hC.step hB3)).mono ?_; rintro e w4 ⟨rfl, rfl⟩))
  go_ret
  exact ⟨rfl, hB3⟩
theorem quiet_bool {P : Program} {f : FuncId} {args : Array Value} {w : World} {n : Nat} {v : Value}
    (h : Calls P f args (w.drewN n) fun e w' => e = .returned v ∧ w.drewN n = w') : Calls P f args (w.drewN n) fun e w'' => e = .returned v ∧ ∃ m, w'' = w.drewN m :=
  h.mono fun _ _ ⟨he, hw⟩ => ⟨he, n, hw.symm⟩

theorem textR_two (l : List Int) : ∃ (s : ByteArray) (n : Int), textR l = .tuple #[.string s, .int .i64 n] := by
  unfold textR
  split
  · exact ⟨_, _, rfl⟩
  · exact ⟨_, _, rfl⟩

set_option maxHeartbeats 2000000 in
theorem lawUtfWrites (l : List Int) (A : Option Addr) (c : Nat) (w : World) (hC : Ctx w) (_hl : l.length ≤ maxLen) (hr : Rd w A (l.map (Value.int .i64))) :
    Calls Tryd.prog 3 #[.slice A l.length c] w fun e w' => e = .returned (.bool true) ∧ Below w.heap.size w w' := by
  by_cases hbig : 2000 < l.length
  · go_enter Tryd.func3, Tryd.ntmps3
    go_wp2_with (go_at_call 8; refine (awake _ hC).mono ?_; rintro e w4 ⟨rfl, hb4⟩)
    go_ret
    exact ⟨rfl, hb4⟩
  · have hl : l.length ≤ 1000000 := by omega
    obtain ⟨ts, tn, ht⟩ := textR_two l
    have h1 := fun W A c hr => utfText l A c W hl hr
    have h2 := fun W A c hr => refText l A c W hl hr
    rw [ht] at h1 h2
    have h3 := fun W hr => lentInts l A c W hr (by omega)
    go_enter Tryd.func3, Tryd.ntmps3
    go_wp2_with (first
      | (go_at_call 9; refine (h3 _ hr).mono ?_; rintro e w1 ⟨g, rfl, hlent, hb1⟩)
      | (go_at_call 10; refine (h1 _ _ _ hlent.rd0).mono ?_; rintro e w2 ⟨rfl, hb2⟩; have hB2 := hb1.trans (hb2.mono hb1.size); have hL2 := hlent.below hb2 (Nat.le_refl _))
      | (go_at_call 11; refine (h2 _ _ _ (hr.of_below hB2)).mono ?_; rintro e w3 ⟨rfl, hb3⟩; have hB3 := hB2.trans (hb3.mono hB2.size); have hL3 := hL2.below hb3 (Nat.le_refl _)))
    clear hL2 hB2 hb2 hb1 hlent
    go_loopw [8] (fun i wr => ∃ k : Nat, k ≤ l.length ∧ i = .int .i64 k ∧ LentI wr g l ∧ Below w.heap.size w wr) (fun i _ => l.length - (intOf i).toNat)
    case atStart => exact ⟨0, by omega, rfl, hL3, hB3⟩
    case round =>
      clear hL3 hB3 hb3
      obtain ⟨k, hk, rfl, hL, hB⟩ := hrel
      by_cases hlt : k < l.length
      · obtain ⟨x, hx⟩ : ∃ x, l[k]? = some x := ⟨_, List.getElem?_eq_getElem hlt⟩
        obtain ⟨g0, o0, rfl, hcx⟩ := (hr.of_below hB).at_ (j := k) (u := .int .i64 x) (by simp [hx])
        have c1 := fun W => utfIs x W
        have c2 := fun W => refIs x W
        have c3 := fun n => utfRaw x (wr.drewN n) (hC.step (below_drewN hB n))
        have c4 := fun W => refRaw x W
        generalize isB x = q at c1 c2
        generalize rawB x = r at c3 c4
        clear hx h1 h2 h3 ht
        go_wp2
        refine wp_region_quiet_lit (by kernel_rfl) (by kernel_rfl) ?_
        iterate 24 go_big_quiet_step (first | (go_at_call 12; exact quiet_bool (c1 _)) | (go_at_call 13; exact quiet_bool (c2 _)) | (go_at_call 14; exact quiet_bool (c3 _)) | (go_at_call 15; exact quiet_bool (c4 _)))
        refine wpQuiet_nil ?_
        intro _ hw'
        obtain ⟨nq, hw''⟩ := hw'
        subst hw''
        go_wp2
        go_roundw
        case rel => exact ⟨k+1, by omega, by go_num, hL.below (below_drewN (Below.refl _ _) nq) (Nat.le_refl _), below_drewN hB nq⟩
        case measure => simp [intOf]; omega
      · have h5 := keptInts l g A c wr hL (hr.of_below hB) (by omega)
        clear hL h1 h2 h3
        go_wp2_with (first
          | (go_at_call 16; refine h5.mono ?_; rintro e w5 ⟨rfl, hb5⟩; have hB5 := hB.trans (hb5.mono hB.size))
          | (go_at_call 8; refine (awake _ (hC.step hB5)).mono ?_; rintro e w6 ⟨rfl, hb6⟩))
        go_ret
        exact ⟨rfl, hB5.trans (hb6.mono hB5.size)⟩
end Go.Proofs.YtdplnlbplgmijaaDoor
