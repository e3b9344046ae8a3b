/- The program's package lex, walked: Line. The answer for lex (ossuaryref09): Line. The answer for term (ossuaryref08): valid, small, Right. Reading back, step by step, in plain words. -/
import Derived.Test.YtpnlabjgmdhicaaGreatDoorJLex9
import Derived.Test.YtpnlabjgmdhicaaGreatDoorJUtfRef3
import Derived.Test.YtpnlabjgmdhicaaGreatDoorJRegion4
import Derived.Test.YtpnlabjgmdhicaaGreatDoorJUtfMath3
import Derived.Test.YtpnlabjgmdhicaaGreatDoorJWr3
import Derived.Lib.Case
namespace Go.Proofs.YtpnlabjgmdhicaaGreatDoor
open Go Go.RowKit Um Lx

/-- What eating says of a reader as it lies. -/
def EatL (w : World) (b : Nat) (what s : ByteArray) (k : Nat) (e : Ending) (w' : World) : Prop := e = .returned (.bool (preB what s k)) ∧ RdrAt w' b s (eatK what s k) ∧ w.grownBy w' (some b)
theorem RdrAt.moveI {w : World} {b : Nat} {s : ByteArray} {k : Nat} (h : RdrAt w b s k) {k' : Nat} {z : Int} (hz : z = k') : RdrAt (w.setCell ⟨b, 1, none⟩ (.int .i64 z)) b s k' := by
  subst hz
  obtain ⟨A, n, c, h1⟩ := h
  exact ⟨A, n, c, by simp [World.setCell, Array.getElem?_modify, h1]⟩
theorem gr_of_below {w w' : World} {b : Nat} (h : Below w.heap.size w w') : w.grownBy w' (some b) := ⟨h.os, h.tape, h.output, h.size, fun j hj _ => h.block j hj⟩
theorem lexEatL (what s : ByteArray) (k b : Nat) (w : World) (h : RdrAt w b s k) (hk : k ≤ s.size) (hs : s.size ≤ 1000000) (hw : what.size ≤ 1000) :
    Calls Tryz.prog 102 #[.pointer (some ⟨b, 0, none⟩), .string what] w (EatL w b what s k) := by
  have hr := lexRest s k b w h.c0 h.c1 hk
  have hp := fun W => Tryz.strings_HasPrefix (s.extract k s.size) what W
  rw [rest_toList] at hp
  have Hp : Hid (preB what s k = Lib.hasPrefix (from_ s k) what.data.toList) := rfl
  cases hq : Lib.hasPrefix (from_ s k) what.data.toList
  · rw [hq] at hp
    have Hq := Lib.hid hq
    have H := Lib.hid h
    clear hq h
    go_enter Tryz.func102, Tryz.ntmps102
    go_wp2_with (first
      | (go_at_call 140; refine hr.mono ?_; rintro e w1 ⟨rfl, hb⟩)
      | (go_at_call 139; refine (hp _).mono ?_; rintro e w2 ⟨rfl, rfl⟩))
    go_ret
    exact ⟨by rw [Hp.out, Hq.out]; rfl, by unfold eatK; rw [Hp.out, Hq.out]; exact H.out.below hb, gr_of_below hb⟩
  · rw [hq] at hp
    have Hq := Lib.hid hq
    have H := Lib.hid h
    clear hq h
    go_enter Tryz.func102, Tryz.ntmps102
    go_wp2_with (first
      | (go_at_call 140; refine hr.mono ?_; rintro e w1 ⟨rfl, hb⟩; have c1 := (H.out.below hb).c1; have f1 := (H.out.below hb).fz 1)
      | (go_at_call 139; refine (hp _).mono ?_; rintro e w2 ⟨rfl, rfl⟩))
    go_ret
    refine ⟨by rw [Hp.out, Hq.out]; rfl, ?_, ?_⟩
    · unfold eatK
      rw [Hp.out, Hq.out]
      exact (H.out.below hb).moveI (by simp)
    · exact only_set hb H.out.lt 1 _

theorem own_downL {w : World} {B B' : Nat} {e : TypeId} {size n : Nat} {v : Value} {xs : List Value} (h : w.ownsRow B e size v n xs) (hb : B' ≤ B) : w.ownsRow B' e size v n xs := by
  refine ⟨h.1, ?_⟩
  rcases h.2 with h0 | ⟨g, cap, cur, hv, hg, r⟩
  · exact .inl h0
  · exact .inr ⟨g, cap, cur, hv, Nat.le_trans hb hg, r⟩
/-- A token's cells. -/
def tokC (t : LTok) : List Value := [.int .i64 t.k, .string t.x, .int .i64 t.p]
theorem tokInfo : (Tryz.prog.info? 102).map (fun i => (i.zero, i.size, i.bytes)) = some (some (.agg #[.int .i64 0, .string ⟨#[]⟩, .int .i64 0]), 3, 32) := by kernel_rfl
theorem tokC_one (t : LTok) : ∀ u ∈ tokC t, u.oneCell' = true := by
  intro u hu
  simp only [tokC, List.mem_cons, List.not_mem_nil, or_false] at hu
  rcases hu with rfl | rfl | rfl <;> rfl
theorem rd_two' (w : World) (X : Obj) (cs : Array Value) (T : TypeId) (xs : List Value) (h : cs.toList = xs) : Rd ((w.alloc X).alloc (.cells cs T)) (some ⟨w.heap.size + 1, 0, none⟩) xs := by
  have := Rd.of_block (heap_alloc_new (w.alloc X) (.cells cs T)) h
  rwa [show (w.alloc X).heap.size = w.heap.size + 1 by simp] at this
/-- What Line says. -/
def LineR (s : ByteArray) (w : World) (e : Ending) (w' : World) : Prop := ∃ v : Value, e = .returned (.tuple #[v, .int .i64 (lineL s.data.toList).2.1, .int .i64 (lineL s.data.toList).2.2]) ∧
  w'.ownsRow w.heap.size 102 3 v (lineL s.data.toList).1.length ((lineL s.data.toList).1.flatMap tokC) ∧ Below w.heap.size w w'
theorem cx_of {w wr : World} {b : Nat} (hC : CtxL w) (hB : Below w.heap.size w wr) (hb : w.heap.size ≤ b) : ∀ w', wr.grownBy w' (some b) → CtxL w' :=
  fun w' hg => hC.step (hB.grown hg hB.size fun k hk => by injection hk with hk; omega)
/-- What a round of Line keeps. -/
def LineL (s : ByteArray) (w : World) (b : Nat) (v : Value) (wr : World) : Prop :=
  ∃ (k : Nat) (acc : List LTok), k ≤ s.size ∧ acc.length ≤ k ∧ RdrAt wr b s k ∧ wr.ownsRow (b + 1) 102 3 v acc.length (acc.flatMap tokC) ∧ Below w.heap.size w wr ∧ vld (from_ s k) ∧ lnRest s.data.toList k acc
set_option maxRecDepth 10000 in
set_option maxHeartbeats 8000000 in
theorem lexLine (s : ByteArray) (w : World) (hC : CtxL w) (hs : s.size ≤ 1000000) : Calls Tryz.prog 63 #[.string s] w (LineR s w) := by
  have hsg := utfSigns s w hC.1 hs
  have hl := size_toList s
  have Hl := Lib.hid hl
  have HC := Lib.hid hC
  clear hl hC
  cases hv : (sgn s.data.toList).2.2
  · have hsr : sigR s.data.toList = ([], (sgn s.data.toList).2.1, 11) := by unfold sigR; rw [hv]; rfl
    have Hli : Hid (lineL s.data.toList = ([], (sgn s.data.toList).2.1, 11)) := by show _ = _; unfold lineL; rw [hv]; rfl
    rw [hsr] at hsg
    clear hv hsr
    generalize (sgn s.data.toList).2.1 = p at *
    go_enter Tryz.func63, Tryz.ntmps63
    go_wp2_with (go_at_call 101; refine hsg.mono ?_; rintro e w1 ⟨v, n, rfl, own, hB⟩; have HB := Lib.hid hB; clear own)
    refine bodyPost_ret (v := .tuple #[.slice none 0 0, .int .i64 p, .int .i64 11]) (by simp [results, Tryz.results63, go_sem]) rfl ?_
    refine ⟨.slice none 0 0, by rw [Hli.out], ?_, HB.out⟩
    rw [Hli.out]
    exact World.ownsRow_nil _ _ _ _
  · have hsr : sigR s.data.toList = ((sgn s.data.toList).1, 0, 0) := by unfold sigR; rw [hv]; rfl
    have Hv : Hid (vld s.data.toList) := hv
    have Hli : Hid (lineL s.data.toList = match lnL s.data.toList 0 with | .ok ts => (ts, 0, 0) | .error e => ([], e, 10)) := by show _ = _; unfold lineL; rw [hv]; rfl
    rw [hsr] at hsg
    clear hv hsr
    go_enter Tryz.func63, Tryz.ntmps63
    go_wp2_with (go_at_call 101; refine hsg.mono ?_; rintro e w1 ⟨v, n, rfl, own, hB⟩; have HB := Lib.hid hB; clear own)
    go_loopw [2] (LineL s w w1.heap.size) (fun _ wr => s.size - (intOf ((wr.cell? ⟨w1.heap.size, 1, none⟩).getD undef)).toNat)
    case atStart =>
      refine ⟨0, [], by omega, by simp, ⟨none, 0, 0, ?_⟩, World.ownsRow_nil _ _ _ _, ?_, by simpa [from_] using Hv.out, lnRest_start _⟩
      · exact heap_alloc_new w1 _
      · exact HB.out.alloc HB.out.size _
    case round =>
      obtain ⟨k, acc, hk, hal, hrd, own, hB1, hv, hI⟩ := hrel
      have hC1 := cx_of HC.out hB1 HB.out.size
      have hme : (intOf ((wr.cell? ⟨w1.heap.size, 1, none⟩).getD undef)).toNat = k := by rw [hrd.c1]; simp [intOf]
      have Hme := Lib.hid hme
      have HI := Lib.hid hI
      have Hrd := Lib.hid hrd
      have HB1 := Lib.hid hB1
      have Own := Lib.hid own
      have HV := Lib.hid hv
      have hfl := from_len s k
      have q0 := hrd.c0
      have q1 := hrd.c1
      have hdr : s.data.toList.drop k = from_ s k := rfl
      have Hdr := Lib.hid hdr
      clear hme hI hB1 hdr
      obtain ⟨A, c, rfl, hac, _⟩ := own_slice own
      clear own
      by_cases hlt : k < s.size
      · have hbn : bn s k = c0 (from_ s k) := by have := bn_drop s k 0; rw [Nat.add_zero] at this; exact this.symm
        have hd1 : decide (k < s.size) = true := by simp; omega
        by_cases h35 : c0 (from_ s k) = 35
        · have hn : ((bn s k : Int) != 35) = false := by rw [hbn, h35]; rfl
          have Hres : Hid (lineL s.data.toList = (acc, 0, 0)) := by show _ = _; rw [Hli.out, lnRest_stop HI.out (.inr (by exact h35))]
          clear hbn h35 hfl hv
          go_wp2
          refine bodyPost_ret (v := .tuple #[.slice A acc.length c, .int .i64 0, .int .i64 0]) (by simp [results, Tryz.results63, go_sem]) rfl ?_
          refine ⟨_, by rw [Hres.out]; rfl, ?_, HB1.out⟩
          rw [Hres.out]
          exact own_downL Own.out (by have := HB.out.size; omega)
        · have hn : ((bn s k : Int) != 35) = true := by rw [hbn]; simp; omega
          have e1 := lexEatL ⟨#[32]⟩ s k w1.heap.size wr hrd hk hs (by decide)
          have e2 := fun W (hW : RdrAt W w1.heap.size s k) => lexEatL ⟨#[9]⟩ s k w1.heap.size W hW hk hs (by decide)
          have p1 : preB ⟨#[32]⟩ s k = decide (c0 (from_ s k) = 32) := pre1 (a := 32) (by decide) _
          have p2 : preB ⟨#[9]⟩ s k = decide (c0 (from_ s k) = 9) := pre1 (a := 9) (by decide) _
          unfold EatL eatK at e1 e2
          rw [p1] at e1
          rw [p2] at e2
          clear p1 p2
          by_cases h32 : c0 (from_ s k) = 32
          · rw [decide_eq_true h32] at e1
            have HIn : Hid (lnRest s.data.toList (k + 1) acc) := lnRest_blank HI.out (by rw [Hl.out]; exact hlt) (by exact .inl h32)
            have HV1 : Hid (vld (from_ s (k + 1))) := by rw [from_drop]; exact vld_one hv (by omega) (by omega)
            clear hbn h35 h32 hfl hv hC1
            go_wp2_with fail
            refine e1.mono ?_
            rintro e w2 ⟨rfl, R2, G2⟩
            have R2 := Lib.hid R2
            have G2 := Lib.hid G2
            go_wp2
            go_roundw
            case rel => exact ⟨k + 1, acc, by omega, by omega, R2.out, own_grown Own.out G2.out (by omega), below_grown HB1.out G2.out HB1.out.size HB.out.size, HV1.out, HIn.out⟩
            case measure =>
              have hme2 : (intOf ((w2.cell? ⟨w1.heap.size, 1, none⟩).getD undef)).toNat = k + 1 := by rw [R2.out.c1]; simp [intOf]; rfl
              have hme1 := Hme.out
              omega
          · rw [decide_eq_false h32] at e1
            by_cases h9 : c0 (from_ s k) = 9
            · have e2 := fun W hW => e2 W hW
              rw [decide_eq_true h9] at e2
              have HIn : Hid (lnRest s.data.toList (k + 1) acc) := lnRest_blank HI.out (by rw [Hl.out]; exact hlt) (by exact .inr h9)
              have HV1 : Hid (vld (from_ s (k + 1))) := by rw [from_drop]; exact vld_one hv (by omega) (by omega)
              clear hbn h35 h32 h9 hfl hv hC1
              go_wp2_with fail
              refine e1.mono ?_
              rintro e w2 ⟨rfl, R2, G2⟩
              have R2 := Lib.hid R2
              have G2 := Lib.hid G2
              go_wp2_with fail
              refine (e2 w2 R2.out).mono ?_
              rintro e w3 ⟨rfl, R3, G3⟩
              have R3 := Lib.hid R3
              have G3 := Lib.hid G3
              go_wp2
              go_roundw
              case rel => exact ⟨k + 1, acc, by omega, by omega, R3.out, own_grown Own.out (G2.out.trans G3.out) (by omega), below_grown HB1.out (G2.out.trans G3.out) HB1.out.size HB.out.size, HV1.out, HIn.out⟩
              case measure =>
                have hme2 : (intOf ((w3.cell? ⟨w1.heap.size, 1, none⟩).getD undef)).toNat = k + 1 := by rw [R3.out.c1]; simp [intOf]; rfl
                have hme1 := Hme.out
                omega
            · rw [decide_eq_false h9] at e2
              have hbl : ¬ blankC (c0 (from_ s k)) := by unfold blankC; omega
              have htk := fun W (hW : RdrAt W w1.heap.size s k) (hG : wr.grownBy W (some w1.heap.size)) => lexToken s k w1.heap.size W hW (fun w' hg => hC1 w' (hG.trans hg)) hlt hs hv
              have H35 := Lib.hid h35
              have Hbl := Lib.hid hbl
              have Hlt := Lib.hid hlt
              clear hbn h35 h32 h9 hfl hv hC1 hbl
              go_wp2_with fail
              refine e1.mono ?_
              rintro e w2 ⟨rfl, R2, G2⟩
              have R2 := Lib.hid R2
              have G2 := Lib.hid G2
              go_wp2_with fail
              refine (e2 w2 R2.out).mono ?_
              rintro e w3 ⟨rfl, R3, G3⟩
              have R3 := Lib.hid R3
              have G3 := Lib.hid (G2.out.trans G3)
              go_wp2_with fail
              refine (htk w3 R3.out G3.out).mono ?_
              rintro e w4 (⟨kn, m, x, ht, rfl, G4, R4⟩ | ⟨ht, ⟨kd, x, rfl⟩, G4⟩)
              · have hsp := tkL_spec ht
                obtain ⟨m1, m2, _, m4, _, _, _, _⟩ := hsp
                rw [from_len] at m2
                have HIn : Hid (lnRest s.data.toList (k + m) (acc ++ [⟨kn, x, k⟩])) := lnRest_tok HI.out (by exact ht)
                have HVn : Hid (vld (from_ s (k + m))) := by rw [from_drop]; exact m4 HV.out
                have G4 := Lib.hid (G3.out.trans G4)
                have R4 := Lib.hid R4
                have Own4 := Lib.hid (own_grown Own.out G4.out (by omega))
                have hB4 := below_grown HB1.out G4.out HB1.out.size HB.out.size
                have HB4 := Lib.hid hB4
                have hz4 := hB4.size
                have hz0 := HB.out.size
                clear ht m4 hB4
                have ownN : ((w4.alloc (.cells #[.int .i64 kn, .string x, .int .i64 k] 102)).alloc (.cells #[.int .i64 kn, .string x, .int .i64 k] 102)).ownsRow (w1.heap.size + 1) 102 3 (.slice A acc.length c) acc.length (acc.flatMap tokC) := (Own4.out.alloc _).alloc _
                have hrN : Rd ((w4.alloc (.cells #[.int .i64 kn, .string x, .int .i64 k] 102)).alloc (.cells #[.int .i64 kn, .string x, .int .i64 k] 102)) (some ⟨w4.heap.size + 1, 0, none⟩) (tokC ⟨kn, x, k⟩) := rd_two' _ _ _ _ _ rfl
                have HBN : Hid (Below w4.heap.size w4 ((w4.alloc (.cells #[.int .i64 kn, .string x, .int .i64 k] 102)).alloc (.cells #[.int .i64 kn, .string x, .int .i64 k] 102))) := ((Below.refl _ _).alloc (Nat.le_refl _) _).alloc (by simp) _
                have hg4 := G4.out.size
                have hrd4 := Hrd.out.lt
                go_wp2_with (at_builtin; refine wpList_app (m := 1) rfl rfl Tryz.underlying93 tokInfo rfl (by omega) rfl ownN rfl hrN rfl (tokC_one _) (by omega) (by omega) (by simp; omega) ?_; intro v5 w5 own5 hb5)
                have R5 : RdrAt w5 w1.heap.size s (k + m) := by
                  obtain ⟨A5, n5, c5, h5⟩ := R4.out.below HBN.out
                  exact ⟨A5, n5, c5, by rw [hb5.block _ (by omega)]; exact h5⟩
                have hB5 : Below w.heap.size w w5 := HB4.out.trans ((HBN.out.mono (by omega)).trans (hb5.mono (by omega)))
                have R5 := Lib.hid R5
                go_roundw
                case rel =>
                  refine ⟨k + m, acc ++ [⟨kn, x, k⟩], by omega, by simp; omega, R5.out, ?_, hB5, HVn.out, HIn.out⟩
                  rw [List.flatMap_append, List.length_append]
                  simpa using own5
                case measure =>
                  have hme2 : (intOf ((w5.cell? ⟨w1.heap.size, 1, none⟩).getD undef)).toNat = k + m := by rw [R5.out.c1]; simp [intOf]; omega
                  have hme1 := Hme.out
                  omega
              · have Hres : Hid (lineL s.data.toList = ([], k, 10)) := by
                  show _ = _
                  rw [Hli.out, lnRest_bad HI.out (by rw [Hl.out]; exact Hlt.out) (by exact H35.out) (by exact Hbl.out) (by exact ht)]
                have G4 := Lib.hid (G3.out.trans G4)
                clear ht
                go_wp2
                go_quiet (fail)
                go_wp2
                refine bodyPost_ret (v := .tuple #[.slice none 0 0, .int .i64 k, .int .i64 10]) (by simp [results, Tryz.results63, go_sem]) rfl ?_
                refine ⟨.slice none 0 0, by rw [Hres.out], ?_, ?_⟩
                · rw [Hres.out]
                  exact World.ownsRow_nil _ _ _ _
                · have hB4 := below_grown HB1.out G4.out HB1.out.size HB.out.size
                  have hB5 := hB4.alloc hB4.size (.cells #[.int .i64 kd, .string x, .int .i64 k] 102)
                  exact ⟨hB5.os, hB5.tape, hB5.output, hB5.size, hB5.block⟩
      · have hd1 : decide (k < s.size) = false := by simp; omega
        have Hres : Hid (lineL s.data.toList = (acc, 0, 0)) := by show _ = _; rw [Hli.out, lnRest_stop HI.out (.inl (by rw [Hl.out]; omega))]
        clear hfl hv
        go_wp2
        refine bodyPost_ret (v := .tuple #[.slice A acc.length c, .int .i64 0, .int .i64 0]) (by simp [results, Tryz.results63, go_sem]) rfl ?_
        refine ⟨_, by rw [Hres.out]; rfl, ?_, HB1.out⟩
        rw [Hres.out]
        exact own_downL Own.out (by have := HB.out.size; omega)
end Go.Proofs.YtpnlabjgmdhicaaGreatDoor
namespace Go.Proofs.YtpnlabjgmdhicaaGreatDoor
open Go Go.RowKit Um Lx

end Go.Proofs.YtpnlabjgmdhicaaGreatDoor
namespace Go.Proofs.YtpnlabjgmdhicaaGreatDoor
open Go Go.RowKit Um Fm

theorem r08Valid (s : ByteArray) (w : World) (hs : s.size ≤ 1048576) :
    Calls Tryz.prog 90 #[.string s] w fun e w' => e = .returned (.bool (validB s)) ∧ Below w.heap.size w w' := by
  have hS := refSigns s w (by omega)
  cases hv : validB s
  · rw [sigR_of_not hv] at hS
    generalize (sigR s.data.toList).2.1 = j at *
    generalize (sigR s.data.toList).1 = l at *
    clear hv
    go_enter Tryz.func90, Tryz.ntmps90
    go_wp2_with (refine hS.mono ?_; rintro e w2 ⟨v, m, rfl, -, hb⟩)
    go_ret
    exact ⟨rfl, hb⟩
  · rw [sigR_of_valid hv] at hS
    generalize (sigR s.data.toList).2.1 = j at *
    generalize (sigR s.data.toList).1 = l at *
    clear hv
    go_enter Tryz.func90, Tryz.ntmps90
    go_wp2_with (refine hS.mono ?_; rintro e w2 ⟨v, m, rfl, -, hb⟩)
    go_ret
    exact ⟨rfl, hb⟩
theorem smallB_at (s : ByteArray) (k : Nat) (h : k < s.size) : smallB (s.data.toList.drop k) = (!(decide (65 ≤ bn s k) && decide (bn s k ≤ 90)) && smallB (s.data.toList.drop (k + 1))) := by
  have hl : k < s.data.toList.length := by rw [size_toList]; exact h
  rw [List.drop_eq_getElem_cons hl]
  unfold smallB
  rw [List.all_cons]
  congr 2
  unfold upB bn
  rw [List.getD_eq_getElem?_getD, List.getElem?_eq_getElem hl]; rfl
theorem r08Small (s : ByteArray) (w : World) (hs : s.size ≤ 1048576) :
    Calls Tryz.prog 93 #[.string s] w fun e w' => e = .returned (.bool (smallB s.data.toList)) ∧ w = w' := by
  go_enter Tryz.func93, Tryz.ntmps93
  go_wp2
  go_loop [3] (fun i => ∃ k : Nat, k ≤ s.size ∧ i = .int .i64 k ∧ Hid (smallB s.data.toList = smallB (s.data.toList.drop k))) (fun i => s.size - (intOf i).toNat)
  case atStart => exact ⟨0, by omega, rfl, rfl⟩
  case round =>
    obtain ⟨k, hk, rfl, H⟩ := hrel
    by_cases hlt : k < s.size
    · have hb := bn_lt s k
      have H2 : Hid (smallB s.data.toList = (!(decide (65 ≤ bn s k) && decide (bn s k ≤ 90)) && smallB (s.data.toList.drop (k + 1)))) := by show _ = _; rw [H.out, smallB_at s k hlt]
      by_cases h1 : 65 ≤ bn s k
      · by_cases h2 : bn s k ≤ 90
        · go_wp2
          go_ret
          exact ⟨by rw [H2.out, decide_eq_true h1, decide_eq_true h2]; rfl, rfl⟩
        · go_wp2
          go_round
          case rel => exact ⟨k + 1, by omega, by go_num, by show _ = _; rw [H2.out, decide_eq_false h2, Bool.and_false, Bool.not_false, Bool.true_and]⟩
          case measure => simp [intOf]; omega
      · go_wp2
        go_round
        case rel => exact ⟨k + 1, by omega, by go_num, by show _ = _; rw [H2.out, decide_eq_false h1, Bool.false_and, Bool.not_false, Bool.true_and]⟩
        case measure => simp [intOf]; omega
    · have H2 : Hid (smallB s.data.toList = true) := by show _ = _; rw [H.out, List.drop_eq_nil_of_le (by rw [size_toList]; omega)]; rfl
      go_wp2
      go_ret
      exact ⟨by rw [H2.out]; rfl, rfl⟩
theorem Calls.quiet_r8 {P : Program} {f : FuncId} {args : Array Value} {w : World} {d : Nat} {os : Array Obj} {v : Value}
    (h : Calls P f args (Sort.grow (redrawn w d) os) fun e w' => e = .returned v ∧ Sort.grow (redrawn w d) os = w') : Calls P f args (Sort.grow (redrawn w d) os) fun e w'' => e = .returned v ∧ ∃ p : Regrown, w'' = Sort.grow (redrawn w p.d) p.os :=
  h.mono fun _ _ ⟨he, hb⟩ => ⟨he, ⟨d, os⟩, hb.symm⟩
theorem empty_app (a b : ByteArray) : emptyB (a ++ b) = (emptyB a && emptyB b) := by
  unfold emptyB
  rw [Bool.eq_iff_iff]
  simp [ByteArray.toList_eq]
set_option maxRecDepth 20000 in
set_option maxHeartbeats 2000000 in
theorem r08Right (t : Tm) (w : World) (hx : t.x.size ≤ 1048576) (hl : t.l.size ≤ 1048576) (hy : t.y.size ≤ 1048576) :
    Calls Tryz.prog 57 #[.agg #[.int .i64 t.k, .string t.x, .string t.l, .string t.y]] w fun e w' => e = .returned (.bool (rightB t)) ∧ Below w.heap.size w w' := by
  obtain ⟨k, x, l, y⟩ := t
  simp only at hx hl hy ⊢
  have hB0 : Below w.heap.size w (w.alloc (.cells #[.int .i64 k, .string x, .string l, .string y] 29)) := (by repeat (first | exact Below.refl _ _ | assumption | exact (Below.refl _ _).alloc (Nat.le_refl _) _ | refine below_tr ?_ (by assumption) | refine below_alloc ?_ | refine below_tr ?_ (below_regrown _ _ _)))
  have r0 : (w.alloc (.cells #[.int .i64 k, .string x, .string l, .string y] 29)).cell? ⟨w.heap.size, 0, none⟩ = some (.int .i64 k) := by rw [World.cell?, heap_alloc_new]; rfl
  have r1 : (w.alloc (.cells #[.int .i64 k, .string x, .string l, .string y] 29)).cell? ⟨w.heap.size, 1, none⟩ = some (.string x) := by rw [World.cell?, heap_alloc_new]; rfl
  have r2 : (w.alloc (.cells #[.int .i64 k, .string x, .string l, .string y] 29)).cell? ⟨w.heap.size, 2, none⟩ = some (.string l) := by rw [World.cell?, heap_alloc_new]; rfl
  have r3 : (w.alloc (.cells #[.int .i64 k, .string x, .string l, .string y] 29)).cell? ⟨w.heap.size, 3, none⟩ = some (.string y) := by rw [World.cell?, heap_alloc_new]; rfl
  obtain ⟨W, hW⟩ : ∃ W : World, w.alloc (.cells #[.int .i64 k, .string x, .string l, .string y] 29) = W := ⟨_, rfl⟩
  rw [hW] at hB0 r0 r1 r2 r3
  have hVx := fun W' => r08Valid x W' hx
  have hVy := fun W' => r08Valid y W' hy
  have hLx := fun W' => refLabel x W' (by omega)
  have hTl := fun W' => refTag l W' (by omega)
  have hSl := fun W' => r08Small l W' hl
  have htg := tagB_small l
  have hlb : labelB x = (!x.toList.isEmpty && ((label x.data.toList : Int) == x.size)) := rfl
  unfold rightB
  simp only [empty_app]
  rw [htg, hlb]
  unfold emptyB xsdL
  clear htg hlb
  generalize validB x = v at *
  generalize validB y = v2 at *
  generalize label x.data.toList = lb at *
  generalize tag l.data.toList = tg at *
  generalize smallB l.data.toList = sm at *
  have HW := Lib.hid hW
  have HB0 := Lib.hid hB0
  clear hW hB0
  by_cases h1 : k = 1
  · subst h1
    rw [if_pos rfl]
    have hV := hVx W
    clear hVx hVy hLx hTl hSl
    cases he1 : l.toList.isEmpty
    all_goals cases he2 : y.toList.isEmpty
    all_goals
      cases v
      all_goals
        go_enter Tryz.func57, Tryz.ntmps57
        go_wp2_with fail
        simp only [HW.out]
        go_wp2_with fail
        refine hV.mono ?_
        rintro e w2 ⟨rfl, hb2⟩
        replace r2 := cell_on r2 hb2
        replace r3 := cell_on r3 hb2
        go_wp2
        go_ret
        exact ⟨rfl, below_tr HB0.out hb2⟩
  rw [if_neg h1]
  by_cases h2 : k = 2
  · subst h2
    rw [if_pos rfl]
    clear hVx hVy hTl hSl h1
    have R1 := fun d os => cell_on r1 (below_regrown W d os)
    have R2 := fun d os => cell_on r2 (below_regrown W d os)
    have R3 := fun d os => cell_on r3 (below_regrown W d os)
    cases he0 : x.toList.isEmpty
    · cases hq : ((lb : Int) == x.size)
      all_goals cases he1 : l.toList.isEmpty
      all_goals cases he2 : y.toList.isEmpty
      all_goals
        go_enter Tryz.func57, Tryz.ntmps57
        go_wp2_with fail
        simp only [HW.out]
        go_wp2
        refine wp_region_quiet_below (by kernel_rfl) (by kernel_rfl) ?_; (repeat (any_goals (go_big_quiet_step ((go_at_call 91; exact Calls.regrown_of (hLx _)))))); all_goals (refine wpQuiet_nil ?_; intro _ hw9; obtain ⟨⟨d9, os9⟩, hw8⟩ := hw9; subst hw8)
        go_wp2
        go_ret
        exact ⟨by simp, HB0.out.trans ((below_regrown _ _ _).mono HB0.out.size)⟩
    · go_enter Tryz.func57, Tryz.ntmps57
      go_wp2_with fail
      simp only [HW.out]
      go_wp2
      refine wp_region_quiet_below (by kernel_rfl) (by kernel_rfl) ?_; (repeat (any_goals (go_big_quiet_step ((fail))))); all_goals (refine wpQuiet_nil ?_; intro _ hw9; obtain ⟨⟨d9, os9⟩, hw8⟩ := hw9; subst hw8)
      go_wp2
      go_ret
      exact ⟨by simp, HB0.out.trans ((below_regrown _ _ _).mono HB0.out.size)⟩
  rw [if_neg h2]
  by_cases h3 : k = 3
  · subst h3
    rw [if_pos rfl]
    clear hVy hLx h1 h2
    have R1 := fun d os => cell_on r1 (below_regrown W d os)
    have R2 := fun d os => cell_on r2 (below_regrown W d os)
    have R3 := fun d os => cell_on r3 (below_regrown W d os)
    cases v
    · clear hTl hSl
      go_enter Tryz.func57, Tryz.ntmps57
      go_wp2_with fail
      simp only [HW.out]
      go_wp2
      refine wp_region_quiet_below (by kernel_rfl) (by kernel_rfl) ?_; (repeat (any_goals (go_big_quiet_step ((go_at_call 90; exact Calls.regrown_of (hVx _)))))); all_goals (refine wpQuiet_nil ?_; intro _ hw9; obtain ⟨⟨d9, os9⟩, hw8⟩ := hw9; subst hw8)
      go_wp2
      go_ret
      exact ⟨by simp, HB0.out.trans ((below_regrown _ _ _).mono HB0.out.size)⟩
    · cases hq : ((tg : Int) == l.size)
      · clear hSl
        go_enter Tryz.func57, Tryz.ntmps57
        go_wp2_with fail
        simp only [HW.out]
        go_wp2
        refine wp_region_quiet_below (by kernel_rfl) (by kernel_rfl) ?_; (repeat (any_goals (go_big_quiet_step ((first | (go_at_call 90; with_reducible exact Calls.regrown_of (hVx _)) | (go_at_call 92; with_reducible exact Calls.quiet_r8 (hTl _))))))); all_goals (refine wpQuiet_nil ?_; intro _ hw9; obtain ⟨⟨d9, os9⟩, hw8⟩ := hw9; subst hw8)
        go_wp2
        go_ret
        exact ⟨by simp, HB0.out.trans ((below_regrown _ _ _).mono HB0.out.size)⟩
      · cases he2 : y.toList.isEmpty
        all_goals cases sm
        all_goals
          go_enter Tryz.func57, Tryz.ntmps57
          go_wp2_with fail
          simp only [HW.out]
          go_wp2
          refine wp_region_quiet_below (by kernel_rfl) (by kernel_rfl) ?_; (repeat (any_goals (go_big_quiet_step ((first | (go_at_call 90; with_reducible exact Calls.regrown_of (hVx _)) | (go_at_call 92; with_reducible exact Calls.quiet_r8 (hTl _)) | (go_at_call 93; with_reducible exact Calls.quiet_r8 (hSl _))))))); all_goals (refine wpQuiet_nil ?_; intro _ hw9; obtain ⟨⟨d9, os9⟩, hw8⟩ := hw9; subst hw8)
          go_wp2
          go_ret
          exact ⟨by simp, HB0.out.trans ((below_regrown _ _ _).mono HB0.out.size)⟩
  rw [if_neg h3]
  by_cases h4 : k = 4
  · subst h4
    rw [if_pos rfl]
    have hV := hVx W
    clear hVx hLx hTl hSl h1 h2 h3
    cases v
    · clear hVy
      go_enter Tryz.func57, Tryz.ntmps57
      go_wp2_with fail
      simp only [HW.out]
      go_wp2_with (refine hV.mono ?_; rintro e w2 ⟨rfl, hb2⟩)
      go_ret
      exact ⟨by simp, below_tr HB0.out hb2⟩
    · cases he : l.toList.isEmpty
      · clear hVy
        go_enter Tryz.func57, Tryz.ntmps57
        go_wp2_with fail
        simp only [HW.out]
        go_wp2_with fail
        refine hV.mono ?_
        rintro e w2 ⟨rfl, hb2⟩
        replace r2 := cell_on r2 hb2
        replace r3 := cell_on r3 hb2
        go_wp2
        go_ret
        exact ⟨by simp, below_tr HB0.out hb2⟩
      · cases hq : (y.toList == [104, 116, 116, 112, 58, 47, 47, 119, 119, 119, 46, 119, 51, 46, 111, 114, 103, 47, 50, 48, 48, 49, 47, 88, 77, 76, 83, 99, 104, 101, 109, 97, 35, 115, 116, 114, 105, 110, 103])
        all_goals
          have hqn : (y.toList != [104, 116, 116, 112, 58, 47, 47, 119, 119, 119, 46, 119, 51, 46, 111, 114, 103, 47, 50, 48, 48, 49, 47, 88, 77, 76, 83, 99, 104, 101, 109, 97, 35, 115, 116, 114, 105, 110, 103]) = !(y.toList == [104, 116, 116, 112, 58, 47, 47, 119, 119, 119, 46, 119, 51, 46, 111, 114, 103, 47, 50, 48, 48, 49, 47, 88, 77, 76, 83, 99, 104, 101, 109, 97, 35, 115, 116, 114, 105, 110, 103]) := rfl
          rw [hq] at hqn
          go_enter Tryz.func57, Tryz.ntmps57
          go_wp2_with fail
          simp only [HW.out]
          go_wp2_with fail
          refine hV.mono ?_
          rintro e w2 ⟨rfl, hb2⟩
          replace r2 := cell_on r2 hb2
          replace r3 := cell_on r3 hb2
          have hT := hVy w2
          clear hVy hV
          cases v2
          all_goals
            go_wp2_with fail
            refine hT.mono ?_
            rintro e w3 ⟨rfl, hb3⟩
            replace r3 := cell_on r3 hb3
            go_wp2
            go_ret
            exact ⟨by simp, below_tr (below_tr HB0.out hb2) hb3⟩
  · rw [if_neg h4]
    clear hVx hVy hLx hTl hSl
    go_enter Tryz.func57, Tryz.ntmps57
    go_wp2_with fail
    simp only [HW.out]
    go_wp2
    go_ret
    exact ⟨rfl, HB0.out⟩
end Go.Proofs.YtpnlabjgmdhicaaGreatDoor
namespace Go.Proofs.YtpnlabjgmdhicaaGreatDoor.Tx
open Go Go.RowKit Um Fm Lx

end Go.Proofs.YtpnlabjgmdhicaaGreatDoor.Tx
