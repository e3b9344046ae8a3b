/- The program's package lex, walked: Line. The answer for lex (ossuaryref09): Line. -/
import Derived.Test.YtffpgandgajihaaGreatDoorJLex9
import Derived.Test.YtffpgandgajihaaGreatDoorJLex5
import Derived.Test.YtffpgandgajihaaGreatDoorJR9d
namespace Go.Proofs.YtffpgandgajihaaGreatDoor
open Go Go.RowKit Um Lx

/-- What eating says of a reader as it lies. -/
def EatL (w : World) (b : Nat) (what s : ByteArray) (k : Nat) (e : Ending) (w' : World) : Prop := e = .returned (.bool (preB what s k)) ∧ RdrAt w' b s (eatK what s k) ∧ w.grownBy w' (some b)
theorem RdrAt.moveI {w : World} {b : Nat} {s : ByteArray} {k : Nat} (h : RdrAt w b s k) {k' : Nat} {z : Int} (hz : z = k') : RdrAt (w.setCell ⟨b, 1, none⟩ (.int .i64 z)) b s k' := by
  subst hz
  obtain ⟨A, n, c, h1⟩ := h
  exact ⟨A, n, c, by simp [World.setCell, Array.getElem?_modify, h1]⟩
theorem gr_of_below {w w' : World} {b : Nat} (h : Below w.heap.size w w') : w.grownBy w' (some b) := ⟨h.os, h.tape, h.output, h.size, fun j hj _ => h.block j hj⟩
theorem lexEatL (what s : ByteArray) (k b : Nat) (w : World) (h : RdrAt w b s k) (hk : k ≤ s.size) (hs : s.size ≤ 1000000) (hw : what.size ≤ 1000) :
    Calls Tryz.prog 28 #[.pointer (some ⟨b, 0, none⟩), .string what] w (EatL w b what s k) := by
  have hr := lexRest s k b w h.c0 h.c1 hk
  have hp := fun W => Tryz.strings_HasPrefix (s.extract k s.size) what W
  rw [rest_toList] at hp
  have Hp : Hid (preB what s k = Lib.hasPrefix (from_ s k) what.data.toList) := rfl
  cases hq : Lib.hasPrefix (from_ s k) what.data.toList
  · rw [hq] at hp
    have Hq := Lib.hid hq
    have H := Lib.hid h
    clear hq h
    go_enter Tryz.func28, Tryz.ntmps28
    go_wp2_with (first
      | (go_at_call 48; refine hr.mono ?_; rintro e w1 ⟨rfl, hb⟩)
      | (go_at_call 19; refine (hp _).mono ?_; rintro e w2 ⟨rfl, rfl⟩))
    go_ret
    exact ⟨by rw [Hp.out, Hq.out]; rfl, by unfold eatK; rw [Hp.out, Hq.out]; exact H.out.below hb, gr_of_below hb⟩
  · rw [hq] at hp
    have Hq := Lib.hid hq
    have H := Lib.hid h
    clear hq h
    go_enter Tryz.func28, Tryz.ntmps28
    go_wp2_with (first
      | (go_at_call 48; refine hr.mono ?_; rintro e w1 ⟨rfl, hb⟩; have c1 := (H.out.below hb).c1; have f1 := (H.out.below hb).fz 1)
      | (go_at_call 19; refine (hp _).mono ?_; rintro e w2 ⟨rfl, rfl⟩))
    go_ret
    refine ⟨by rw [Hp.out, Hq.out]; rfl, ?_, ?_⟩
    · unfold eatK
      rw [Hp.out, Hq.out]
      exact (H.out.below hb).moveI (by simp)
    · exact only_set hb H.out.lt 1 _

theorem own_downL {w : World} {B B' : Nat} {e : TypeId} {size n : Nat} {v : Value} {xs : List Value} (h : w.ownsRow B e size v n xs) (hb : B' ≤ B) : w.ownsRow B' e size v n xs := by
  refine ⟨h.1, ?_⟩
  rcases h.2 with h0 | ⟨g, cap, cur, hv, hg, r⟩
  · exact .inl h0
  · exact .inr ⟨g, cap, cur, hv, Nat.le_trans hb hg, r⟩
/-- A token's cells. -/
def tokC (t : LTok) : List Value := [.int .i64 t.k, .string t.x, .int .i64 t.p]
theorem tokInfo : (Tryz.prog.info? 72).map (fun i => (i.zero, i.size, i.bytes)) = some (some (.agg #[.int .i64 0, .string ⟨#[]⟩, .int .i64 0]), 3, 32) := by kernel_rfl
theorem tokC_len (ts : List LTok) : (ts.flatMap tokC).length = ts.length * 3 := by
  induction ts with
  | nil => rfl
  | cons t r ih => rw [List.flatMap_cons, List.length_append, ih, List.length_cons]; simp [tokC]; omega
theorem tokC_one (t : LTok) : ∀ u ∈ tokC t, u.oneCell' = true := by
  intro u hu
  simp only [tokC, List.mem_cons, List.not_mem_nil, or_false] at hu
  rcases hu with rfl | rfl | rfl <;> rfl
theorem rd_two' (w : World) (X : Obj) (cs : Array Value) (T : TypeId) (xs : List Value) (h : cs.toList = xs) : Rd ((w.alloc X).alloc (.cells cs T)) (some ⟨w.heap.size + 1, 0, none⟩) xs := by
  have := Rd.of_block (heap_alloc_new (w.alloc X) (.cells cs T)) h
  rwa [show (w.alloc X).heap.size = w.heap.size + 1 by simp] at this
/-- What Line says. -/
def LineR (s : ByteArray) (w : World) (e : Ending) (w' : World) : Prop := ∃ v : Value, e = .returned (.tuple #[v, .int .i64 (lineL s.data.toList).2.1, .int .i64 (lineL s.data.toList).2.2]) ∧
  w'.ownsRow w.heap.size 72 3 v (lineL s.data.toList).1.length ((lineL s.data.toList).1.flatMap tokC) ∧ Below w.heap.size w w'
theorem cx_of {w wr : World} {b : Nat} (hC : CtxL w) (hB : Below w.heap.size w wr) (hb : w.heap.size ≤ b) : ∀ w', wr.grownBy w' (some b) → CtxL w' :=
  fun w' hg => hC.step (hB.grown hg hB.size fun k hk => by injection hk with hk; omega)
/-- What a round of Line keeps. -/
def LineL (s : ByteArray) (w : World) (b : Nat) (v : Value) (wr : World) : Prop :=
  ∃ (k : Nat) (acc : List LTok), k ≤ s.size ∧ acc.length ≤ k ∧ RdrAt wr b s k ∧ wr.ownsRow (b + 1) 72 3 v acc.length (acc.flatMap tokC) ∧ Below w.heap.size w wr ∧ vld (from_ s k) ∧ lnRest s.data.toList k acc
set_option maxRecDepth 10000 in
set_option maxHeartbeats 8000000 in
theorem lexLine (s : ByteArray) (w : World) (hC : CtxL w) (hs : s.size ≤ 1000000) : Calls Tryz.prog 10 #[.string s] w (LineR s w) := by
  have hsg := utfSigns s w hC.1 hs
  have hl := size_toList s
  have Hl := Lib.hid hl
  have HC := Lib.hid hC
  clear hl hC
  cases hv : (sgn s.data.toList).2.2
  · have hsr : sigR s.data.toList = ([], (sgn s.data.toList).2.1, 11) := by unfold sigR; rw [hv]; rfl
    have Hli : Hid (lineL s.data.toList = ([], (sgn s.data.toList).2.1, 11)) := by show _ = _; unfold lineL; rw [hv]; rfl
    rw [hsr] at hsg
    clear hv hsr
    generalize (sgn s.data.toList).2.1 = p at *
    go_enter Tryz.func10, Tryz.ntmps10
    go_wp2_with (go_at_call 27; refine hsg.mono ?_; rintro e w1 ⟨v, n, rfl, own, hB⟩; have HB := Lib.hid hB; clear own)
    refine bodyPost_ret (v := .tuple #[.slice none 0 0, .int .i64 p, .int .i64 11]) (by simp [results, Tryz.results10, go_sem]) rfl ?_
    refine ⟨.slice none 0 0, by rw [Hli.out], ?_, HB.out⟩
    rw [Hli.out]
    exact World.ownsRow_nil _ _ _ _
  · have hsr : sigR s.data.toList = ((sgn s.data.toList).1, 0, 0) := by unfold sigR; rw [hv]; rfl
    have Hv : Hid (vld s.data.toList) := hv
    have Hli : Hid (lineL s.data.toList = match lnL s.data.toList 0 with | .ok ts => (ts, 0, 0) | .error e => ([], e, 10)) := by show _ = _; unfold lineL; rw [hv]; rfl
    rw [hsr] at hsg
    clear hv hsr
    go_enter Tryz.func10, Tryz.ntmps10
    go_wp2_with (go_at_call 27; refine hsg.mono ?_; rintro e w1 ⟨v, n, rfl, own, hB⟩; have HB := Lib.hid hB; clear own)
    go_loopw [2] (LineL s w w1.heap.size) (fun _ wr => s.size - (intOf ((wr.cell? ⟨w1.heap.size, 1, none⟩).getD undef)).toNat)
    case atStart =>
      refine ⟨0, [], by omega, by simp, ⟨none, 0, 0, ?_⟩, World.ownsRow_nil _ _ _ _, ?_, by simpa [from_] using Hv.out, lnRest_start _⟩
      · exact heap_alloc_new w1 _
      · exact HB.out.alloc HB.out.size _
    case round =>
      obtain ⟨k, acc, hk, hal, hrd, own, hB1, hv, hI⟩ := hrel
      have hC1 := cx_of HC.out hB1 HB.out.size
      have hme : (intOf ((wr.cell? ⟨w1.heap.size, 1, none⟩).getD undef)).toNat = k := by rw [hrd.c1]; simp [intOf]
      have Hme := Lib.hid hme
      have HI := Lib.hid hI
      have Hrd := Lib.hid hrd
      have HB1 := Lib.hid hB1
      have Own := Lib.hid own
      have HV := Lib.hid hv
      have hfl := from_len s k
      have q0 := hrd.c0
      have q1 := hrd.c1
      have hdr : s.data.toList.drop k = from_ s k := rfl
      have Hdr := Lib.hid hdr
      clear hme hI hB1 hdr
      obtain ⟨A, c, rfl, hac, _⟩ := own_slice own
      clear own
      by_cases hlt : k < s.size
      · have hbn : bn s k = c0 (from_ s k) := by have := bn_drop s k 0; rw [Nat.add_zero] at this; exact this.symm
        have hd1 : decide (k < s.size) = true := by simp; omega
        by_cases h35 : c0 (from_ s k) = 35
        · have hn : ((bn s k : Int) != 35) = false := by rw [hbn, h35]; rfl
          have Hres : Hid (lineL s.data.toList = (acc, 0, 0)) := by show _ = _; rw [Hli.out, lnRest_stop HI.out (.inr (by exact h35))]
          clear hbn h35 hfl hv
          go_wp2
          refine bodyPost_ret (v := .tuple #[.slice A acc.length c, .int .i64 0, .int .i64 0]) (by simp [results, Tryz.results10, go_sem]) rfl ?_
          refine ⟨_, by rw [Hres.out]; rfl, ?_, HB1.out⟩
          rw [Hres.out]
          exact own_downL Own.out (by have := HB.out.size; omega)
        · have hn : ((bn s k : Int) != 35) = true := by rw [hbn]; simp; omega
          have e1 := lexEatL ⟨#[32]⟩ s k w1.heap.size wr hrd hk hs (by decide)
          have e2 := fun W (hW : RdrAt W w1.heap.size s k) => lexEatL ⟨#[9]⟩ s k w1.heap.size W hW hk hs (by decide)
          have p1 : preB ⟨#[32]⟩ s k = decide (c0 (from_ s k) = 32) := pre1 (a := 32) (by decide) _
          have p2 : preB ⟨#[9]⟩ s k = decide (c0 (from_ s k) = 9) := pre1 (a := 9) (by decide) _
          unfold EatL eatK at e1 e2
          rw [p1] at e1
          rw [p2] at e2
          clear p1 p2
          by_cases h32 : c0 (from_ s k) = 32
          · rw [decide_eq_true h32] at e1
            have HIn : Hid (lnRest s.data.toList (k + 1) acc) := lnRest_blank HI.out (by rw [Hl.out]; exact hlt) (by exact .inl h32)
            have HV1 : Hid (vld (from_ s (k + 1))) := by rw [from_drop]; exact vld_one hv (by omega) (by omega)
            clear hbn h35 h32 hfl hv hC1
            go_wp2_with fail
            refine e1.mono ?_
            rintro e w2 ⟨rfl, R2, G2⟩
            have R2 := Lib.hid R2
            have G2 := Lib.hid G2
            go_wp2
            go_roundw
            case rel => exact ⟨k + 1, acc, by omega, by omega, R2.out, own_grown Own.out G2.out (by omega), below_grown HB1.out G2.out HB1.out.size HB.out.size, HV1.out, HIn.out⟩
            case measure =>
              have hme2 : (intOf ((w2.cell? ⟨w1.heap.size, 1, none⟩).getD undef)).toNat = k + 1 := by rw [R2.out.c1]; simp [intOf]; rfl
              have hme1 := Hme.out
              omega
          · rw [decide_eq_false h32] at e1
            by_cases h9 : c0 (from_ s k) = 9
            · have e2 := fun W hW => e2 W hW
              rw [decide_eq_true h9] at e2
              have HIn : Hid (lnRest s.data.toList (k + 1) acc) := lnRest_blank HI.out (by rw [Hl.out]; exact hlt) (by exact .inr h9)
              have HV1 : Hid (vld (from_ s (k + 1))) := by rw [from_drop]; exact vld_one hv (by omega) (by omega)
              clear hbn h35 h32 h9 hfl hv hC1
              go_wp2_with fail
              refine e1.mono ?_
              rintro e w2 ⟨rfl, R2, G2⟩
              have R2 := Lib.hid R2
              have G2 := Lib.hid G2
              go_wp2_with fail
              refine (e2 w2 R2.out).mono ?_
              rintro e w3 ⟨rfl, R3, G3⟩
              have R3 := Lib.hid R3
              have G3 := Lib.hid G3
              go_wp2
              go_roundw
              case rel => exact ⟨k + 1, acc, by omega, by omega, R3.out, own_grown Own.out (G2.out.trans G3.out) (by omega), below_grown HB1.out (G2.out.trans G3.out) HB1.out.size HB.out.size, HV1.out, HIn.out⟩
              case measure =>
                have hme2 : (intOf ((w3.cell? ⟨w1.heap.size, 1, none⟩).getD undef)).toNat = k + 1 := by rw [R3.out.c1]; simp [intOf]; rfl
                have hme1 := Hme.out
                omega
            · rw [decide_eq_false h9] at e2
              have hbl : ¬ blankC (c0 (from_ s k)) := by unfold blankC; omega
              have htk := fun W (hW : RdrAt W w1.heap.size s k) (hG : wr.grownBy W (some w1.heap.size)) => lexToken s k w1.heap.size W hW (fun w' hg => hC1 w' (hG.trans hg)) hlt hs hv
              have H35 := Lib.hid h35
              have Hbl := Lib.hid hbl
              have Hlt := Lib.hid hlt
              clear hbn h35 h32 h9 hfl hv hC1 hbl
              go_wp2_with fail
              refine e1.mono ?_
              rintro e w2 ⟨rfl, R2, G2⟩
              have R2 := Lib.hid R2
              have G2 := Lib.hid G2
              go_wp2_with fail
              refine (e2 w2 R2.out).mono ?_
              rintro e w3 ⟨rfl, R3, G3⟩
              have R3 := Lib.hid R3
              have G3 := Lib.hid (G2.out.trans G3)
              go_wp2_with fail
              refine (htk w3 R3.out G3.out).mono ?_
              rintro e w4 (⟨kn, m, x, ht, rfl, G4, R4⟩ | ⟨ht, ⟨kd, x, rfl⟩, G4⟩)
              · have hsp := tkL_spec ht
                obtain ⟨m1, m2, _, m4, _, _, _, _⟩ := hsp
                rw [from_len] at m2
                have HIn : Hid (lnRest s.data.toList (k + m) (acc ++ [⟨kn, x, k⟩])) := lnRest_tok HI.out (by exact ht)
                have HVn : Hid (vld (from_ s (k + m))) := by rw [from_drop]; exact m4 HV.out
                have G4 := Lib.hid (G3.out.trans G4)
                have R4 := Lib.hid R4
                have Own4 := Lib.hid (own_grown Own.out G4.out (by omega))
                have hB4 := below_grown HB1.out G4.out HB1.out.size HB.out.size
                have HB4 := Lib.hid hB4
                have hz4 := hB4.size
                have hz0 := HB.out.size
                clear ht m4 hB4
                have ownN : ((w4.alloc (.cells #[.int .i64 kn, .string x, .int .i64 k] 72)).alloc (.cells #[.int .i64 kn, .string x, .int .i64 k] 72)).ownsRow (w1.heap.size + 1) 72 3 (.slice A acc.length c) acc.length (acc.flatMap tokC) := (Own4.out.alloc _).alloc _
                have hrN : Rd ((w4.alloc (.cells #[.int .i64 kn, .string x, .int .i64 k] 72)).alloc (.cells #[.int .i64 kn, .string x, .int .i64 k] 72)) (some ⟨w4.heap.size + 1, 0, none⟩) (tokC ⟨kn, x, k⟩) := rd_two' _ _ _ _ _ rfl
                have HBN : Hid (Below w4.heap.size w4 ((w4.alloc (.cells #[.int .i64 kn, .string x, .int .i64 k] 72)).alloc (.cells #[.int .i64 kn, .string x, .int .i64 k] 72))) := ((Below.refl _ _).alloc (Nat.le_refl _) _).alloc (by simp) _
                have hg4 := G4.out.size
                have hrd4 := Hrd.out.lt
                go_wp2_with (at_builtin; refine wpList_app (m := 1) rfl rfl Tryz.underlying29 tokInfo rfl (by omega) rfl ownN rfl hrN rfl (tokC_one _) (by omega) (by omega) (by simp; omega) ?_; intro v5 w5 own5 hb5)
                have R5 : RdrAt w5 w1.heap.size s (k + m) := by
                  obtain ⟨A5, n5, c5, h5⟩ := R4.out.below HBN.out
                  exact ⟨A5, n5, c5, by rw [hb5.block _ (by omega)]; exact h5⟩
                have hB5 : Below w.heap.size w w5 := HB4.out.trans ((HBN.out.mono (by omega)).trans (hb5.mono (by omega)))
                have R5 := Lib.hid R5
                go_roundw
                case rel =>
                  refine ⟨k + m, acc ++ [⟨kn, x, k⟩], by omega, by simp; omega, R5.out, ?_, hB5, HVn.out, HIn.out⟩
                  rw [List.flatMap_append, List.length_append]
                  simpa using own5
                case measure =>
                  have hme2 : (intOf ((w5.cell? ⟨w1.heap.size, 1, none⟩).getD undef)).toNat = k + m := by rw [R5.out.c1]; simp [intOf]; omega
                  have hme1 := Hme.out
                  omega
              · have Hres : Hid (lineL s.data.toList = ([], k, 10)) := by
                  show _ = _
                  rw [Hli.out, lnRest_bad HI.out (by rw [Hl.out]; exact Hlt.out) (by exact H35.out) (by exact Hbl.out) (by exact ht)]
                have G4 := Lib.hid (G3.out.trans G4)
                clear ht
                go_wp2
                go_quiet (fail)
                go_wp2
                refine bodyPost_ret (v := .tuple #[.slice none 0 0, .int .i64 k, .int .i64 10]) (by simp [results, Tryz.results10, go_sem]) rfl ?_
                refine ⟨.slice none 0 0, by rw [Hres.out], ?_, ?_⟩
                · rw [Hres.out]
                  exact World.ownsRow_nil _ _ _ _
                · have hB4 := below_grown HB1.out G4.out HB1.out.size HB.out.size
                  have hB5 := hB4.alloc hB4.size (.cells #[.int .i64 kd, .string x, .int .i64 k] 72)
                  exact ⟨hB5.os, hB5.tape, hB5.output, hB5.size, hB5.block⟩
      · have hd1 : decide (k < s.size) = false := by simp; omega
        have Hres : Hid (lineL s.data.toList = (acc, 0, 0)) := by show _ = _; rw [Hli.out, lnRest_stop HI.out (.inl (by rw [Hl.out]; omega))]
        clear hfl hv
        go_wp2
        refine bodyPost_ret (v := .tuple #[.slice A acc.length c, .int .i64 0, .int .i64 0]) (by simp [results, Tryz.results10, go_sem]) rfl ?_
        refine ⟨_, by rw [Hres.out]; rfl, ?_, HB1.out⟩
        rw [Hres.out]
        exact own_downL Own.out (by have := HB.out.size; omega)
end Go.Proofs.YtffpgandgajihaaGreatDoor
namespace Go.Proofs.YtffpgandgajihaaGreatDoor
open Go Go.RowKit Um Lx

theorem tokInfo9 : (Tryz.prog.info? 167).map (fun i => (i.zero, i.size, i.bytes)) = some (some (.agg #[.int .i64 0, .string ⟨#[]⟩, .int .i64 0]), 3, 32) := by kernel_rfl
/-- What the answer's Line says. -/
def LineV (s : ByteArray) (w : World) (e : Ending) (w' : World) : Prop := ∃ v : Value, e = .returned (.tuple #[v, .int .i64 (lineL s.data.toList).2.1, .int .i64 (lineL s.data.toList).2.2]) ∧
  w'.ownsRow w.heap.size 167 3 v (lineL s.data.toList).1.length ((lineL s.data.toList).1.flatMap tokC) ∧ Below w.heap.size w w'
def LineVL (s : ByteArray) (w : World) (v i : Value) (wr : World) : Prop :=
  ∃ (k : Nat) (acc : List LTok), k ≤ s.size ∧ acc.length ≤ k ∧ i = .int .i64 k ∧ wr.ownsRow w.heap.size 167 3 v acc.length (acc.flatMap tokC) ∧ Below w.heap.size w wr ∧ Hid (lnRest s.data.toList k acc)
set_option maxRecDepth 10000 in
set_option maxHeartbeats 8000000 in
theorem refLine (s : ByteArray) (w : World) (hs : s.size ≤ 1000000) : Calls Tryz.prog 63 #[.string s] w (LineV s w) := by
  have hsg := refSigns s w (Nat.le_trans hs (by decide))
  have hl := size_toList s
  have Hl := Lib.hid hl
  clear hl
  cases hv : (sgn s.data.toList).2.2
  · have hsr : sigR s.data.toList = ([], (sgn s.data.toList).2.1, 11) := by unfold sigR; rw [hv]; rfl
    have Hli : Hid (lineL s.data.toList = ([], (sgn s.data.toList).2.1, 11)) := by show _ = _; unfold lineL; rw [hv]; rfl
    rw [hsr] at hsg
    clear hv hsr
    generalize (sgn s.data.toList).2.1 = p at *
    go_enter Tryz.func63, Tryz.ntmps63
    go_wp2_with (go_at_call 102; refine hsg.mono ?_; rintro e w1 ⟨v, n, rfl, own, hB⟩; have HB := Lib.hid hB; clear own)
    refine bodyPost_ret (v := .tuple #[.slice none 0 0, .int .i64 p, .int .i64 11]) (by simp [results, Tryz.results63, go_sem]) rfl ?_
    refine ⟨.slice none 0 0, by rw [Hli.out], ?_, HB.out⟩
    rw [Hli.out]
    exact World.ownsRow_nil _ _ _ _
  · have hsr : sigR s.data.toList = ((sgn s.data.toList).1, 0, 0) := by unfold sigR; rw [hv]; rfl
    have Hli : Hid (lineL s.data.toList = match lnL s.data.toList 0 with | .ok ts => (ts, 0, 0) | .error e => ([], e, 10)) := by show _ = _; unfold lineL; rw [hv]; rfl
    rw [hsr] at hsg
    clear hv hsr
    go_enter Tryz.func63, Tryz.ntmps63
    go_wp2_with (go_at_call 102; refine hsg.mono ?_; rintro e w1 ⟨v, n, rfl, own, hB⟩; have HB := Lib.hid hB; clear own)
    go_loopw [8, 9] (LineVL s w) (fun _ i _ => s.size - (intOf i).toNat)
    case atStart => exact ⟨0, [], by omega, by simp, rfl, World.ownsRow_nil _ _ _ _, HB.out, lnRest_start _⟩
    case round =>
      obtain ⟨k, acc, hk, hal, rfl, own, hB1, HI⟩ := hrel
      have HB1 := Lib.hid hB1
      have Own := Lib.hid own
      have hfl := from_len s k
      clear hB1
      obtain ⟨A, c, rfl, hac, _⟩ := own_slice own
      clear own
      by_cases hlt : k < s.size
      · have hbn : bn s k = c0 (from_ s k) := (bn_from s k 0).symm
        have hd1 : decide (k < s.size) = true := by simp; omega
        by_cases h35 : c0 (from_ s k) = 35
        · have hn : ((bn s k : Int) == 35) = true := by rw [hbn, h35]; rfl
          have Hres : Hid (lineL s.data.toList = (acc, 0, 0)) := by show _ = _; rw [Hli.out, lnRest_stop HI.out (.inr (by exact h35))]
          clear hbn h35 hfl
          go_wp2
          refine bodyPost_ret (v := .tuple #[.slice A acc.length c, .int .i64 0, .int .i64 0]) (by simp [results, Tryz.results63, go_sem]) rfl ?_
          refine ⟨_, by rw [Hres.out]; rfl, ?_, HB1.out⟩
          rw [Hres.out]
          exact Own.out
        · have hn : ((bn s k : Int) == 35) = false := by rw [hbn]; simp; omega
          have hk2 : k ≤ 1000000 := by omega
          by_cases hbl : blankC (c0 (from_ s k))
          · have HIn : Hid (lnRest s.data.toList (k + 1) acc) := lnRest_blank HI.out (by rw [Hl.out]; exact hlt) (by exact hbl)
            rcases hbl with h32 | h9
            · have e1 : ((bn s k : Int) == 32) = true := by rw [hbn, h32]; rfl
              clear hbn h35 h32 hfl
              go_wp2
              go_roundw
              case rel => exact ⟨k + 1, acc, by omega, by omega, by go_num, Own.out, HB1.out, HIn⟩
              case measure => simp [intOf]; omega
            · have e1 : ((bn s k : Int) == 32) = false := by rw [hbn, h9]; rfl
              have e2 : ((bn s k : Int) == 9) = true := by rw [hbn, h9]; rfl
              clear hbn h35 h9 hfl
              go_wp2
              go_roundw
              case rel => exact ⟨k + 1, acc, by omega, by omega, by go_num, Own.out, HB1.out, HIn⟩
              case measure => simp [intOf]; omega
          · have e1 : ((bn s k : Int) == 32) = false := by rw [hbn]; unfold blankC at hbl; simp; omega
            have e2 : ((bn s k : Int) == 9) = false := by rw [hbn]; unfold blankC at hbl; simp; omega
            have htk := fun W => refToken s k W hlt hs
            have H35 := Lib.hid h35
            have Hbl := Lib.hid hbl
            have Hlt := Lib.hid hlt
            clear hbn h35 hbl
            go_wp2_with fail
            refine (htk wr).mono ?_
            rintro e w4 ⟨hb4, ⟨kn, m, x, ht, rfl⟩ | ⟨ht, kd, x, rfl⟩⟩
            · have hsp := tkL_spec ht
              obtain ⟨m1, m2, _, _, _, _, _, _⟩ := hsp
              rw [hfl] at m2
              have HIn : Hid (lnRest s.data.toList (k + m) (acc ++ [⟨kn, x, k⟩])) := lnRest_tok HI.out (by exact ht)
              have Own4 := Lib.hid (own_below Own.out hb4 (Nat.le_refl _))
              have hB4 := below_tr HB1.out hb4
              have HB4 := Lib.hid hB4
              have hz4 := hB4.size
              have hme : ((m : Int) == 0) = false := by simp; omega
              have ownN : ((w4.alloc (.cells #[.int .i64 kn, .string x, .int .i64 k] 167)).alloc (.cells #[.int .i64 kn, .string x, .int .i64 k] 167)).ownsRow w.heap.size 167 3 (.slice A acc.length c) acc.length (acc.flatMap tokC) := (Own4.out.alloc _).alloc _
              have hrN : Rd ((w4.alloc (.cells #[.int .i64 kn, .string x, .int .i64 k] 167)).alloc (.cells #[.int .i64 kn, .string x, .int .i64 k] 167)) (some ⟨w4.heap.size + 1, 0, none⟩) (tokC ⟨kn, x, k⟩) := rd_two' _ _ _ _ _ rfl
              have HBN : Hid (Below w.heap.size w ((w4.alloc (.cells #[.int .i64 kn, .string x, .int .i64 k] 167)).alloc (.cells #[.int .i64 kn, .string x, .int .i64 k] 167))) := (hB4.alloc hz4 _).alloc (by simp; omega) _
              clear ht hB4 hb4 hfl
              go_wp2_with (at_builtin; refine wpList_app (m := 1) rfl rfl Tryz.underlying121 tokInfo9 rfl (by omega) rfl ownN rfl hrN rfl (tokC_one _) (by omega) (by omega) (by simp; omega) ?_; intro v5 w5 own5 hb5)
              have HB5 := Lib.hid (HBN.out.trans hb5)
              go_roundw
              case rel =>
                refine ⟨k + m, acc ++ [⟨kn, x, k⟩], by omega, by simp; omega, by go_num, ?_, HB5.out, HIn⟩
                rw [List.flatMap_append, List.length_append]
                simpa using own5
              case measure => simp [intOf]; omega
            · have Hres : Hid (lineL s.data.toList = ([], k, 10)) := by
                show _ = _
                rw [Hli.out, lnRest_bad HI.out (by rw [Hl.out]; exact Hlt.out) (by exact H35.out) (by exact Hbl.out) (by exact ht)]
              have HB4 := Lib.hid (below_tr HB1.out hb4)
              clear ht hb4 hfl
              go_wp2
              refine bodyPost_ret (v := .tuple #[.slice none 0 0, .int .i64 k, .int .i64 10]) (by simp [results, Tryz.results63, go_sem]) rfl ?_
              refine ⟨.slice none 0 0, by rw [Hres.out], ?_, ?_⟩
              · rw [Hres.out]
                exact World.ownsRow_nil _ _ _ _
              · exact HB4.out.alloc HB4.out.size _
      · have hd1 : decide (k < s.size) = false := by simp; omega
        have Hres : Hid (lineL s.data.toList = (acc, 0, 0)) := by show _ = _; rw [Hli.out, lnRest_stop HI.out (.inl (by rw [Hl.out]; omega))]
        clear hfl
        go_wp2
        refine bodyPost_ret (v := .tuple #[.slice A acc.length c, .int .i64 0, .int .i64 0]) (by simp [results, Tryz.results63, go_sem]) rfl ?_
        refine ⟨_, by rw [Hres.out]; rfl, ?_, HB1.out⟩
        rw [Hres.out]
        exact Own.out
end Go.Proofs.YtffpgandgajihaaGreatDoor
