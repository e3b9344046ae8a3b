/- The answer for lex (ossuaryref09): Line. -/
import Derived.Test.YtjigcembbigbnaaDoorJR9d
import Derived.Test.YtjigcembbigbnaaDoorJLex10
namespace Go.Proofs.YtjigcembbigbnaaDoor
open Go Go.RowKit Um Lx

theorem tokInfo9 : (Tryd.prog.info? 43).map (fun i => (i.zero, i.size, i.bytes)) = some (some (.agg #[.int .i64 0, .string ⟨#[]⟩, .int .i64 0]), 3, 32) := by kernel_rfl
/-- What the answer's Line says. -/
def LineV (s : ByteArray) (w : World) (e : Ending) (w' : World) : Prop := ∃ v : Value, e = .returned (.tuple #[v, .int .i64 (lineL s.data.toList).2.1, .int .i64 (lineL s.data.toList).2.2]) ∧
  w'.ownsRow w.heap.size 43 3 v (lineL s.data.toList).1.length ((lineL s.data.toList).1.flatMap tokC) ∧ Below w.heap.size w w'
def LineVL (s : ByteArray) (w : World) (v i : Value) (wr : World) : Prop :=
  ∃ (k : Nat) (acc : List Tok), k ≤ s.size ∧ acc.length ≤ k ∧ i = .int .i64 k ∧ wr.ownsRow w.heap.size 43 3 v acc.length (acc.flatMap tokC) ∧ Below w.heap.size w wr ∧ Hid (lnRest s.data.toList k acc)
set_option maxRecDepth 10000 in
set_option maxHeartbeats 8000000 in
theorem refLine (s : ByteArray) (w : World) (hs : s.size ≤ 1000000) : Calls Tryd.prog 14 #[.string s] w (LineV s w) := by
  have hsg := refSigns s w (Nat.le_trans hs (by decide))
  have hl := size_toList s
  have Hl := Lib.hid hl
  clear hl
  cases hv : (sgn s.data.toList).2.2
  · have hsr : sigR s.data.toList = ([], (sgn s.data.toList).2.1, 11) := by unfold sigR; rw [hv]; rfl
    have Hli : Hid (lineL s.data.toList = ([], (sgn s.data.toList).2.1, 11)) := by show _ = _; unfold lineL; rw [hv]; rfl
    rw [hsr] at hsg
    clear hv hsr
    generalize (sgn s.data.toList).2.1 = p at *
    go_enter Tryd.func14, Tryd.ntmps14
    go_wp2_with (go_at_call 18; refine hsg.mono ?_; rintro e w1 ⟨v, n, rfl, own, hB⟩; have HB := Lib.hid hB; clear own)
    refine bodyPost_ret (v := .tuple #[.slice none 0 0, .int .i64 p, .int .i64 11]) (by simp [results, Tryd.results14, go_sem]) rfl ?_
    refine ⟨.slice none 0 0, by rw [Hli.out], ?_, HB.out⟩
    rw [Hli.out]
    exact World.ownsRow_nil _ _ _ _
  · have hsr : sigR s.data.toList = ((sgn s.data.toList).1, 0, 0) := by unfold sigR; rw [hv]; rfl
    have Hli : Hid (lineL s.data.toList = match lnL s.data.toList 0 with | .ok ts => (ts, 0, 0) | .error e => ([], e, 10)) := by show _ = _; unfold lineL; rw [hv]; rfl
    rw [hsr] at hsg
    clear hv hsr
    go_enter Tryd.func14, Tryd.ntmps14
    go_wp2_with (go_at_call 18; refine hsg.mono ?_; rintro e w1 ⟨v, n, rfl, own, hB⟩; have HB := Lib.hid hB; clear own)
    go_loopw [8, 9] (LineVL s w) (fun _ i _ => s.size - (intOf i).toNat)
    case atStart => exact ⟨0, [], by omega, by simp, rfl, World.ownsRow_nil _ _ _ _, HB.out, lnRest_start _⟩
    case round =>
      obtain ⟨k, acc, hk, hal, rfl, own, hB1, HI⟩ := hrel
      have HB1 := Lib.hid hB1
      have Own := Lib.hid own
      have hfl := from_len s k
      clear hB1
      obtain ⟨A, c, rfl, hac, _⟩ := own_slice own
      clear own
      by_cases hlt : k < s.size
      · have hbn : bn s k = c0 (from_ s k) := (bn_from s k 0).symm
        have hd1 : decide (k < s.size) = true := by simp; omega
        by_cases h35 : c0 (from_ s k) = 35
        · have hn : ((bn s k : Int) == 35) = true := by rw [hbn, h35]; rfl
          have Hres : Hid (lineL s.data.toList = (acc, 0, 0)) := by show _ = _; rw [Hli.out, lnRest_stop HI.out (.inr (by exact h35))]
          clear hbn h35 hfl
          go_wp2
          refine bodyPost_ret (v := .tuple #[.slice A acc.length c, .int .i64 0, .int .i64 0]) (by simp [results, Tryd.results14, go_sem]) rfl ?_
          refine ⟨_, by rw [Hres.out]; rfl, ?_, HB1.out⟩
          rw [Hres.out]
          exact Own.out
        · have hn : ((bn s k : Int) == 35) = false := by rw [hbn]; simp; omega
          have hk2 : k ≤ 1000000 := by omega
          by_cases hbl : blankC (c0 (from_ s k))
          · have HIn : Hid (lnRest s.data.toList (k + 1) acc) := lnRest_blank HI.out (by rw [Hl.out]; exact hlt) (by exact hbl)
            rcases hbl with h32 | h9
            · have e1 : ((bn s k : Int) == 32) = true := by rw [hbn, h32]; rfl
              clear hbn h35 h32 hfl
              go_wp2
              go_roundw
              case rel => exact ⟨k + 1, acc, by omega, by omega, by go_num, Own.out, HB1.out, HIn⟩
              case measure => simp [intOf]; omega
            · have e1 : ((bn s k : Int) == 32) = false := by rw [hbn, h9]; rfl
              have e2 : ((bn s k : Int) == 9) = true := by rw [hbn, h9]; rfl
              clear hbn h35 h9 hfl
              go_wp2
              go_roundw
              case rel => exact ⟨k + 1, acc, by omega, by omega, by go_num, Own.out, HB1.out, HIn⟩
              case measure => simp [intOf]; omega
          · have e1 : ((bn s k : Int) == 32) = false := by rw [hbn]; unfold blankC at hbl; simp; omega
            have e2 : ((bn s k : Int) == 9) = false := by rw [hbn]; unfold blankC at hbl; simp; omega
            have htk := fun W => refToken s k W hlt hs
            have H35 := Lib.hid h35
            have Hbl := Lib.hid hbl
            have Hlt := Lib.hid hlt
            clear hbn h35 hbl
            go_wp2_with fail
            refine (htk wr).mono ?_
            rintro e w4 ⟨hb4, ⟨kn, m, x, ht, rfl⟩ | ⟨ht, kd, x, rfl⟩⟩
            · have hsp := tkL_spec ht
              obtain ⟨m1, m2, _, _, _, _, _, _⟩ := hsp
              rw [hfl] at m2
              have HIn : Hid (lnRest s.data.toList (k + m) (acc ++ [⟨kn, x, k⟩])) := lnRest_tok HI.out (by exact ht)
              have Own4 := Lib.hid (own_below Own.out hb4 (Nat.le_refl _))
              have hB4 := below_tr HB1.out hb4
              have HB4 := Lib.hid hB4
              have hz4 := hB4.size
              have hme : ((m : Int) == 0) = false := by simp; omega
              have ownN : ((w4.alloc (.cells #[.int .i64 kn, .string x, .int .i64 k] 43)).alloc (.cells #[.int .i64 kn, .string x, .int .i64 k] 43)).ownsRow w.heap.size 43 3 (.slice A acc.length c) acc.length (acc.flatMap tokC) := (Own4.out.alloc _).alloc _
              have hrN : Rd ((w4.alloc (.cells #[.int .i64 kn, .string x, .int .i64 k] 43)).alloc (.cells #[.int .i64 kn, .string x, .int .i64 k] 43)) (some ⟨w4.heap.size + 1, 0, none⟩) (tokC ⟨kn, x, k⟩) := rd_two' _ _ _ _ _ rfl
              have HBN : Hid (Below w.heap.size w ((w4.alloc (.cells #[.int .i64 kn, .string x, .int .i64 k] 43)).alloc (.cells #[.int .i64 kn, .string x, .int .i64 k] 43))) := (hB4.alloc hz4 _).alloc (by simp; omega) _
              clear ht hB4 hb4 hfl
              go_wp2_with (at_builtin; refine wpList_app (m := 1) rfl rfl Tryd.underlying39 tokInfo9 rfl (by omega) rfl ownN rfl hrN rfl (tokC_one _) (by omega) (by omega) (by simp; omega) ?_; intro v5 w5 own5 hb5)
              have HB5 := Lib.hid (HBN.out.trans hb5)
              go_roundw
              case rel =>
                refine ⟨k + m, acc ++ [⟨kn, x, k⟩], by omega, by simp; omega, by go_num, ?_, HB5.out, HIn⟩
                rw [List.flatMap_append, List.length_append]
                simpa using own5
              case measure => simp [intOf]; omega
            · have Hres : Hid (lineL s.data.toList = ([], k, 10)) := by
                show _ = _
                rw [Hli.out, lnRest_bad HI.out (by rw [Hl.out]; exact Hlt.out) (by exact H35.out) (by exact Hbl.out) (by exact ht)]
              have HB4 := Lib.hid (below_tr HB1.out hb4)
              clear ht hb4 hfl
              go_wp2
              refine bodyPost_ret (v := .tuple #[.slice none 0 0, .int .i64 k, .int .i64 10]) (by simp [results, Tryd.results14, go_sem]) rfl ?_
              refine ⟨.slice none 0 0, by rw [Hres.out], ?_, ?_⟩
              · rw [Hres.out]
                exact World.ownsRow_nil _ _ _ _
              · exact HB4.out.alloc HB4.out.size _
      · have hd1 : decide (k < s.size) = false := by simp; omega
        have Hres : Hid (lineL s.data.toList = (acc, 0, 0)) := by show _ = _; rw [Hli.out, lnRest_stop HI.out (.inl (by rw [Hl.out]; omega))]
        clear hfl
        go_wp2
        refine bodyPost_ret (v := .tuple #[.slice A acc.length c, .int .i64 0, .int .i64 0]) (by simp [results, Tryd.results14, go_sem]) rfl ?_
        refine ⟨_, by rw [Hres.out]; rfl, ?_, HB1.out⟩
        rw [Hres.out]
        exact Own.out
end Go.Proofs.YtjigcembbigbnaaDoor
