/- The program's package filter, walked: Of, Keeps. -/
import Derived.Test.YtmdjffnelkgmpaaDoorFilOver
namespace Go.Proofs.YtmdjffnelkgmpaaDoor
open Go Go.RowKit Go.Maps Go.ChangeMaps Fm

set_option maxRecDepth 10000 in
set_option maxHeartbeats 1000000 in
theorem filOf (vars : List ByteArray) (row : List Tm) (hv : vars.length ≤ 281474976710656) (hrl : row.length ≤ 281474976710656) (hzr : ∀ u ∈ row, u.x.size ≤ 281474976710656) (n : Nat) (x : ExT n) (cs : List Value) (A1 A2 : Option Addr) (c1 c2 : Nat) (w : World)
    (hr1 : Rd w A1 (vars.map Value.string)) (hr2 : RdTs w A2 row) (hx : RdE n w cs x) (hzx : szE n x) :
    Calls Tryd.prog 13 #[.agg cs.toArray, .slice A1 vars.length c1, .slice A2 row.length c2] w fun e w' => e = .returned (.int .i64 (ofI vars row n x)) ∧ Below w.heap.size w w' := by
  have hT := fun b cs W hj hr => filTruthAll vars row b hv hrl hzr n x cs W hj hr hzx
  obtain ⟨v, hvv⟩ : ∃ v, ofI vars row n x = v := ⟨_, rfl⟩
  rw [hvv] at hT ⊢
  have hcs : ∃ (k : Int) (s : ByteArray) (t : Tm) (A : Option Addr) (m c : Nat), cs = [.int .i64 k, .string s, .int .i64 t.k, .string t.x, .string t.l, .string t.y, .slice A m c] := by
    match n, x, hx with
    | n + 1, (k, s, t, kids), ⟨A, c, h, _⟩ => exact ⟨k, s, t, A, _, c, h⟩
  obtain ⟨k, s, t, A, m, c, rfl⟩ := hcs
  clear hvv hzx hzr hrl hv
  go_enter Tryd.func13, Tryd.ntmps13
  go_wp2
  obtain ⟨W, hW⟩ : ∃ W : World, w.alloc (.cells #[.int .i64 k, .string s, .int .i64 t.k, .string t.x, .string t.l, .string t.y, .slice A m c] 49) = W := ⟨_, rfl⟩
  have hB0 : Below w.heap.size w W := by rw [← hW]; exact (by repeat (first | exact Below.refl _ _ | assumption | exact (Below.refl _ _).alloc (Nat.le_refl _) _ | refine below_tr ?_ (by assumption) | refine below_alloc ?_ | refine below_tr ?_ (below_regrown _ _ _)))
  have hbx : ∀ (i : Nat) v, #[Value.int .i64 k, .string s, .int .i64 t.k, .string t.x, .string t.l, .string t.y, .slice A m c][i]? = some v → W.cell? ⟨w.heap.size, i, none⟩ = some v := by
    intro i v hv; rw [← hW, World.cell?, heap_alloc_new]; exact hv
  simp only [hW]
  have HW := Lib.hid hW
  clear hW
  refine Rf.wp_region_pl W.heap.size ?R (Rf.Pl.quiet [0, 1, 3] (Rf.Pl.one 2 (Rf.Pl.one 4 (Rf.Pl.quiet [5] (Rf.Pl.done))))) _ (by kernel_rfl) (by kernel_rfl) (by simp only [Rf.Pl.pick, Rf.pickO, List.map_cons, List.map_nil, Rg.pickOps, List.getElem?_toArray, List.getElem?_cons_zero, List.getElem?_cons_succ, Option.getD_some]; rfl) ?_ ?_
  case R => exact fun a W' => ∃ (u7 u8 u9 u10 u11 : Value), a = { tmps := #[.agg #[.int .i64 k, .string s, .int .i64 t.k, .string t.x, .string t.l, .string t.y, .slice A m c], .slice A1 vars.length c1, .slice A2 row.length c2, .pointer (some ⟨w.heap.size, 0, none⟩), undef, undef, .int .i64 v, u7, u8, u9, u10, u11], defers := [] } ∧ Below W.heap.size W W'
  · intro wd hbd hwz
    have b0 := cellL (hbx 0 _ rfl) hbd
    have b1 := cellL (hbx 1 _ rfl) hbd
    have b2 := cellL (hbx 2 _ rfl) hbd
    have b3 := cellL (hbx 3 _ rfl) hbd
    have b4 := cellL (hbx 4 _ rfl) hbd
    have b5 := cellL (hbx 5 _ rfl) hbd
    have b6 := cellL (hbx 6 _ rfl) hbd
    have hb := below_tr hB0 hbd
    have h1 := hr1.later hb
    have h2 := RdTs.later hr2 hb
    have h3 := hx.later hb
    have Hz := Lib.hid hwz
    clear hbx hr1 hr2 hx hwz hb
    refine Rf.pl_quiet ?_
    iterate 3 go_big_quiet_step (fail)
    refine wpQuiet_nil (Rf.pl_one ?_)
    go_wp2_with (refine (filOver vars row A1 A2 c1 c2 _ h1 h2).mono ?_; rintro e w1 ⟨b, rfl, hj, hb1⟩)
    refine ⟨hb1.mono hbd.size, Rf.pl_one ?_⟩
    go_wp2_with (refine (hT b _ _ hj (h3.later hb1)).mono ?_; rintro e w2 ⟨rfl, hb2⟩)
    refine ⟨hb2.mono (Nat.le_trans hbd.size hb1.size), Rf.pl_quiet ?_⟩
    iterate 1 go_big_quiet_step (fail)
    exact wpQuiet_nil (Rf.pl_done ⟨_, _, _, _, _, rfl, below_tr (below_tr hbd hb1) hb2⟩)
  · rintro a W1 ⟨u7, u8, u9, u10, u11, rfl, hb1⟩
    clear hbx hr1 hr2 hx hT
    go_wp2
    go_ret
    exact ⟨rfl, below_tr hB0 hb1⟩

/-- Some condition is not so. -/
def failsI (vars : List ByteArray) (row : List Tm) (n : Nat) (l : List (ExT n)) : Bool := l.any fun x => !(ofI vars row n x == 1)
set_option maxRecDepth 10000 in
set_option maxHeartbeats 1000000 in
theorem filKeeps1 (vars : List ByteArray) (row : List Tm) (n : Nat) (x : ExT n) (cs : List Value) (b : Nat) (p : Addr) (w : World) (hp : w.cell? p = some (.pointer (some ⟨b, 0, none⟩))) (hx : RdE n w cs x) (hS : Says vars row b w n x) :
    Calls Tryd.prog 33 #[.agg cs.toArray, .pointer (some p)] w fun e w' => e = .returned (.bool (!(ofI vars row n x == 1))) ∧ Below w.heap.size w w' := by
  have hcs : ∃ (k : Int) (s : ByteArray) (t : Tm) (A : Option Addr) (m c : Nat), cs = [.int .i64 k, .string s, .int .i64 t.k, .string t.x, .string t.l, .string t.y, .slice A m c] := by
    match n, x, hx with
    | n + 1, (k, s, t, kids), ⟨A, c, h, _⟩ => exact ⟨k, s, t, A, _, c, h⟩
  obtain ⟨k, s, t, A, m, c, rfl⟩ := hcs
  have hB0 : Below w.heap.size w (w.alloc (.cells #[.int .i64 k, .string s, .int .i64 t.k, .string t.x, .string t.l, .string t.y, .slice A m c] 49)) := (by repeat (first | exact Below.refl _ _ | assumption | exact (Below.refl _ _).alloc (Nat.le_refl _) _ | refine below_tr ?_ (by assumption) | refine below_alloc ?_ | refine below_tr ?_ (below_regrown _ _ _)))
  have hS' := hS _ _ hB0 (hx.later hB0)
  have hp' := cell_on hp hB0
  generalize ofI vars row n x = v at *
  have HB0 := Lib.hid hB0
  clear hS hx hB0
  go_enter Tryd.func33, Tryd.ntmps33
  go_wp2_with fail
  refine hS'.mono ?_
  rintro e w2 ⟨rfl, hb2⟩
  have HB := Lib.hid (below_tr HB0.out hb2)
  clear hb2 hS'
  go_wp2
  go_ret
  exact ⟨rfl, HB.out⟩
set_option maxRecDepth 10000 in
set_option maxHeartbeats 1000000 in
theorem filIdxKeeps (vars : List ByteArray) (row : List Tm) (n : Nat) (l : List (ExT n)) (A : Option Addr) (c : Nat) (b : Nat) (p : Addr) (w : World) (hl : l.length ≤ 1353245080300) (hr : RdEs n w A l) (hp : w.cell? p = some (.pointer (some ⟨b, 0, none⟩)))
    (hS : ∀ x ∈ l, ∀ W, Below w.heap.size w W → Says vars row b W n x) :
    Calls Tryd.prog 59 #[.slice A l.length c, .func (.func 33) #[] #[.pointer (some p)]] w fun e w' => ∃ i : Int, e = .returned (.int .i64 i) ∧ IdxIs i (failsI vars row n l) ∧ Below w.heap.size w w' := by
  have hl' : (l.length : Int) ≤ 1353245080300 := by omega
  go_enter Tryd.func59, Tryd.ntmps59
  go_wp2
  go_loopw [8] (fun i wr => ∃ k : Nat, k ≤ l.length ∧ i = .int .i64 k ∧ Hid (failsI vars row n l = failsI vars row n (l.drop k)) ∧ Below w.heap.size w wr) (fun i _ => l.length - (intOf i).toNat)
  case atStart => exact ⟨0, by omega, rfl, rfl, Below.refl _ _⟩
  case round =>
    obtain ⟨k, hk, rfl, H, hB⟩ := hrel
    by_cases hlt : k < l.length
    · obtain ⟨y, hx⟩ : ∃ x, l[k]? = some x := ⟨_, List.getElem?_eq_getElem hlt⟩
      obtain ⟨g, o, k', s', t', A', m', d', rfl, hR, c0, c1, c2, c3, c4, c5, c6⟩ := (RdEs.later hr hB).atv hx
      have hd := drop_cons_of hx
      have hc := filKeeps1 vars row n y _ b p wr (cell_on hp hB) hR (hS y (List.mem_of_getElem? hx) wr hB)
      have H2 : Hid (failsI vars row n l = (!(ofI vars row n y == 1) || failsI vars row n (l.drop (k+1)))) := by
        show _ = _
        rw [H.out, hd, failsI, List.any_cons]; rfl
      have HBB := Lib.hid hB
      clear hx hd H hr hR hS hp hB
      generalize hn : (!(ofI vars row n y == 1)) = q at *
      clear hn
      cases q
      · go_wp2_with (go_at_call 33; refine hc.mono ?_; rintro e w1 ⟨rfl, hb1⟩)
        go_roundw
        case rel => exact ⟨k+1, by omega, by go_num, by show _ = _; rw [H2.out]; rfl, below_tr HBB.out hb1⟩
        case measure => simp [intOf]; omega
      · go_wp2_with (go_at_call 33; refine hc.mono ?_; rintro e w1 ⟨rfl, hb1⟩)
        go_ret
        exact ⟨k, rfl, by show decide _ = _; rw [H2.out]; simp, below_tr HBB.out hb1⟩
    · have H2 : Hid (failsI vars row n l = false) := by
        show _ = _
        rw [H.out, List.drop_eq_nil_of_le (by omega)]; rfl
      clear H hS hr hp
      go_wp2
      go_ret
      exact ⟨-1, rfl, by show decide _ = _; rw [H2.out]; rfl, hB⟩
set_option maxRecDepth 10000 in
set_option maxHeartbeats 1000000 in
theorem filKeeps (vars : List ByteArray) (row : List Tm) (hv : vars.length ≤ 281474976710656) (hrl : row.length ≤ 281474976710656) (hzr : ∀ u ∈ row, u.x.size ≤ 281474976710656) (n : Nat) (l : List (ExT n)) (A A1 A2 : Option Addr) (c c1 c2 : Nat) (w : World)
    (hr1 : Rd w A1 (vars.map Value.string)) (hr2 : RdTs w A2 row) (hr : RdEs n w A l) (hl : l.length ≤ 1353245080300) (hz : ∀ x ∈ l, szE n x) :
    Calls Tryd.prog 15 #[.slice A l.length c, .slice A1 vars.length c1, .slice A2 row.length c2] w fun e w' => e = .returned (.bool (!failsI vars row n l)) ∧ Below w.heap.size w w' := by
  have hC : ∀ (b : Nat) (p : Addr) (W : World), RdEs n W A l → W.cell? p = some (.pointer (some ⟨b, 0, none⟩)) → JudgeAt W b vars row →
      Calls Tryd.prog 32 #[.slice A l.length c, .func (.func 33) #[] #[.pointer (some p)]] W fun e w' => e = .returned (.bool (failsI vars row n l)) ∧ Below W.heap.size W w' := by
    intro b p W h1 h2 h3
    have hi := filIdxKeeps vars row n l A c b p W hl h1 h2 fun x hx W1 hW1 cs W2 hW2 hr => filTruthAll vars row b hv hrl hzr n x cs W2 ((h3.later hW1).later hW2) hr (hz x hx)
    clear h1 h2 h3 hr hr1 hr2 hz hzr hl hv hrl
    go_enter Tryd.func32, Tryd.ntmps32
    go_wp2_with (go_at_call 59; refine hi.mono ?_; rintro e w1 ⟨i, rfl, hd, hb1⟩; have Hd := Lib.hid hd; clear hd)
    go_ret
    exact ⟨by have := Hd.out; unfold IdxIs at this; rw [← this]; rfl, hb1⟩
  have hO := filOver vars row A1 A2 c1 c2 w hr1 hr2
  generalize failsI vars row n l = q at hC ⊢
  go_enter Tryd.func15, Tryd.ntmps15
  go_wp2_with fail
  refine hO.mono ?_
  rintro e w1 ⟨b, rfl, hj, hb1⟩
  have hb2 : Below w1.heap.size w1 (w1.alloc (.cells #[.pointer (some ⟨b, 0, none⟩)] 70)) := (by repeat (first | exact Below.refl _ _ | assumption | exact (Below.refl _ _).alloc (Nat.le_refl _) _ | refine below_tr ?_ (by assumption) | refine below_alloc ?_ | refine below_tr ?_ (below_regrown _ _ _)))
  have hC2 := hC b ⟨w1.heap.size, 0, none⟩ _ (RdEs.later (RdEs.later hr hb1) hb2) (by rw [World.cell?, heap_alloc_new]; rfl) (hj.later hb2)
  clear hC hO hr hr1 hr2 hj hz hzr
  go_wp2_with fail
  refine hC2.mono ?_
  rintro e w2 ⟨rfl, hb3⟩
  cases q <;> (go_wp2; go_ret; exact ⟨rfl, below_tr (below_tr hb1 hb2) hb3⟩)
end Go.Proofs.YtmdjffnelkgmpaaDoor
