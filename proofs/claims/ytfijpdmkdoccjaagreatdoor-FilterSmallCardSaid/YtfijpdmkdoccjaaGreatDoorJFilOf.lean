/- The program's package filter, walked: over, set, Of, Keeps. The program's package filter, walked: Of, Keeps. -/
import Derived.Test.YtfijpdmkdoccjaaGreatDoorJFilTruth
namespace Go.Proofs.YtfijpdmkdoccjaaGreatDoor
open Go Go.RowKit Go.Maps Go.ChangeMaps Fm

theorem cell_grown_map {w w' : World} {r : Nat} {q : IntKind} {kvs : List (Int × Value)} (hm : MapOf w q r kvs) (hg : w.grownBy w' (some r)) {p : Addr} {u : Value} (h : w.cell? p = some u) : w'.cell? p = some u := by
  obtain ⟨es, cl, hr, _⟩ := hm
  have hne : p.block ≠ r := by
    intro e
    rw [World.cell?, e, hr] at h
    cases h
  have hb := hg.block p.block (cell_lt h) (fun e => hne (by injection e))
  rw [World.cell?, hb]
  exact h
theorem rd_grown_map {w w' : World} {r : Nat} {q : IntKind} {kvs : List (Int × Value)} (hm : MapOf w q r kvs) (hg : w.grownBy w' (some r)) {A : Option Addr} {xs : List Value} (h : Rd w A xs) : Rd w' A xs := by
  rcases h with h | ⟨g, o, hA, hc⟩
  · exact .inl h
  · exact .inr ⟨g, o, hA, fun j u hu => cell_grown_map hm hg (hc j u hu)⟩
theorem grown_trans {a b c : World} {r : Nat} (h : a.grownBy b (some r)) (k : b.grownBy c (some r)) : a.grownBy c (some r) :=
  ⟨k.os.trans h.os, k.tape.trans h.tape, k.output.trans h.output, Nat.le_trans h.size k.size, fun i hi hne => (k.block i (Nat.lt_of_lt_of_le hi h.size) hne).trans (h.block i hi hne)⟩

set_option maxRecDepth 10000 in
set_option maxHeartbeats 1000000 in
theorem filSet (b r : Nat) (v : Value) (kvs : List (Int × Value)) (ks : List Int) (A : Option Addr) (c : Nat) (w : World) (hl : ks.length ≤ 1000) (hr : Rd w A (ks.map (Value.int .i64))) (hm : MapOf w .i64 r kvs)
    (hj : w.cell? ⟨b, 2, none⟩ = some (.map (some r))) (hn : ∀ (j : Nat) x, ks[j]? = some x → (kvs ++ (ks.take j).map fun k => (k, v)).find? (fun p => p.1 == x) = none) :
    Calls Tryz.prog 84 #[.pointer (some ⟨b, 0, none⟩), v, .slice A ks.length c] w fun e w' => (∃ u, e = .returned u) ∧ MapOf w' .i64 r (kvs ++ ks.map fun k => (k, v)) ∧ w.grownBy w' (some r) := by
  go_enter Tryz.func84, Tryz.ntmps84
  go_wp2
  go_loopw [10] (fun i wr => ∃ j : Nat, j ≤ ks.length ∧ i = .int .i64 j ∧ MapOf wr .i64 r (kvs ++ (ks.take j).map fun k => (k, v)) ∧ w.grownBy wr (some r)) (fun i _ => ks.length - (intOf i).toNat)
  case atStart => exact ⟨0, by omega, rfl, by simpa using hm, rfl, rfl, rfl, Nat.le_refl _, fun _ _ _ => rfl⟩
  case round =>
    obtain ⟨j, hj1, rfl, hM, hg⟩ := hrel
    by_cases hlt : j < ks.length
    · obtain ⟨x, hx⟩ : ∃ x, ks[j]? = some x := ⟨_, List.getElem?_eq_getElem hlt⟩
      obtain ⟨g, o, rfl, hcx⟩ := (rd_grown_map hm hg hr).at_ (j := j) (u := .int .i64 x) (by simp [hx])
      have hj2 := cell_grown_map hm hg hj
      have hnn := hn j x hx
      have Hts := Lib.hid (take_snoc_of hx)
      have Hg := Lib.hid hg
      have Hn := Lib.hid hn
      have Hm := Lib.hid hm
      clear hx hn hg hm hr hj
      go_wp2_with (at_mapUpdate; refine wpList_mapUpdate_fn _ rfl _ _ _ _ rfl Tryz.underlying101 Tryz.underlying25 rfl hM x v rfl rfl hnn ?_; intro w2 hM2 hg2)
      go_roundw
      case rel => exact ⟨j + 1, by omega, by go_num, by rw [Hts.out]; simpa using hM2, grown_trans Hg.out hg2⟩
      case measure => simp [intOf]; omega
    · have hk2 : ks.take j = ks := List.take_of_length_le (by omega)
      rw [hk2] at hM
      clear hk2 hn hm hr
      go_wp2
      go_end0
      exact ⟨⟨_, rfl⟩, hM, hg⟩

theorem find_fresh {kvs : List (Int × Value)} {ks : List Int} {v : Value} (h : (kvs.map (·.1) ++ ks).Nodup) (j : Nat) (x : Int) (hx : ks[j]? = some x) : (kvs ++ (ks.take j).map fun k => (k, v)).find? (fun p => p.1 == x) = none := by
  rw [List.nodup_append] at h
  obtain ⟨_, h2, h3⟩ := h
  rw [List.find?_eq_none]
  intro p hp
  simp only [beq_iff_eq]
  intro e
  rcases List.mem_append.1 hp with hp | hp
  · exact h3 _ (List.mem_map_of_mem hp) _ (List.mem_of_getElem? hx) e
  · obtain ⟨k, hk, rfl⟩ := List.mem_map.1 hp
    simp only at e
    subst e
    rw [← List.take_append_drop j ks, List.nodup_append] at h2
    exact h2.2.2 k hk k (by rw [drop_cons_of hx]; simp) rfl

/-- A judge in the making. -/
structure Makes (w0 w : World) (b r : Nat) (x0 x1 : Value) (kvs : List (Int × Value)) : Prop where
  below : Below w0.heap.size w0 w
  lo : w0.heap.size ≤ r
  c0 : w.cell? ⟨b, 0, none⟩ = some x0
  c1 : w.cell? ⟨b, 1, none⟩ = some x1
  c2 : w.cell? ⟨b, 2, none⟩ = some (.map (some r))
  m : MapOf w .i64 r kvs
theorem Makes.set {w0 w : World} {b r : Nat} {x0 x1 : Value} {kvs : List (Int × Value)} (h : Makes w0 w b r x0 x1 kvs) (v : Value) (ks : List Int) (n : Nat) (hn : ks.length = n) (hl : n ≤ 1000) (ty : TypeId) (B : Nat) (hB : w.heap.size = B) (cs : Array Value) (hcs : cs.toList = ks.map (Value.int .i64)) (hd : (kvs.map (·.1) ++ ks).Nodup) :
    Calls Tryz.prog 84 #[.pointer (some ⟨b, 0, none⟩), v, .slice (some ⟨B, 0, none⟩) n n] (w.alloc (.cells cs ty))
      fun e w' => (∃ u, e = .returned u) ∧ Makes w0 w' b r x0 x1 (kvs ++ ks.map fun k => (k, v)) := by
  subst hn hB
  have hb : Below w.heap.size w (w.alloc (.cells cs ty)) := (by repeat (first | exact Below.refl _ _ | assumption | exact (Below.refl _ _).alloc (Nat.le_refl _) _ | refine below_tr ?_ (by assumption) | refine below_alloc ?_ | refine below_tr ?_ (below_regrown _ _ _)))
  have on : ∀ {p : Addr} {u : Value}, w.cell? p = some u → (w.alloc (.cells cs ty)).cell? p = some u := fun h => cell_on h hb
  refine (filSet b r v kvs ks (some ⟨w.heap.size, 0, none⟩) ks.length _ hl (Rd.of_block (heap_alloc_new _ _) hcs) (h.m.later hb) (on h.c2) (fun j x hx => find_fresh hd j x hx)).mono ?_
  rintro e w' ⟨hu, hm, hg⟩
  exact ⟨hu, (below_tr h.below hb).grown hg (below_tr h.below hb).size fun k e => by injection e with e; subst e; exact h.lo, h.lo, cell_grown_map (h.m.later hb) hg (on h.c0), cell_grown_map (h.m.later hb) hg (on h.c1), cell_grown_map (h.m.later hb) hg (on h.c2), hm⟩

set_option maxRecDepth 10000 in
set_option maxHeartbeats 1000000 in
theorem filOver (vars : List ByteArray) (row : List Tm) (A1 A2 : Option Addr) (c1 c2 : Nat) (w : World) (hr1 : Rd w A1 (vars.map Value.string)) (hr2 : RdTs w A2 row) :
    Calls Tryz.prog 58 #[.slice A1 vars.length c1, .slice A2 row.length c2] w fun e w' => ∃ b, e = .returned (.pointer (some ⟨b, 0, none⟩)) ∧ JudgeAt w' b vars row ∧ Below w.heap.size w w' := by
  have hmm := @run_makeMap Tryz.prog
  go_enter Tryz.func58, Tryz.ntmps58
  have hM0 : Makes w ((w.alloc (Obj.map #[] 0)).alloc (Obj.cells #[.slice A1 vars.length c1, .slice A2 row.length c2, .map (some w.heap.size)] 103)) (w.heap.size + 1) w.heap.size (.slice A1 vars.length c1) (.slice A2 row.length c2) [] := by
    refine ⟨(by repeat (first | exact Below.refl _ _ | assumption | exact (Below.refl _ _).alloc (Nat.le_refl _) _ | refine below_tr ?_ (by assumption) | refine below_alloc ?_ | refine below_tr ?_ (below_regrown _ _ _))), Nat.le_refl _, ?_, ?_, ?_, ⟨#[], 0, ?_, rfl⟩⟩
    · rw [World.cell?, heap_two_2]; rfl
    · rw [World.cell?, heap_two_2]; rfl
    · rw [World.cell?, heap_two_2]; rfl
    · rw [heap_two_1]
  go_wp2_with fail
  have hs0 := fun v => hM0.set v [1, 2] 2 rfl (by decide) 25 _ rfl #[.int .i64 1, .int .i64 2] rfl (show (([] : List Int) ++ [1, 2]).Nodup by decide)
  try simp only [World.size_alloc] at hs0
  refine ((hs0 _).mono ?_)
  rintro e w1 ⟨⟨u0, rfl⟩, hM1⟩
  go_wp2_with fail
  have hs1 := fun v => hM1.set v [3] 1 rfl (by decide) 25 _ rfl #[.int .i64 3] rfl (show (([1, 2] : List Int) ++ [3]).Nodup by decide)
  try simp only [World.size_alloc] at hs1
  refine ((hs1 _).mono ?_)
  rintro e w2 ⟨⟨u1, rfl⟩, hM2⟩
  go_wp2_with fail
  have hs2 := fun v => hM2.set v [4, 5] 2 rfl (by decide) 25 _ rfl #[.int .i64 4, .int .i64 5] rfl (show (([1, 2, 3] : List Int) ++ [4, 5]).Nodup by decide)
  try simp only [World.size_alloc] at hs2
  refine ((hs2 _).mono ?_)
  rintro e w3 ⟨⟨u2, rfl⟩, hM3⟩
  go_wp2_with fail
  have hs3 := fun v => hM3.set v [6, 7, 8, 9, 10, 11] 6 rfl (by decide) 25 _ rfl #[.int .i64 6, .int .i64 7, .int .i64 8, .int .i64 9, .int .i64 10, .int .i64 11] rfl (show (([1, 2, 3, 4, 5] : List Int) ++ [6, 7, 8, 9, 10, 11]).Nodup by decide)
  try simp only [World.size_alloc] at hs3
  refine ((hs3 _).mono ?_)
  rintro e w4 ⟨⟨u3, rfl⟩, hM4⟩
  go_wp2_with fail
  have hs4 := fun v => hM4.set v [12, 13, 14] 3 rfl (by decide) 25 _ rfl #[.int .i64 12, .int .i64 13, .int .i64 14] rfl (show (([1, 2, 3, 4, 5, 6, 7, 8, 9, 10, 11] : List Int) ++ [12, 13, 14]).Nodup by decide)
  try simp only [World.size_alloc] at hs4
  refine ((hs4 _).mono ?_)
  rintro e w5 ⟨⟨u4, rfl⟩, hM5⟩
  go_wp2
  go_ret
  exact ⟨_, rfl, ⟨A1, A2, c1, c2, _, hM5.c0, hM5.c1, hM5.c2, hM5.m, hr1.later hM5.below, RdTs.later hr2 hM5.below⟩, hM5.below⟩
end Go.Proofs.YtfijpdmkdoccjaaGreatDoor
namespace Go.Proofs.YtfijpdmkdoccjaaGreatDoor
open Go Go.RowKit Go.Maps Go.ChangeMaps Fm

set_option maxRecDepth 10000 in
set_option maxHeartbeats 1000000 in
theorem filOf (vars : List ByteArray) (row : List Tm) (hv : vars.length ≤ 281474976710656) (hrl : row.length ≤ 281474976710656) (hzr : ∀ u ∈ row, u.x.size ≤ 281474976710656) (n : Nat) (x : ExT n) (cs : List Value) (A1 A2 : Option Addr) (c1 c2 : Nat) (w : World)
    (hr1 : Rd w A1 (vars.map Value.string)) (hr2 : RdTs w A2 row) (hx : RdE n w cs x) (hzx : szE n x) :
    Calls Tryz.prog 31 #[.agg cs.toArray, .slice A1 vars.length c1, .slice A2 row.length c2] w fun e w' => e = .returned (.int .i64 (ofI vars row n x)) ∧ Below w.heap.size w w' := by
  have hT := fun b cs W hj hr => filTruthAll vars row b hv hrl hzr n x cs W hj hr hzx
  obtain ⟨v, hvv⟩ : ∃ v, ofI vars row n x = v := ⟨_, rfl⟩
  rw [hvv] at hT ⊢
  have hcs : ∃ (k : Int) (s : ByteArray) (t : Tm) (A : Option Addr) (m c : Nat), cs = [.int .i64 k, .string s, .int .i64 t.k, .string t.x, .string t.l, .string t.y, .slice A m c] := by
    match n, x, hx with
    | n + 1, (k, s, t, kids), ⟨A, c, h, _⟩ => exact ⟨k, s, t, A, _, c, h⟩
  obtain ⟨k, s, t, A, m, c, rfl⟩ := hcs
  clear hvv hzx hzr hrl hv
  go_enter Tryz.func31, Tryz.ntmps31
  go_wp2
  obtain ⟨W, hW⟩ : ∃ W : World, w.alloc (.cells #[.int .i64 k, .string s, .int .i64 t.k, .string t.x, .string t.l, .string t.y, .slice A m c] 31) = W := ⟨_, rfl⟩
  have hB0 : Below w.heap.size w W := by rw [← hW]; exact (by repeat (first | exact Below.refl _ _ | assumption | exact (Below.refl _ _).alloc (Nat.le_refl _) _ | refine below_tr ?_ (by assumption) | refine below_alloc ?_ | refine below_tr ?_ (below_regrown _ _ _)))
  have hbx : ∀ (i : Nat) v, #[Value.int .i64 k, .string s, .int .i64 t.k, .string t.x, .string t.l, .string t.y, .slice A m c][i]? = some v → W.cell? ⟨w.heap.size, i, none⟩ = some v := by
    intro i v hv; rw [← hW, World.cell?, heap_alloc_new]; exact hv
  simp only [hW]
  have HW := Lib.hid hW
  clear hW
  refine Rf.wp_region_pl W.heap.size ?R (Rf.Pl.quiet [0, 1, 3] (Rf.Pl.one 2 (Rf.Pl.one 4 (Rf.Pl.quiet [5] (Rf.Pl.done))))) _ (by kernel_rfl) (by kernel_rfl) (by simp only [Rf.Pl.pick, Rf.pickO, List.map_cons, List.map_nil, Rg.pickOps, List.getElem?_toArray, List.getElem?_cons_zero, List.getElem?_cons_succ, Option.getD_some]; rfl) ?_ ?_
  case R => exact fun a W' => ∃ (u7 u8 u9 u10 u11 : Value), a = { tmps := #[.agg #[.int .i64 k, .string s, .int .i64 t.k, .string t.x, .string t.l, .string t.y, .slice A m c], .slice A1 vars.length c1, .slice A2 row.length c2, .pointer (some ⟨w.heap.size, 0, none⟩), undef, undef, .int .i64 v, u7, u8, u9, u10, u11], defers := [] } ∧ Below W.heap.size W W'
  · intro wd hbd hwz
    have b0 := cellL (hbx 0 _ rfl) hbd
    have b1 := cellL (hbx 1 _ rfl) hbd
    have b2 := cellL (hbx 2 _ rfl) hbd
    have b3 := cellL (hbx 3 _ rfl) hbd
    have b4 := cellL (hbx 4 _ rfl) hbd
    have b5 := cellL (hbx 5 _ rfl) hbd
    have b6 := cellL (hbx 6 _ rfl) hbd
    have hb := below_tr hB0 hbd
    have h1 := hr1.later hb
    have h2 := RdTs.later hr2 hb
    have h3 := hx.later hb
    have Hz := Lib.hid hwz
    clear hbx hr1 hr2 hx hwz hb
    refine Rf.pl_quiet ?_
    iterate 3 go_big_quiet_step (fail)
    refine wpQuiet_nil (Rf.pl_one ?_)
    go_wp2_with (refine (filOver vars row A1 A2 c1 c2 _ h1 h2).mono ?_; rintro e w1 ⟨b, rfl, hj, hb1⟩)
    refine ⟨hb1.mono hbd.size, Rf.pl_one ?_⟩
    go_wp2_with (refine (hT b _ _ hj (h3.later hb1)).mono ?_; rintro e w2 ⟨rfl, hb2⟩)
    refine ⟨hb2.mono (Nat.le_trans hbd.size hb1.size), Rf.pl_quiet ?_⟩
    iterate 1 go_big_quiet_step (fail)
    exact wpQuiet_nil (Rf.pl_done ⟨_, _, _, _, _, rfl, below_tr (below_tr hbd hb1) hb2⟩)
  · rintro a W1 ⟨u7, u8, u9, u10, u11, rfl, hb1⟩
    clear hbx hr1 hr2 hx hT
    go_wp2
    go_ret
    exact ⟨rfl, below_tr hB0 hb1⟩

/-- Some condition is not so. -/
def failsI (vars : List ByteArray) (row : List Tm) (n : Nat) (l : List (ExT n)) : Bool := l.any fun x => !(ofI vars row n x == 1)
set_option maxRecDepth 10000 in
set_option maxHeartbeats 1000000 in
theorem filKeeps1 (vars : List ByteArray) (row : List Tm) (n : Nat) (x : ExT n) (cs : List Value) (b : Nat) (p : Addr) (w : World) (hp : w.cell? p = some (.pointer (some ⟨b, 0, none⟩))) (hx : RdE n w cs x) (hS : Says vars row b w n x) :
    Calls Tryz.prog 63 #[.agg cs.toArray, .pointer (some p)] w fun e w' => e = .returned (.bool (!(ofI vars row n x == 1))) ∧ Below w.heap.size w w' := by
  have hcs : ∃ (k : Int) (s : ByteArray) (t : Tm) (A : Option Addr) (m c : Nat), cs = [.int .i64 k, .string s, .int .i64 t.k, .string t.x, .string t.l, .string t.y, .slice A m c] := by
    match n, x, hx with
    | n + 1, (k, s, t, kids), ⟨A, c, h, _⟩ => exact ⟨k, s, t, A, _, c, h⟩
  obtain ⟨k, s, t, A, m, c, rfl⟩ := hcs
  have hB0 : Below w.heap.size w (w.alloc (.cells #[.int .i64 k, .string s, .int .i64 t.k, .string t.x, .string t.l, .string t.y, .slice A m c] 31)) := (by repeat (first | exact Below.refl _ _ | assumption | exact (Below.refl _ _).alloc (Nat.le_refl _) _ | refine below_tr ?_ (by assumption) | refine below_alloc ?_ | refine below_tr ?_ (below_regrown _ _ _)))
  have hS' := hS _ _ hB0 (hx.later hB0)
  have hp' := cell_on hp hB0
  generalize ofI vars row n x = v at *
  have HB0 := Lib.hid hB0
  clear hS hx hB0
  go_enter Tryz.func63, Tryz.ntmps63
  go_wp2_with fail
  refine hS'.mono ?_
  rintro e w2 ⟨rfl, hb2⟩
  have HB := Lib.hid (below_tr HB0.out hb2)
  clear hb2 hS'
  go_wp2
  go_ret
  exact ⟨rfl, HB.out⟩
set_option maxRecDepth 10000 in
set_option maxHeartbeats 1000000 in
theorem filIdxKeeps (vars : List ByteArray) (row : List Tm) (n : Nat) (l : List (ExT n)) (A : Option Addr) (c : Nat) (b : Nat) (p : Addr) (w : World) (hl : l.length ≤ 1353245080300) (hr : RdEs n w A l) (hp : w.cell? p = some (.pointer (some ⟨b, 0, none⟩)))
    (hS : ∀ x ∈ l, ∀ W, Below w.heap.size w W → Says vars row b W n x) :
    Calls Tryz.prog 90 #[.slice A l.length c, .func (.func 63) #[] #[.pointer (some p)]] w fun e w' => ∃ i : Int, e = .returned (.int .i64 i) ∧ IdxIs i (failsI vars row n l) ∧ Below w.heap.size w w' := by
  have hl' : (l.length : Int) ≤ 1353245080300 := by omega
  go_enter Tryz.func90, Tryz.ntmps90
  go_wp2
  go_loopw [8] (fun i wr => ∃ k : Nat, k ≤ l.length ∧ i = .int .i64 k ∧ Hid (failsI vars row n l = failsI vars row n (l.drop k)) ∧ Below w.heap.size w wr) (fun i _ => l.length - (intOf i).toNat)
  case atStart => exact ⟨0, by omega, rfl, rfl, Below.refl _ _⟩
  case round =>
    obtain ⟨k, hk, rfl, H, hB⟩ := hrel
    by_cases hlt : k < l.length
    · obtain ⟨y, hx⟩ : ∃ x, l[k]? = some x := ⟨_, List.getElem?_eq_getElem hlt⟩
      obtain ⟨g, o, k', s', t', A', m', d', rfl, hR, c0, c1, c2, c3, c4, c5, c6⟩ := (RdEs.later hr hB).atv hx
      have hd := drop_cons_of hx
      have hc := filKeeps1 vars row n y _ b p wr (cell_on hp hB) hR (hS y (List.mem_of_getElem? hx) wr hB)
      have H2 : Hid (failsI vars row n l = (!(ofI vars row n y == 1) || failsI vars row n (l.drop (k+1)))) := by
        show _ = _
        rw [H.out, hd, failsI, List.any_cons]; rfl
      have HBB := Lib.hid hB
      clear hx hd H hr hR hS hp hB
      generalize hn : (!(ofI vars row n y == 1)) = q at *
      clear hn
      cases q
      · go_wp2_with (go_at_call 63; refine hc.mono ?_; rintro e w1 ⟨rfl, hb1⟩)
        go_roundw
        case rel => exact ⟨k+1, by omega, by go_num, by show _ = _; rw [H2.out]; rfl, below_tr HBB.out hb1⟩
        case measure => simp [intOf]; omega
      · go_wp2_with (go_at_call 63; refine hc.mono ?_; rintro e w1 ⟨rfl, hb1⟩)
        go_ret
        exact ⟨k, rfl, by show decide _ = _; rw [H2.out]; simp, below_tr HBB.out hb1⟩
    · have H2 : Hid (failsI vars row n l = false) := by
        show _ = _
        rw [H.out, List.drop_eq_nil_of_le (by omega)]; rfl
      clear H hS hr hp
      go_wp2
      go_ret
      exact ⟨-1, rfl, by show decide _ = _; rw [H2.out]; rfl, hB⟩
set_option maxRecDepth 10000 in
set_option maxHeartbeats 1000000 in
theorem filKeeps (vars : List ByteArray) (row : List Tm) (hv : vars.length ≤ 281474976710656) (hrl : row.length ≤ 281474976710656) (hzr : ∀ u ∈ row, u.x.size ≤ 281474976710656) (n : Nat) (l : List (ExT n)) (A A1 A2 : Option Addr) (c c1 c2 : Nat) (w : World)
    (hr1 : Rd w A1 (vars.map Value.string)) (hr2 : RdTs w A2 row) (hr : RdEs n w A l) (hl : l.length ≤ 1353245080300) (hz : ∀ x ∈ l, szE n x) :
    Calls Tryz.prog 33 #[.slice A l.length c, .slice A1 vars.length c1, .slice A2 row.length c2] w fun e w' => e = .returned (.bool (!failsI vars row n l)) ∧ Below w.heap.size w w' := by
  have hC : ∀ (b : Nat) (p : Addr) (W : World), RdEs n W A l → W.cell? p = some (.pointer (some ⟨b, 0, none⟩)) → JudgeAt W b vars row →
      Calls Tryz.prog 62 #[.slice A l.length c, .func (.func 63) #[] #[.pointer (some p)]] W fun e w' => e = .returned (.bool (failsI vars row n l)) ∧ Below W.heap.size W w' := by
    intro b p W h1 h2 h3
    have hi := filIdxKeeps vars row n l A c b p W hl h1 h2 fun x hx W1 hW1 cs W2 hW2 hr => filTruthAll vars row b hv hrl hzr n x cs W2 ((h3.later hW1).later hW2) hr (hz x hx)
    clear h1 h2 h3 hr hr1 hr2 hz hzr hl hv hrl
    go_enter Tryz.func62, Tryz.ntmps62
    go_wp2_with (go_at_call 90; refine hi.mono ?_; rintro e w1 ⟨i, rfl, hd, hb1⟩; have Hd := Lib.hid hd; clear hd)
    go_ret
    exact ⟨by have := Hd.out; unfold IdxIs at this; rw [← this]; rfl, hb1⟩
  have hO := filOver vars row A1 A2 c1 c2 w hr1 hr2
  generalize failsI vars row n l = q at hC ⊢
  go_enter Tryz.func33, Tryz.ntmps33
  go_wp2_with fail
  refine hO.mono ?_
  rintro e w1 ⟨b, rfl, hj, hb1⟩
  have hb2 : Below w1.heap.size w1 (w1.alloc (.cells #[.pointer (some ⟨b, 0, none⟩)] 75)) := (by repeat (first | exact Below.refl _ _ | assumption | exact (Below.refl _ _).alloc (Nat.le_refl _) _ | refine below_tr ?_ (by assumption) | refine below_alloc ?_ | refine below_tr ?_ (below_regrown _ _ _)))
  have hC2 := hC b ⟨w1.heap.size, 0, none⟩ _ (RdEs.later (RdEs.later hr hb1) hb2) (by rw [World.cell?, heap_alloc_new]; rfl) (hj.later hb2)
  clear hC hO hr hr1 hr2 hj hz hzr
  go_wp2_with fail
  refine hC2.mono ?_
  rintro e w2 ⟨rfl, hb3⟩
  cases q <;> (go_wp2; go_ret; exact ⟨rfl, below_tr (below_tr hb1 hb2) hb3⟩)
end Go.Proofs.YtfijpdmkdoccjaaGreatDoor
