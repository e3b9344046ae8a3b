/- The program's package filter, walked: over, set, Of, Keeps. -/
import Derived.Test.YtmdjffnelkgmpaaDoorFilTruth
namespace Go.Proofs.YtmdjffnelkgmpaaDoor
open Go Go.RowKit Go.Maps Go.ChangeMaps Fm

theorem cell_grown_map {w w' : World} {r : Nat} {q : IntKind} {kvs : List (Int × Value)} (hm : MapOf w q r kvs) (hg : w.grownBy w' (some r)) {p : Addr} {u : Value} (h : w.cell? p = some u) : w'.cell? p = some u := by
  obtain ⟨es, cl, hr, _⟩ := hm
  have hne : p.block ≠ r := by
    intro e
    rw [World.cell?, e, hr] at h
    cases h
  have hb := hg.block p.block (cell_lt h) (fun e => hne (by injection e))
  rw [World.cell?, hb]
  exact h
theorem rd_grown_map {w w' : World} {r : Nat} {q : IntKind} {kvs : List (Int × Value)} (hm : MapOf w q r kvs) (hg : w.grownBy w' (some r)) {A : Option Addr} {xs : List Value} (h : Rd w A xs) : Rd w' A xs := by
  rcases h with h | ⟨g, o, hA, hc⟩
  · exact .inl h
  · exact .inr ⟨g, o, hA, fun j u hu => cell_grown_map hm hg (hc j u hu)⟩
theorem grown_trans {a b c : World} {r : Nat} (h : a.grownBy b (some r)) (k : b.grownBy c (some r)) : a.grownBy c (some r) :=
  ⟨k.os.trans h.os, k.tape.trans h.tape, k.output.trans h.output, Nat.le_trans h.size k.size, fun i hi hne => (k.block i (Nat.lt_of_lt_of_le hi h.size) hne).trans (h.block i hi hne)⟩

set_option maxRecDepth 10000 in
set_option maxHeartbeats 1000000 in
theorem filSet (b r : Nat) (v : Value) (kvs : List (Int × Value)) (ks : List Int) (A : Option Addr) (c : Nat) (w : World) (hl : ks.length ≤ 1000) (hr : Rd w A (ks.map (Value.int .i64))) (hm : MapOf w .i64 r kvs)
    (hj : w.cell? ⟨b, 2, none⟩ = some (.map (some r))) (hn : ∀ (j : Nat) x, ks[j]? = some x → (kvs ++ (ks.take j).map fun k => (k, v)).find? (fun p => p.1 == x) = none) :
    Calls Tryd.prog 53 #[.pointer (some ⟨b, 0, none⟩), v, .slice A ks.length c] w fun e w' => (∃ u, e = .returned u) ∧ MapOf w' .i64 r (kvs ++ ks.map fun k => (k, v)) ∧ w.grownBy w' (some r) := by
  go_enter Tryd.func53, Tryd.ntmps53
  go_wp2
  go_loopw [10] (fun i wr => ∃ j : Nat, j ≤ ks.length ∧ i = .int .i64 j ∧ MapOf wr .i64 r (kvs ++ (ks.take j).map fun k => (k, v)) ∧ w.grownBy wr (some r)) (fun i _ => ks.length - (intOf i).toNat)
  case atStart => exact ⟨0, by omega, rfl, by simpa using hm, rfl, rfl, rfl, Nat.le_refl _, fun _ _ _ => rfl⟩
  case round =>
    obtain ⟨j, hj1, rfl, hM, hg⟩ := hrel
    by_cases hlt : j < ks.length
    · obtain ⟨x, hx⟩ : ∃ x, ks[j]? = some x := ⟨_, List.getElem?_eq_getElem hlt⟩
      obtain ⟨g, o, rfl, hcx⟩ := (rd_grown_map hm hg hr).at_ (j := j) (u := .int .i64 x) (by simp [hx])
      have hj2 := cell_grown_map hm hg hj
      have hnn := hn j x hx
      have Hts := Lib.hid (take_snoc_of hx)
      have Hg := Lib.hid hg
      have Hn := Lib.hid hn
      have Hm := Lib.hid hm
      clear hx hn hg hm hr hj
      go_wp2_with (at_mapUpdate; refine wpList_mapUpdate_fn _ rfl _ _ _ _ rfl Tryd.underlying96 Tryd.underlying47 rfl hM x v rfl rfl hnn ?_; intro w2 hM2 hg2)
      go_roundw
      case rel => exact ⟨j + 1, by omega, by go_num, by rw [Hts.out]; simpa using hM2, grown_trans Hg.out hg2⟩
      case measure => simp [intOf]; omega
    · have hk2 : ks.take j = ks := List.take_of_length_le (by omega)
      rw [hk2] at hM
      clear hk2 hn hm hr
      go_wp2
      go_end0
      exact ⟨⟨_, rfl⟩, hM, hg⟩

theorem find_fresh {kvs : List (Int × Value)} {ks : List Int} {v : Value} (h : (kvs.map (·.1) ++ ks).Nodup) (j : Nat) (x : Int) (hx : ks[j]? = some x) : (kvs ++ (ks.take j).map fun k => (k, v)).find? (fun p => p.1 == x) = none := by
  rw [List.nodup_append] at h
  obtain ⟨_, h2, h3⟩ := h
  rw [List.find?_eq_none]
  intro p hp
  simp only [beq_iff_eq]
  intro e
  rcases List.mem_append.1 hp with hp | hp
  · exact h3 _ (List.mem_map_of_mem hp) _ (List.mem_of_getElem? hx) e
  · obtain ⟨k, hk, rfl⟩ := List.mem_map.1 hp
    simp only at e
    subst e
    rw [← List.take_append_drop j ks, List.nodup_append] at h2
    exact h2.2.2 k hk k (by rw [drop_cons_of hx]; simp) rfl

/-- A judge in the making. -/
structure Makes (w0 w : World) (b r : Nat) (x0 x1 : Value) (kvs : List (Int × Value)) : Prop where
  below : Below w0.heap.size w0 w
  lo : w0.heap.size ≤ r
  c0 : w.cell? ⟨b, 0, none⟩ = some x0
  c1 : w.cell? ⟨b, 1, none⟩ = some x1
  c2 : w.cell? ⟨b, 2, none⟩ = some (.map (some r))
  m : MapOf w .i64 r kvs
theorem Makes.set {w0 w : World} {b r : Nat} {x0 x1 : Value} {kvs : List (Int × Value)} (h : Makes w0 w b r x0 x1 kvs) (v : Value) (ks : List Int) (n : Nat) (hn : ks.length = n) (hl : n ≤ 1000) (ty : TypeId) (B : Nat) (hB : w.heap.size = B) (cs : Array Value) (hcs : cs.toList = ks.map (Value.int .i64)) (hd : (kvs.map (·.1) ++ ks).Nodup) :
    Calls Tryd.prog 53 #[.pointer (some ⟨b, 0, none⟩), v, .slice (some ⟨B, 0, none⟩) n n] (w.alloc (.cells cs ty))
      fun e w' => (∃ u, e = .returned u) ∧ Makes w0 w' b r x0 x1 (kvs ++ ks.map fun k => (k, v)) := by
  subst hn hB
  have hb : Below w.heap.size w (w.alloc (.cells cs ty)) := (by repeat (first | exact Below.refl _ _ | assumption | exact (Below.refl _ _).alloc (Nat.le_refl _) _ | refine below_tr ?_ (by assumption) | refine below_alloc ?_ | refine below_tr ?_ (below_regrown _ _ _)))
  have on : ∀ {p : Addr} {u : Value}, w.cell? p = some u → (w.alloc (.cells cs ty)).cell? p = some u := fun h => cell_on h hb
  refine (filSet b r v kvs ks (some ⟨w.heap.size, 0, none⟩) ks.length _ hl (Rd.of_block (heap_alloc_new _ _) hcs) (h.m.later hb) (on h.c2) (fun j x hx => find_fresh hd j x hx)).mono ?_
  rintro e w' ⟨hu, hm, hg⟩
  exact ⟨hu, (below_tr h.below hb).grown hg (below_tr h.below hb).size fun k e => by injection e with e; subst e; exact h.lo, h.lo, cell_grown_map (h.m.later hb) hg (on h.c0), cell_grown_map (h.m.later hb) hg (on h.c1), cell_grown_map (h.m.later hb) hg (on h.c2), hm⟩

set_option maxRecDepth 10000 in
set_option maxHeartbeats 1000000 in
theorem filOver (vars : List ByteArray) (row : List Tm) (A1 A2 : Option Addr) (c1 c2 : Nat) (w : World) (hr1 : Rd w A1 (vars.map Value.string)) (hr2 : RdTs w A2 row) :
    Calls Tryd.prog 30 #[.slice A1 vars.length c1, .slice A2 row.length c2] w fun e w' => ∃ b, e = .returned (.pointer (some ⟨b, 0, none⟩)) ∧ JudgeAt w' b vars row ∧ Below w.heap.size w w' := by
  have hmm := @run_makeMap Tryd.prog
  go_enter Tryd.func30, Tryd.ntmps30
  have hM0 : Makes w ((w.alloc (Obj.map #[] 0)).alloc (Obj.cells #[.slice A1 vars.length c1, .slice A2 row.length c2, .map (some w.heap.size)] 98)) (w.heap.size + 1) w.heap.size (.slice A1 vars.length c1) (.slice A2 row.length c2) [] := by
    refine ⟨(by repeat (first | exact Below.refl _ _ | assumption | exact (Below.refl _ _).alloc (Nat.le_refl _) _ | refine below_tr ?_ (by assumption) | refine below_alloc ?_ | refine below_tr ?_ (below_regrown _ _ _))), Nat.le_refl _, ?_, ?_, ?_, ⟨#[], 0, ?_, rfl⟩⟩
    · rw [World.cell?, heap_two_2]; rfl
    · rw [World.cell?, heap_two_2]; rfl
    · rw [World.cell?, heap_two_2]; rfl
    · rw [heap_two_1]
  go_wp2_with fail
  have hs0 := fun v => hM0.set v [1, 2] 2 rfl (by decide) 47 _ rfl #[.int .i64 1, .int .i64 2] rfl (show (([] : List Int) ++ [1, 2]).Nodup by decide)
  try simp only [World.size_alloc] at hs0
  refine ((hs0 _).mono ?_)
  rintro e w1 ⟨⟨u0, rfl⟩, hM1⟩
  go_wp2_with fail
  have hs1 := fun v => hM1.set v [3] 1 rfl (by decide) 47 _ rfl #[.int .i64 3] rfl (show (([1, 2] : List Int) ++ [3]).Nodup by decide)
  try simp only [World.size_alloc] at hs1
  refine ((hs1 _).mono ?_)
  rintro e w2 ⟨⟨u1, rfl⟩, hM2⟩
  go_wp2_with fail
  have hs2 := fun v => hM2.set v [4, 5] 2 rfl (by decide) 47 _ rfl #[.int .i64 4, .int .i64 5] rfl (show (([1, 2, 3] : List Int) ++ [4, 5]).Nodup by decide)
  try simp only [World.size_alloc] at hs2
  refine ((hs2 _).mono ?_)
  rintro e w3 ⟨⟨u2, rfl⟩, hM3⟩
  go_wp2_with fail
  have hs3 := fun v => hM3.set v [6, 7, 8, 9, 10, 11] 6 rfl (by decide) 47 _ rfl #[.int .i64 6, .int .i64 7, .int .i64 8, .int .i64 9, .int .i64 10, .int .i64 11] rfl (show (([1, 2, 3, 4, 5] : List Int) ++ [6, 7, 8, 9, 10, 11]).Nodup by decide)
  try simp only [World.size_alloc] at hs3
  refine ((hs3 _).mono ?_)
  rintro e w4 ⟨⟨u3, rfl⟩, hM4⟩
  go_wp2_with fail
  have hs4 := fun v => hM4.set v [12, 13, 14] 3 rfl (by decide) 47 _ rfl #[.int .i64 12, .int .i64 13, .int .i64 14] rfl (show (([1, 2, 3, 4, 5, 6, 7, 8, 9, 10, 11] : List Int) ++ [12, 13, 14]).Nodup by decide)
  try simp only [World.size_alloc] at hs4
  refine ((hs4 _).mono ?_)
  rintro e w5 ⟨⟨u4, rfl⟩, hM5⟩
  go_wp2
  go_ret
  exact ⟨_, rfl, ⟨A1, A2, c1, c2, _, hM5.c0, hM5.c1, hM5.c2, hM5.m, hr1.later hM5.below, RdTs.later hr2 hM5.below⟩, hM5.below⟩
end Go.Proofs.YtmdjffnelkgmpaaDoor
