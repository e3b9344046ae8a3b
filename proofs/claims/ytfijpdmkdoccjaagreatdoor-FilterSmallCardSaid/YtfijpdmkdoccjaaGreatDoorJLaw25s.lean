/- Layer 25's law, walked: terms. Printed by gen/law25s.py. -/
import Derived.Test.YtfijpdmkdoccjaaGreatDoorJLaw25r
import Derived.Test.YtfijpdmkdoccjaaGreatDoorJFilProg
import Derived.Test.YtfijpdmkdoccjaaGreatDoorJQSame
import Derived.Test.YtfijpdmkdoccjaaGreatDoorJAppG
import Derived.Test.YtfijpdmkdoccjaaGreatDoorJRegion5
namespace Go.Proofs.YtfijpdmkdoccjaaGreatDoor
open Go Go.RowKit Go.Maps Go.ChangeMaps Fm Um Mt
theorem lawYes (s : ByteArray) (w : World) :
    Calls Tryz.prog 7 #[.string s] w fun e w' => e = .returned (.agg #[.int .i64 4, .string s, .string ⟨#[]⟩, .string ⟨#[104, 116, 116, 112, 58, 47, 47, 119, 119, 119, 46, 119, 51, 46, 111, 114, 103, 47, 50, 48, 48, 49, 47, 88, 77, 76, 83, 99, 104, 101, 109, 97, 35, 98, 111, 111, 108, 101, 97, 110]⟩]) ∧ Below w.heap.size w w' := by
  go_enter Tryz.func7, Tryz.ntmps7
  go_wp2
  exact bodyPost_ret (v := .agg #[.int .i64 4, .string s, .string ⟨#[]⟩, .string ⟨#[104, 116, 116, 112, 58, 47, 47, 119, 119, 119, 46, 119, 51, 46, 111, 114, 103, 47, 50, 48, 48, 49, 47, 88, 77, 76, 83, 99, 104, 101, 109, 97, 35, 98, 111, 111, 108, 101, 97, 110]⟩]) (by simp [results, Tryz.results7, go_sem]) rfl ⟨rfl, (by repeat (first | exact Below.refl _ _ | assumption | exact (Below.refl _ _).alloc (Nat.le_refl _) _ | refine below_tr ?_ (by assumption) | refine below_alloc ?_ | refine below_tr ?_ (below_regrown _ _ _)))⟩
def numsL : List ByteArray := [⟨#[48]⟩, ⟨#[45, 48]⟩, ⟨#[43, 48]⟩, ⟨#[48, 48]⟩, ⟨#[55]⟩, ⟨#[43, 48, 48, 55]⟩, ⟨#[45, 55]⟩, ⟨#[55, 48]⟩, ⟨#[45, 55, 48]⟩, ⟨#[]⟩, ⟨#[45]⟩, ⟨#[43]⟩, ⟨#[49, 46, 48]⟩, ⟨#[32, 49]⟩, ⟨#[49, 32]⟩, ⟨#[43, 45, 49]⟩, ⟨#[45, 45, 49]⟩, ⟨#[57, 57, 57, 57, 57, 57, 57, 57, 57, 57, 57, 57, 57, 57, 57, 57, 57, 57, 57, 57]⟩, ⟨#[45, 57, 57, 57, 57, 57, 57, 57, 57, 57, 57, 57, 57, 57, 57, 57, 57, 57, 57, 57, 57]⟩, ⟨#[49, 48, 48, 48, 48, 48, 48, 48, 48, 48, 48, 48, 48, 48, 48, 48, 48, 48, 48, 48, 48]⟩, ⟨#[120]⟩]
def textsL : List ByteArray := [⟨#[116, 114, 117, 101]⟩, ⟨#[102, 97, 108, 115, 101]⟩, ⟨#[49]⟩, ⟨#[48]⟩, ⟨#[84, 82, 85, 69]⟩, ⟨#[]⟩, ⟨#[121, 101, 115]⟩]
def terms10 : List Tm := [⟨1, ⟨#[117]⟩, ⟨#[]⟩, ⟨#[]⟩⟩, ⟨2, ⟨#[98]⟩, ⟨#[]⟩, ⟨#[]⟩⟩, ⟨4, ⟨#[97]⟩, ⟨#[]⟩, ⟨#[117]⟩⟩, ⟨4, ⟨#[97]⟩, ⟨#[]⟩, ⟨#[]⟩⟩, ⟨3, ⟨#[97]⟩, ⟨#[]⟩, ⟨#[117]⟩⟩, ⟨0, ⟨#[]⟩, ⟨#[]⟩, ⟨#[]⟩⟩, ⟨9, ⟨#[117]⟩, ⟨#[]⟩, ⟨#[]⟩⟩, ⟨3, ⟨#[]⟩, ⟨#[101, 110]⟩, ⟨#[]⟩⟩, ⟨3, ⟨#[97]⟩, ⟨#[101, 110]⟩, ⟨#[]⟩⟩, ⟨3, ⟨#[97]⟩, ⟨#[102, 114]⟩, ⟨#[]⟩⟩]
theorem nums_sz : ∀ x ∈ numsL, x.size ≤ 1048576 := by decide
theorem texts_sz : ∀ x ∈ textsL, x.size ≤ 1048576 := by decide
theorem terms_sz : ∀ t ∈ terms10, szTu t := by unfold szTu; decide
/-- A row of small terms, of the call's own; texts in another block. -/
def TsAt (w : World) (g n : Nat) (txt : List ByteArray) (v : Value) (wr : World) : Prop :=
  (∃ l : List Tm, l.length = n ∧ (∀ t ∈ l, szTu t) ∧ wr.ownsRow w.heap.size 28 4 v n (l.flatMap tmC) ∧ v.ownBlock ≠ some g) ∧ Rd wr (some ⟨g, 0, none⟩) (txt.map Value.string) ∧ Below w.heap.size w wr ∧ g < wr.heap.size
theorem tm1 (t : Tm) : ∀ u ∈ tmC t, u.oneCell' = true := by
  intro u hu
  simp only [tmC, List.mem_cons, List.not_mem_nil, or_false] at hu
  rcases hu with rfl | rfl | rfl | rfl <;> rfl
theorem alloc_at (w : World) (cs : Array Value) (T : TypeId) (xs : List Value) (hx : cs.toList = xs) : ∀ j u, xs[j]? = some u → (w.alloc (.cells cs T)).cell? ⟨w.heap.size, 0 + j, none⟩ = some u := by
  intro j u hu
  subst hx
  rw [World.cell?, heap_alloc_new]
  simpa using hu
theorem alloc_at2 (w : World) (X : Obj) (cs : Array Value) (T : TypeId) (xs : List Value) (hx : cs.toList = xs) : ∀ j u, xs[j]? = some u → ((w.alloc X).alloc (.cells cs T)).cell? ⟨w.heap.size + 1, 0 + j, none⟩ = some u := by
  have := alloc_at (w.alloc X) cs T xs hx
  rwa [show (w.alloc X).heap.size = w.heap.size + 1 by simp] at this
theorem rd_two (w : World) (X : Obj) (cs : Array Value) (T : TypeId) (xs : List Value) (h : cs.toList = xs) : Rd ((w.alloc X).alloc (.cells cs T)) (some ⟨w.heap.size + 1, 0, none⟩) xs := by
  have := Rd.of_block (heap_alloc_new (w.alloc X) (.cells cs T)) h
  rwa [show (w.alloc X).heap.size = w.heap.size + 1 by simp] at this
theorem rd_at0 {w : World} {g : Nat} {l : List ByteArray} (h : Rd w (some ⟨g, 0, none⟩) (l.map Value.string)) {k : Nat} {s : ByteArray} (hs : l[k]? = some s) : w.cell? ⟨g, k, none⟩ = some (.string s) := by
  obtain ⟨g0, o0, he, hc⟩ := h.at_ (j := k) (u := .string s) (by simp [hs])
  injection he with he; injection he with h2 h3; subst h2; subst h3
  simpa using hc
theorem szN4 {s : ByteArray} (h : s.size ≤ 1048576) : szTu ⟨4, s, ⟨#[]⟩, ⟨#[104, 116, 116, 112, 58, 47, 47, 119, 119, 119, 46, 119, 51, 46, 111, 114, 103, 47, 50, 48, 48, 49, 47, 88, 77, 76, 83, 99, 104, 101, 109, 97, 35, 105, 110, 116, 101, 103, 101, 114]⟩⟩ := ⟨h, (by decide : (⟨#[]⟩ : ByteArray).size ≤ 1048576), (by decide : (⟨#[104, 116, 116, 112, 58, 47, 47, 119, 119, 119, 46, 119, 51, 46, 111, 114, 103, 47, 50, 48, 48, 49, 47, 88, 77, 76, 83, 99, 104, 101, 109, 97, 35, 105, 110, 116, 101, 103, 101, 114]⟩ : ByteArray).size ≤ 1048576)⟩
theorem szY4 {s : ByteArray} (h : s.size ≤ 1048576) : szTu ⟨4, s, ⟨#[]⟩, ⟨#[104, 116, 116, 112, 58, 47, 47, 119, 119, 119, 46, 119, 51, 46, 111, 114, 103, 47, 50, 48, 48, 49, 47, 88, 77, 76, 83, 99, 104, 101, 109, 97, 35, 98, 111, 111, 108, 101, 97, 110]⟩⟩ := ⟨h, (by decide : (⟨#[]⟩ : ByteArray).size ≤ 1048576), (by decide : (⟨#[104, 116, 116, 112, 58, 47, 47, 119, 119, 119, 46, 119, 51, 46, 111, 114, 103, 47, 50, 48, 48, 49, 47, 88, 77, 76, 83, 99, 104, 101, 109, 97, 35, 98, 111, 111, 108, 101, 97, 110]⟩ : ByteArray).size ≤ 1048576)⟩
theorem szP3 {s : ByteArray} (h : s.size ≤ 1048576) : szTu ⟨3, s, ⟨#[]⟩, ⟨#[]⟩⟩ := ⟨h, (by decide : (⟨#[]⟩ : ByteArray).size ≤ 1048576), (by decide : (⟨#[]⟩ : ByteArray).size ≤ 1048576)⟩
/-- One term more. -/
theorem TsAt.add {w wr w4 w5 : World} {g n m : Nat} {txt : List ByteArray} {v v' : Value} {l ts : List Tm} (hr : Rd wr (some ⟨g, 0, none⟩) (txt.map Value.string)) (hB : Below w.heap.size w wr) (hg : g < wr.heap.size) (hl : l.length = n) (hz : ∀ t ∈ l, szTu t) (hne : v.ownBlock ≠ some g)
    (b4 : Below wr.heap.size wr w4) (own : w5.ownsRow w.heap.size 28 4 v' (n + m) (l.flatMap tmC ++ ts.flatMap tmC)) (hm : ts.length = m) (hts : ∀ t ∈ ts, szTu t) (hg5 : w4.grownBy w5 v.ownBlock) (hb5 : Below w.heap.size w4 w5) (hv : v'.ownBlock = v.ownBlock ∨ v'.ownBlock = some w4.heap.size) : TsAt w g (n + m) txt v' w5 := by
  have h1 := b4.size
  refine ⟨⟨l ++ ts, by simp [hl, hm], ?_, by rw [List.flatMap_append]; exact own, ?_⟩, ?_, (hB.trans ((b4.mono hB.size).trans hb5)), by have := hb5.size; omega⟩
  · intro t ht
    rcases List.mem_append.1 ht with h | h
    · exact hz t h
    · exact hts t h
  · rcases hv with h | h
    · rw [h]; exact hne
    · rw [h]; intro e; injection e with e; omega
  · exact (hr.later b4).grown hg5 fun a ha => by injection ha with ha; subst ha; exact fun e => hne e.symm
theorem TsAt.move {w wr : World} {g n : Nat} {txt txt2 : List ByteArray} {v : Value} {cs : Array Value} {T : TypeId} (h : TsAt w g n txt v wr) (hc : cs.toList = txt2.map Value.string) : TsAt w wr.heap.size n txt2 v (wr.alloc (.cells cs T)) := by
  obtain ⟨⟨l, hl, hz, own, hne⟩, hr, hB, hg⟩ := h
  refine ⟨⟨l, hl, hz, own.alloc _, ?_⟩, Rd.of_block (heap_alloc_new wr _) hc, hB.alloc hB.size _, by simp⟩
  intro h
  have := (own.lt _ h).2
  omega
set_option maxRecDepth 100000 in
set_option maxHeartbeats 8000000 in
theorem lawTerms (w : World) : Calls Tryz.prog 4 #[] w fun e w' => ∃ (l : List Tm) (A : Option Addr) (c : Nat), e = .returned (.slice A 48 c) ∧ 48 ≤ c ∧ RdTs w' A l ∧ l.length = 48 ∧ (∀ t ∈ l, szTu t) ∧ Below w.heap.size w w' := by
  go_enter Tryz.func4, Tryz.ntmps4
  go_wp2_with fail
  refine (lawTagged _ _ _).mono ?_
  rintro e w1 ⟨rfl, hb1⟩
  go_wp2_with fail
  refine (lawTagged _ _ _).mono ?_
  rintro e w2 ⟨rfl, hb2⟩
  go_wp2_with fail
  refine (lawTagged _ _ _).mono ?_
  rintro e w3 ⟨rfl, hb3⟩
  have HB3 := Lib.hid (below_tr (below_tr hb1 hb2) hb3)
  clear hb1 hb2 hb3
  go_wp2
  go_loopw [1, 3] (fun v i wr => ∃ k : Nat, k ≤ 21 ∧ i = .int .i64 k ∧ TsAt w (w3.heap.size + 1) (10 + k) numsL v wr) (fun _ i _ => 21 - (intOf i).toNat)
  case atStart =>
    have hz := HB3.out.size
    refine ⟨0, by omega, rfl, ⟨terms10, rfl, terms_sz, (own_new (w := w3) (base := w.heap.size) (e := 28) (size := 4) (n := 10) (xs := terms10.flatMap tmC) hz rfl rfl (by decide)).alloc _, ?_⟩, ?_, ?_, by simp⟩
    · intro h; injection h with h; have h' : w3.heap.size = w3.heap.size + 1 := h; omega
    · exact rd_two _ _ _ _ _ rfl
    · exact (HB3.out.alloc hz _).alloc (by simp; omega) _
  case round =>
    obtain ⟨k, hk, rfl, hT⟩ := hrel
    by_cases hlt : k < 21
    · obtain ⟨⟨l, hl, hz, own, hne⟩, hr, hB, hg⟩ := hT
      obtain ⟨s, hs⟩ : ∃ s, numsL[k]? = some s := ⟨_, List.getElem?_eq_getElem (show k < numsL.length from hlt)⟩
      have hsz := nums_sz s (List.mem_of_getElem? hs)
      have c0 := rd_at0 hr hs
      have Hr := Lib.hid hr
      have HB := Lib.hid hB
      clear hr hs
      go_wp2_with fail
      refine (lawNum s wr).mono ?_
      rintro e w4 ⟨rfl, hb4⟩
      have own4 := (own_below own hb4 (Nat.le_refl _)).alloc (.cells #[.int .i64 4, .string s, .string ⟨#[]⟩, .string ⟨#[104, 116, 116, 112, 58, 47, 47, 119, 119, 119, 46, 119, 51, 46, 111, 114, 103, 47, 50, 48, 48, 49, 47, 88, 77, 76, 83, 99, 104, 101, 109, 97, 35, 105, 110, 116, 101, 103, 101, 114]⟩] 28)
      have hw4 : w.heap.size ≤ (w4.alloc (.cells #[.int .i64 4, .string s, .string ⟨#[]⟩, .string ⟨#[104, 116, 116, 112, 58, 47, 47, 119, 119, 119, 46, 119, 51, 46, 111, 114, 103, 47, 50, 48, 48, 49, 47, 88, 77, 76, 83, 99, 104, 101, 109, 97, 35, 105, 110, 116, 101, 103, 101, 114]⟩] 28)).heap.size := by have := hb4.size; have := HB.out.size; simp; omega
      have HB4 := Lib.hid hb4
      clear own hb4
      go_wp2_with (at_builtin; refine wpList_appF rfl rfl Tryz.underlying22 termInfoL rfl (by omega) rfl own4 rfl (alloc_at _ _ _ (([⟨4, s, ⟨#[]⟩, ⟨#[104, 116, 116, 112, 58, 47, 47, 119, 119, 119, 46, 119, 51, 46, 111, 114, 103, 47, 50, 48, 48, 49, 47, 88, 77, 76, 83, 99, 104, 101, 109, 97, 35, 105, 110, 116, 101, 103, 101, 114]⟩⟩] : List Tm).flatMap tmC) rfl) rfl (by intro u hu; obtain ⟨t, _, ht⟩ := List.mem_flatMap.1 hu; exact tm1 t u ht) (by omega) (by omega) hw4 ?_; intro v5 w5 own5 hb5 hg5 hv5)
      have hfin : TsAt w (w3.heap.size + 1) (10 + k + 1) numsL v5 w5 := TsAt.add Hr.out HB.out hg hl hz hne (below_tr HB4.out ((Below.refl _ _).alloc (Nat.le_refl _) _)) own5 rfl (by intro t ht; rw [List.mem_singleton.1 ht]; exact szN4 hsz) hg5 hb5 hv5
      go_roundw
      case rel => exact ⟨k + 1, by omega, by go_num, hfin⟩
      case measure => simp [intOf]; omega
    · obtain rfl : k = 21 := by omega
      obtain ⟨wm, rfl⟩ : ∃ wm, wm = wr := ⟨_, rfl⟩
      have HT0 := Lib.hid (hT.move (cs := #[.string ⟨#[116, 114, 117, 101]⟩, .string ⟨#[102, 97, 108, 115, 101]⟩, .string ⟨#[49]⟩, .string ⟨#[48]⟩, .string ⟨#[84, 82, 85, 69]⟩, .string ⟨#[]⟩, .string ⟨#[121, 101, 115]⟩]) (txt2 := textsL) (T := 9) rfl)
      clear hT
      go_wp2
      go_loopw [1, 5] (fun v i wx => ∃ k : Nat, k ≤ 7 ∧ i = .int .i64 k ∧ TsAt w wm.heap.size (31 + 2 * k) textsL v wx) (fun _ i _ => 7 - (intOf i).toNat)
      case atStart => exact ⟨0, by omega, rfl, HT0.out⟩
      case round =>
        clear HT0
        obtain ⟨k, hk, rfl, hT⟩ := hrel
        by_cases hlt : k < 7
        · obtain ⟨⟨l, hl, hz, own, hne⟩, hr, hB, hg⟩ := hT
          obtain ⟨s, hs⟩ : ∃ s, textsL[k]? = some s := ⟨_, List.getElem?_eq_getElem (show k < textsL.length from hlt)⟩
          have hsz := texts_sz s (List.mem_of_getElem? hs)
          have c0 := rd_at0 hr hs
          have Hr := Lib.hid hr
          have HB := Lib.hid hB
          clear hr hs hB
          go_upto_region 11 with (fail)
          refine Rn.wp_region_st5 wr.heap.size 12 _ [(0, [0, 1, 2, 3, 4, 6, 7, 8, 9]), (1, [5]), (1, [10]), (1, [11]), (2, [12]), (0, [13])] _ (by kernel_rfl) (by kernel_rfl) (by simp only [List.map_cons, List.map_nil, Rg.pickOps, List.getElem?_toArray, List.getElem?_cons_zero, List.getElem?_cons_succ, Option.getD_some]; rfl) ?_ (fun a w h => h)
          intro wd hbd hwz
          replace c0 := cellL c0 hbd
          have ownd := own_below own hbd (Nat.le_refl _)
          have Hbd := Lib.hid hbd
          have hle := hbd.size
          clear hbd hwz own
          refine Rn.st_quiet ?_
          iterate 9 go_big_quiet_step (fail)
          refine wpQuiet_nil (Rn.st_one ?_)
          go_wp2_with (refine (lawYes _ _).mono ?_; rintro e w1 ⟨rfl, b1⟩)
          refine ⟨b1.mono hle, Rn.st_one ?_⟩
          go_wp2_with (refine (lawPlain _ _).mono ?_; rintro e w2 ⟨rfl, b2⟩)
          refine ⟨b2.mono (Nat.le_trans hle b1.size), Rn.st_one ?_⟩
          go_wp2
          refine ⟨(Below.refl _ _).alloc (Nat.le_trans hle (Nat.le_trans b1.size b2.size)) _, Rn.st_free ?_⟩
          have b12 := below_tr (below_tr Hbd.out b1) b2
          have ownx := (own_below (own_below ownd b1 (Nat.le_refl _)) b2 (Nat.le_refl _)).alloc (.cells #[.int .i64 4, .string s, .string ⟨#[]⟩, .string ⟨#[104, 116, 116, 112, 58, 47, 47, 119, 119, 119, 46, 119, 51, 46, 111, 114, 103, 47, 50, 48, 48, 49, 47, 88, 77, 76, 83, 99, 104, 101, 109, 97, 35, 98, 111, 111, 108, 101, 97, 110]⟩, .int .i64 3, .string s, .string ⟨#[]⟩, .string ⟨#[]⟩] 28)
          have hwx : w.heap.size ≤ (w2.alloc (.cells #[.int .i64 4, .string s, .string ⟨#[]⟩, .string ⟨#[104, 116, 116, 112, 58, 47, 47, 119, 119, 119, 46, 119, 51, 46, 111, 114, 103, 47, 50, 48, 48, 49, 47, 88, 77, 76, 83, 99, 104, 101, 109, 97, 35, 98, 111, 111, 108, 101, 97, 110]⟩, .int .i64 3, .string s, .string ⟨#[]⟩, .string ⟨#[]⟩] 28)).heap.size := by have := b12.size; have := HB.out.size; simp; omega
          have H12 := Lib.hid b12
          clear ownd b1 b2 b12
          go_wp2_with (at_builtin; refine wpList_appF rfl rfl Tryz.underlying22 termInfoL rfl (by omega) rfl ownx rfl (alloc_at _ _ _ (([⟨4, s, ⟨#[]⟩, ⟨#[104, 116, 116, 112, 58, 47, 47, 119, 119, 119, 46, 119, 51, 46, 111, 114, 103, 47, 50, 48, 48, 49, 47, 88, 77, 76, 83, 99, 104, 101, 109, 97, 35, 98, 111, 111, 108, 101, 97, 110]⟩⟩, ⟨3, s, ⟨#[]⟩, ⟨#[]⟩⟩] : List Tm).flatMap tmC) rfl) rfl (by intro u hu; obtain ⟨t, _, ht⟩ := List.mem_flatMap.1 hu; exact tm1 t u ht) (by omega) (by omega) hwx ?_; intro v5 w5 own5 hb5 hg5 hv5)
          have hfin : TsAt w wm.heap.size (31 + 2 * k + 2) textsL v5 w5 := TsAt.add Hr.out HB.out hg hl hz hne (below_tr H12.out ((Below.refl _ _).alloc (Nat.le_refl _) _)) own5 rfl (by intro t ht; rcases List.mem_cons.1 ht with rfl | ht; exact szY4 hsz; rw [List.mem_singleton.1 ht]; exact szP3 hsz) hg5 hb5 hv5
          clear own5 hb5 hg5 hv5 ownx
          refine Rn.st_quiet ?_
          iterate 1 go_big_quiet_step (fail)
          refine wpQuiet_nil (Rn.st_done ?_)
          go_wp2
          go_roundw
          case rel =>
            (repeat apply Exists.intro)
            refine ⟨?_, rfl⟩
            exact ⟨k + 1, by omega, by go_num, by rw [show 31 + 2 * (k + 1) = 31 + 2 * k + 2 by omega]; exact hfin⟩
          case measure => simp [intOf]; omega
        · obtain rfl : k = 7 := by omega
          obtain ⟨⟨l, hl, hz, own, hne⟩, hr, hB, hg⟩ := hT
          clear hne hr hg
          go_wp2_with fail
          refine (lawNum _ _).mono ?_
          rintro e w6 ⟨rfl, b6⟩
          have own6 := own_below own b6 (Nat.le_refl _)
          have B6 := below_tr hB b6
          clear own hB b6
          have k6 : ∀ i u, (#[.int .i64 4, .string ⟨#[55]⟩, .string ⟨#[101, 110]⟩, .string ⟨#[104, 116, 116, 112, 58, 47, 47, 119, 119, 119, 46, 119, 51, 46, 111, 114, 103, 47, 50, 48, 48, 49, 47, 88, 77, 76, 83, 99, 104, 101, 109, 97, 35, 105, 110, 116, 101, 103, 101, 114]⟩])[i]? = some u → (w6.alloc (.cells #[.int .i64 4, .string ⟨#[55]⟩, .string ⟨#[101, 110]⟩, .string ⟨#[104, 116, 116, 112, 58, 47, 47, 119, 119, 119, 46, 119, 51, 46, 111, 114, 103, 47, 50, 48, 48, 49, 47, 88, 77, 76, 83, 99, 104, 101, 109, 97, 35, 105, 110, 116, 101, 103, 101, 114]⟩] 28)).cell? ⟨w6.heap.size, i, none⟩ = some u := fun i u hu => by rw [World.cell?, heap_alloc_new]; exact hu
          have O6 := own6.alloc (.cells #[.int .i64 4, .string ⟨#[55]⟩, .string ⟨#[101, 110]⟩, .string ⟨#[104, 116, 116, 112, 58, 47, 47, 119, 119, 119, 46, 119, 51, 46, 111, 114, 103, 47, 50, 48, 48, 49, 47, 88, 77, 76, 83, 99, 104, 101, 109, 97, 35, 105, 110, 116, 101, 103, 101, 114]⟩] 28)
          have D6 := B6.alloc B6.size (.cells #[.int .i64 4, .string ⟨#[55]⟩, .string ⟨#[101, 110]⟩, .string ⟨#[104, 116, 116, 112, 58, 47, 47, 119, 119, 119, 46, 119, 51, 46, 111, 114, 103, 47, 50, 48, 48, 49, 47, 88, 77, 76, 83, 99, 104, 101, 109, 97, 35, 105, 110, 116, 101, 103, 101, 114]⟩] 28)
          go_wp2_with fail
          refine (lawNum _ _).mono ?_
          rintro e w7 ⟨rfl, b7⟩
          have K6 : ∀ i u, (#[.int .i64 4, .string ⟨#[55]⟩, .string ⟨#[101, 110]⟩, .string ⟨#[104, 116, 116, 112, 58, 47, 47, 119, 119, 119, 46, 119, 51, 46, 111, 114, 103, 47, 50, 48, 48, 49, 47, 88, 77, 76, 83, 99, 104, 101, 109, 97, 35, 105, 110, 116, 101, 103, 101, 114]⟩])[i]? = some u → w7.cell? ⟨w6.heap.size, i, none⟩ = some u := fun i u hu => cell_on (k6 i u hu) b7
          have own7 := own_below O6 b7 (Nat.le_refl _)
          have B7 := below_tr D6 b7
          have s7 : w6.heap.size < w7.heap.size := by have := b7.size; simp at this; omega
          clear k6 O6 D6 own6 B6 b7
          have k7 : ∀ i u, (#[.int .i64 1, .string ⟨#[55]⟩, .string ⟨#[]⟩, .string ⟨#[104, 116, 116, 112, 58, 47, 47, 119, 119, 119, 46, 119, 51, 46, 111, 114, 103, 47, 50, 48, 48, 49, 47, 88, 77, 76, 83, 99, 104, 101, 109, 97, 35, 105, 110, 116, 101, 103, 101, 114]⟩])[i]? = some u → (w7.alloc (.cells #[.int .i64 1, .string ⟨#[55]⟩, .string ⟨#[]⟩, .string ⟨#[104, 116, 116, 112, 58, 47, 47, 119, 119, 119, 46, 119, 51, 46, 111, 114, 103, 47, 50, 48, 48, 49, 47, 88, 77, 76, 83, 99, 104, 101, 109, 97, 35, 105, 110, 116, 101, 103, 101, 114]⟩] 28)).cell? ⟨w7.heap.size, i, none⟩ = some u := fun i u hu => by rw [World.cell?, heap_alloc_new]; exact hu
          have O7 := own7.alloc (.cells #[.int .i64 1, .string ⟨#[55]⟩, .string ⟨#[]⟩, .string ⟨#[104, 116, 116, 112, 58, 47, 47, 119, 119, 119, 46, 119, 51, 46, 111, 114, 103, 47, 50, 48, 48, 49, 47, 88, 77, 76, 83, 99, 104, 101, 109, 97, 35, 105, 110, 116, 101, 103, 101, 114]⟩] 28)
          have D7 := B7.alloc B7.size (.cells #[.int .i64 1, .string ⟨#[55]⟩, .string ⟨#[]⟩, .string ⟨#[104, 116, 116, 112, 58, 47, 47, 119, 119, 119, 46, 119, 51, 46, 111, 114, 103, 47, 50, 48, 48, 49, 47, 88, 77, 76, 83, 99, 104, 101, 109, 97, 35, 105, 110, 116, 101, 103, 101, 114]⟩] 28)
          go_wp2_with fail
          refine (lawNum _ _).mono ?_
          rintro e w8 ⟨rfl, b8⟩
          have L6 : ∀ i u, (#[.int .i64 4, .string ⟨#[55]⟩, .string ⟨#[101, 110]⟩, .string ⟨#[104, 116, 116, 112, 58, 47, 47, 119, 119, 119, 46, 119, 51, 46, 111, 114, 103, 47, 50, 48, 48, 49, 47, 88, 77, 76, 83, 99, 104, 101, 109, 97, 35, 105, 110, 116, 101, 103, 101, 114]⟩])[i]? = some u → w8.cell? ⟨w6.heap.size, i, none⟩ = some u := fun i u hu => cell_on (cell_on (K6 i u hu) ((Below.refl _ _).alloc (Nat.le_refl _) _)) b8
          have L7 : ∀ i u, (#[.int .i64 1, .string ⟨#[55]⟩, .string ⟨#[]⟩, .string ⟨#[104, 116, 116, 112, 58, 47, 47, 119, 119, 119, 46, 119, 51, 46, 111, 114, 103, 47, 50, 48, 48, 49, 47, 88, 77, 76, 83, 99, 104, 101, 109, 97, 35, 105, 110, 116, 101, 103, 101, 114]⟩])[i]? = some u → w8.cell? ⟨w7.heap.size, i, none⟩ = some u := fun i u hu => cell_on (k7 i u hu) b8
          have O8 := (own_below O7 b8 (Nat.le_refl _)).alloc (.cells #[.int .i64 3, .string ⟨#[55]⟩, .string ⟨#[]⟩, .string ⟨#[104, 116, 116, 112, 58, 47, 47, 119, 119, 119, 46, 119, 51, 46, 111, 114, 103, 47, 50, 48, 48, 49, 47, 88, 77, 76, 83, 99, 104, 101, 109, 97, 35, 105, 110, 116, 101, 103, 101, 114]⟩] 28)
          have s8 : w7.heap.size < w8.heap.size := by have := b8.size; simp at this; omega
          have B8 := below_tr D7 b8
          have D8 := B8.alloc B8.size (.cells #[.int .i64 3, .string ⟨#[55]⟩, .string ⟨#[]⟩, .string ⟨#[104, 116, 116, 112, 58, 47, 47, 119, 119, 119, 46, 119, 51, 46, 111, 114, 103, 47, 50, 48, 48, 49, 47, 88, 77, 76, 83, 99, 104, 101, 109, 97, 35, 105, 110, 116, 101, 103, 101, 114]⟩] 28)
          have b8' : Below w8.heap.size w8 (w8.alloc (.cells #[.int .i64 3, .string ⟨#[55]⟩, .string ⟨#[]⟩, .string ⟨#[104, 116, 116, 112, 58, 47, 47, 119, 119, 119, 46, 119, 51, 46, 111, 114, 103, 47, 50, 48, 48, 49, 47, 88, 77, 76, 83, 99, 104, 101, 109, 97, 35, 105, 110, 116, 101, 103, 101, 114]⟩] 28)) := (Below.refl _ _).alloc (Nat.le_refl _) _
          have f00 : (w8.alloc (.cells #[.int .i64 3, .string ⟨#[55]⟩, .string ⟨#[]⟩, .string ⟨#[104, 116, 116, 112, 58, 47, 47, 119, 119, 119, 46, 119, 51, 46, 111, 114, 103, 47, 50, 48, 48, 49, 47, 88, 77, 76, 83, 99, 104, 101, 109, 97, 35, 105, 110, 116, 101, 103, 101, 114]⟩] 28)).cell? ⟨w6.heap.size, 0, none⟩ = some (.int .i64 4) := cell_on (L6 0 _ rfl) b8'
          have f01 : (w8.alloc (.cells #[.int .i64 3, .string ⟨#[55]⟩, .string ⟨#[]⟩, .string ⟨#[104, 116, 116, 112, 58, 47, 47, 119, 119, 119, 46, 119, 51, 46, 111, 114, 103, 47, 50, 48, 48, 49, 47, 88, 77, 76, 83, 99, 104, 101, 109, 97, 35, 105, 110, 116, 101, 103, 101, 114]⟩] 28)).cell? ⟨w6.heap.size, 1, none⟩ = some (.string ⟨#[55]⟩) := cell_on (L6 1 _ rfl) b8'
          have f02 : (w8.alloc (.cells #[.int .i64 3, .string ⟨#[55]⟩, .string ⟨#[]⟩, .string ⟨#[104, 116, 116, 112, 58, 47, 47, 119, 119, 119, 46, 119, 51, 46, 111, 114, 103, 47, 50, 48, 48, 49, 47, 88, 77, 76, 83, 99, 104, 101, 109, 97, 35, 105, 110, 116, 101, 103, 101, 114]⟩] 28)).cell? ⟨w6.heap.size, 2, none⟩ = some (.string ⟨#[101, 110]⟩) := cell_on (L6 2 _ rfl) b8'
          have f03 : (w8.alloc (.cells #[.int .i64 3, .string ⟨#[55]⟩, .string ⟨#[]⟩, .string ⟨#[104, 116, 116, 112, 58, 47, 47, 119, 119, 119, 46, 119, 51, 46, 111, 114, 103, 47, 50, 48, 48, 49, 47, 88, 77, 76, 83, 99, 104, 101, 109, 97, 35, 105, 110, 116, 101, 103, 101, 114]⟩] 28)).cell? ⟨w6.heap.size, 3, none⟩ = some (.string ⟨#[104, 116, 116, 112, 58, 47, 47, 119, 119, 119, 46, 119, 51, 46, 111, 114, 103, 47, 50, 48, 48, 49, 47, 88, 77, 76, 83, 99, 104, 101, 109, 97, 35, 105, 110, 116, 101, 103, 101, 114]⟩) := cell_on (L6 3 _ rfl) b8'
          have f10 : (w8.alloc (.cells #[.int .i64 3, .string ⟨#[55]⟩, .string ⟨#[]⟩, .string ⟨#[104, 116, 116, 112, 58, 47, 47, 119, 119, 119, 46, 119, 51, 46, 111, 114, 103, 47, 50, 48, 48, 49, 47, 88, 77, 76, 83, 99, 104, 101, 109, 97, 35, 105, 110, 116, 101, 103, 101, 114]⟩] 28)).cell? ⟨w7.heap.size, 0, none⟩ = some (.int .i64 1) := cell_on (L7 0 _ rfl) b8'
          have f11 : (w8.alloc (.cells #[.int .i64 3, .string ⟨#[55]⟩, .string ⟨#[]⟩, .string ⟨#[104, 116, 116, 112, 58, 47, 47, 119, 119, 119, 46, 119, 51, 46, 111, 114, 103, 47, 50, 48, 48, 49, 47, 88, 77, 76, 83, 99, 104, 101, 109, 97, 35, 105, 110, 116, 101, 103, 101, 114]⟩] 28)).cell? ⟨w7.heap.size, 1, none⟩ = some (.string ⟨#[55]⟩) := cell_on (L7 1 _ rfl) b8'
          have f12 : (w8.alloc (.cells #[.int .i64 3, .string ⟨#[55]⟩, .string ⟨#[]⟩, .string ⟨#[104, 116, 116, 112, 58, 47, 47, 119, 119, 119, 46, 119, 51, 46, 111, 114, 103, 47, 50, 48, 48, 49, 47, 88, 77, 76, 83, 99, 104, 101, 109, 97, 35, 105, 110, 116, 101, 103, 101, 114]⟩] 28)).cell? ⟨w7.heap.size, 2, none⟩ = some (.string ⟨#[]⟩) := cell_on (L7 2 _ rfl) b8'
          have f13 : (w8.alloc (.cells #[.int .i64 3, .string ⟨#[55]⟩, .string ⟨#[]⟩, .string ⟨#[104, 116, 116, 112, 58, 47, 47, 119, 119, 119, 46, 119, 51, 46, 111, 114, 103, 47, 50, 48, 48, 49, 47, 88, 77, 76, 83, 99, 104, 101, 109, 97, 35, 105, 110, 116, 101, 103, 101, 114]⟩] 28)).cell? ⟨w7.heap.size, 3, none⟩ = some (.string ⟨#[104, 116, 116, 112, 58, 47, 47, 119, 119, 119, 46, 119, 51, 46, 111, 114, 103, 47, 50, 48, 48, 49, 47, 88, 77, 76, 83, 99, 104, 101, 109, 97, 35, 105, 110, 116, 101, 103, 101, 114]⟩) := cell_on (L7 3 _ rfl) b8'
          have O9 := O8.alloc (.cells #[.int .i64 4, .string ⟨#[55]⟩, .string ⟨#[101, 110]⟩, .string ⟨#[104, 116, 116, 112, 58, 47, 47, 119, 119, 119, 46, 119, 51, 46, 111, 114, 103, 47, 50, 48, 48, 49, 47, 88, 77, 76, 83, 99, 104, 101, 109, 97, 35, 105, 110, 116, 101, 103, 101, 114]⟩, .int .i64 1, .string ⟨#[55]⟩, .string ⟨#[]⟩, .string ⟨#[104, 116, 116, 112, 58, 47, 47, 119, 119, 119, 46, 119, 51, 46, 111, 114, 103, 47, 50, 48, 48, 49, 47, 88, 77, 76, 83, 99, 104, 101, 109, 97, 35, 105, 110, 116, 101, 103, 101, 114]⟩, .int .i64 3, .string ⟨#[55]⟩, .string ⟨#[]⟩, .string ⟨#[104, 116, 116, 112, 58, 47, 47, 119, 119, 119, 46, 119, 51, 46, 111, 114, 103, 47, 50, 48, 48, 49, 47, 88, 77, 76, 83, 99, 104, 101, 109, 97, 35, 105, 110, 116, 101, 103, 101, 114]⟩] 28)
          have hwx : w.heap.size ≤ ((w8.alloc (.cells #[.int .i64 3, .string ⟨#[55]⟩, .string ⟨#[]⟩, .string ⟨#[104, 116, 116, 112, 58, 47, 47, 119, 119, 119, 46, 119, 51, 46, 111, 114, 103, 47, 50, 48, 48, 49, 47, 88, 77, 76, 83, 99, 104, 101, 109, 97, 35, 105, 110, 116, 101, 103, 101, 114]⟩] 28)).alloc (.cells #[.int .i64 4, .string ⟨#[55]⟩, .string ⟨#[101, 110]⟩, .string ⟨#[104, 116, 116, 112, 58, 47, 47, 119, 119, 119, 46, 119, 51, 46, 111, 114, 103, 47, 50, 48, 48, 49, 47, 88, 77, 76, 83, 99, 104, 101, 109, 97, 35, 105, 110, 116, 101, 103, 101, 114]⟩, .int .i64 1, .string ⟨#[55]⟩, .string ⟨#[]⟩, .string ⟨#[104, 116, 116, 112, 58, 47, 47, 119, 119, 119, 46, 119, 51, 46, 111, 114, 103, 47, 50, 48, 48, 49, 47, 88, 77, 76, 83, 99, 104, 101, 109, 97, 35, 105, 110, 116, 101, 103, 101, 114]⟩, .int .i64 3, .string ⟨#[55]⟩, .string ⟨#[]⟩, .string ⟨#[104, 116, 116, 112, 58, 47, 47, 119, 119, 119, 46, 119, 51, 46, 111, 114, 103, 47, 50, 48, 48, 49, 47, 88, 77, 76, 83, 99, 104, 101, 109, 97, 35, 105, 110, 116, 101, 103, 101, 114]⟩] 28)).heap.size := by have := B8.size; simp; omega
          have D9 := D8.alloc D8.size (.cells #[.int .i64 4, .string ⟨#[55]⟩, .string ⟨#[101, 110]⟩, .string ⟨#[104, 116, 116, 112, 58, 47, 47, 119, 119, 119, 46, 119, 51, 46, 111, 114, 103, 47, 50, 48, 48, 49, 47, 88, 77, 76, 83, 99, 104, 101, 109, 97, 35, 105, 110, 116, 101, 103, 101, 114]⟩, .int .i64 1, .string ⟨#[55]⟩, .string ⟨#[]⟩, .string ⟨#[104, 116, 116, 112, 58, 47, 47, 119, 119, 119, 46, 119, 51, 46, 111, 114, 103, 47, 50, 48, 48, 49, 47, 88, 77, 76, 83, 99, 104, 101, 109, 97, 35, 105, 110, 116, 101, 103, 101, 114]⟩, .int .i64 3, .string ⟨#[55]⟩, .string ⟨#[]⟩, .string ⟨#[104, 116, 116, 112, 58, 47, 47, 119, 119, 119, 46, 119, 51, 46, 111, 114, 103, 47, 50, 48, 48, 49, 47, 88, 77, 76, 83, 99, 104, 101, 109, 97, 35, 105, 110, 116, 101, 103, 101, 114]⟩] 28)
          have HD := Lib.hid D9
          clear K6 k7 O7 D7 own7 B7 b8 L6 L7 B8 D8 b8' O8 D9
          go_wp2_with (at_builtin; refine wpList_appF rfl rfl Tryz.underlying22 termInfoL rfl (by omega) rfl O9 rfl (alloc_at2 _ _ _ _ (([⟨4, ⟨#[55]⟩, ⟨#[101, 110]⟩, ⟨#[104, 116, 116, 112, 58, 47, 47, 119, 119, 119, 46, 119, 51, 46, 111, 114, 103, 47, 50, 48, 48, 49, 47, 88, 77, 76, 83, 99, 104, 101, 109, 97, 35, 105, 110, 116, 101, 103, 101, 114]⟩⟩, ⟨1, ⟨#[55]⟩, ⟨#[]⟩, ⟨#[104, 116, 116, 112, 58, 47, 47, 119, 119, 119, 46, 119, 51, 46, 111, 114, 103, 47, 50, 48, 48, 49, 47, 88, 77, 76, 83, 99, 104, 101, 109, 97, 35, 105, 110, 116, 101, 103, 101, 114]⟩⟩, ⟨3, ⟨#[55]⟩, ⟨#[]⟩, ⟨#[104, 116, 116, 112, 58, 47, 47, 119, 119, 119, 46, 119, 51, 46, 111, 114, 103, 47, 50, 48, 48, 49, 47, 88, 77, 76, 83, 99, 104, 101, 109, 97, 35, 105, 110, 116, 101, 103, 101, 114]⟩⟩] : List Tm).flatMap tmC) rfl) rfl (by intro u hu; obtain ⟨t, _, ht⟩ := List.mem_flatMap.1 hu; exact tm1 t u ht) (by omega) (by omega) hwx ?_; intro v5 w5 own5 hb5 _ _)
          obtain ⟨A5, c5, rfl, hc5, hr5⟩ := own_slice own5
          go_ret
          exact ⟨_, A5, c5, rfl, hc5, RdTs.flat.2 (by rw [List.flatMap_append]; exact hr5), by simp [hl], (by
            intro t ht
            rcases List.mem_append.1 ht with h | h
            · exact hz t h
            · simp only [List.mem_cons, List.not_mem_nil, or_false] at h
              rcases h with rfl | rfl | rfl <;> (unfold szTu; decide)), HD.out.trans hb5⟩
end Go.Proofs.YtfijpdmkdoccjaaGreatDoor
