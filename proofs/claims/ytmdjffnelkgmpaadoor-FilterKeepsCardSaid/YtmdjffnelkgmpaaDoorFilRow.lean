/- The program's package filter, walked: a kid's term. -/
import Derived.Test.YtmdjffnelkgmpaaDoorTms
import Derived.Test.YtmdjffnelkgmpaaDoorStrs
namespace Go.Proofs.YtmdjffnelkgmpaaDoor
open Go Go.RowKit Fm

theorem ret_none {o : Option Tm} (h : o = none) : optV o = .tuple #[.agg #[.int .i64 0, .string ⟨#[]⟩, .string ⟨#[]⟩, .string ⟨#[]⟩], .bool false] := by subst h; rfl
set_option maxRecDepth 10000 in
set_option maxHeartbeats 1000000 in
theorem filRowOf (vars : List ByteArray) (row : List Tm) (A1 A2 A : Option Addr) (c1 c2 m c : Nat) (k : Int) (s : ByteArray) (t : Tm) (w : World) (hv : vars.length ≤ 281474976710656) (hrl : row.length ≤ 281474976710656) (hm : m ≤ 281474976710656)
    (hr1 : Rd w A1 (vars.map Value.string)) (hr2 : RdTs w A2 row) :
    Calls Tryd.prog 80 #[.agg #[.slice A1 vars.length c1, .slice A2 row.length c2], .agg #[.int .i64 k, .string s, .int .i64 t.k, .string t.x, .string t.l, .string t.y, .slice A m c]] w
      fun e w' => e = .returned (optV (termP vars row k s t (m == 0))) ∧ Below w.heap.size w w' := by
  have hI := fun W h => idxStr vars s A1 c1 W hv h
  have hi := idxOfS_lt vars s
  unfold termP
  generalize Lib.idxOfS vars s = i at *
  obtain ⟨v, hvv⟩ : ∃ v, optV (if (m == 0) = true then (if (k == 2) = true then some t else if (k == 1) = true then (if i < 0 then none else row[i.toNat]?) else none) else none) = v := ⟨_, rfl⟩
  rw [hvv]
  have HV := Lib.hid hvv
  clear hvv
  have hv' : (vars.length : Int) ≤ 281474976710656 := by omega
  have hrl' : (row.length : Int) ≤ 281474976710656 := by omega
  have hm' : (m : Int) ≤ 281474976710656 := by omega
  go_enter Tryd.func80, Tryd.ntmps80
  go_wp2_with fail
  refine (hI _ (hr1.later (by repeat (first | exact Below.refl _ _ | assumption | exact (Below.refl _ _).alloc (Nat.le_refl _) _ | refine below_tr ?_ (by assumption) | refine below_alloc ?_ | refine below_tr ?_ (below_regrown _ _ _))))).mono ?_
  rintro e w1 ⟨rfl, rfl⟩
  by_cases hm0 : 0 < (m : Int)
  · have hb : (m == 0) = false := by simp; omega
    have HB := Lib.hid hb
    clear hb hr1 hI
    go_wp2
    exact bodyPost_ret (v := Value.tuple #[.agg #[.int .i64 0, .string ⟨#[]⟩, .string ⟨#[]⟩, .string ⟨#[]⟩], .bool false]) (by simp [results, Tryd.results80, go_sem]) rfl ⟨by rw [← HV.out, HB.out]; rfl, (by repeat (first | exact Below.refl _ _ | assumption | exact (Below.refl _ _).alloc (Nat.le_refl _) _ | refine below_tr ?_ (by assumption) | refine below_alloc ?_ | refine below_tr ?_ (below_regrown _ _ _)))⟩
  · have hb : (m == 0) = true := by simp; omega
    have HB := Lib.hid hb
    clear hb hI
    by_cases h2 : k = 2
    · subst h2
      go_wp2
      exact bodyPost_ret (v := Value.tuple #[.agg #[.int .i64 t.k, .string t.x, .string t.l, .string t.y], .bool true]) (by simp [results, Tryd.results80, go_sem]) rfl ⟨by rw [← HV.out, HB.out]; rfl, (by repeat (first | exact Below.refl _ _ | assumption | exact (Below.refl _ _).alloc (Nat.le_refl _) _ | refine below_tr ?_ (by assumption) | refine below_alloc ?_ | refine below_tr ?_ (below_regrown _ _ _)))⟩
    · have h2' : (k == 2) = false := by simpa using h2
      by_cases h1 : k = 1
      · subst h1
        by_cases h0 : 0 ≤ i
        · by_cases hlt : i < (row.length : Int)
          · obtain ⟨n, rfl⟩ : ∃ n : Nat, i = n := ⟨i.toNat, by omega⟩
            obtain ⟨u, hu⟩ : ∃ u, row[n]? = some u := ⟨_, List.getElem?_eq_getElem (by omega)⟩
            obtain ⟨g, o, rfl, d0, d1, d2, d3⟩ := (RdTs.later hr2 (w' := ((w.alloc (.cells #[.slice A1 vars.length c1, .slice A2 row.length c2] 95)).alloc (.cells #[.int .i64 1, .string s, .int .i64 t.k, .string t.x, .string t.l, .string t.y, .slice A m c] 49)).alloc (.cells #[.int .i64 0, .string ⟨#[]⟩, .string ⟨#[]⟩, .string ⟨#[]⟩] 30)) (by repeat (first | exact Below.refl _ _ | assumption | exact (Below.refl _ _).alloc (Nat.le_refl _) _ | refine below_tr ?_ (by assumption) | refine below_alloc ?_ | refine below_tr ?_ (below_regrown _ _ _)))).at4 hu
            clear hr1 hr2
            have Hu := Lib.hid hu
            have hn0 : ¬ ((n : Int) < 0) := by omega
            clear hu
            go_wp2
            exact bodyPost_ret (v := Value.tuple #[.agg #[.int .i64 u.k, .string u.x, .string u.l, .string u.y], .bool true]) (by simp [results, Tryd.results80, go_sem]) rfl ⟨by rw [← HV.out, HB.out]; simp [optV, tmV, Hu.out]; rw [if_neg (by omega)]; exact ⟨rfl, rfl, rfl, rfl⟩, (by repeat (first | exact Below.refl _ _ | assumption | exact (Below.refl _ _).alloc (Nat.le_refl _) _ | refine below_tr ?_ (by assumption) | refine below_alloc ?_ | refine below_tr ?_ (below_regrown _ _ _)))⟩
          · go_wp2
            exact bodyPost_ret (v := Value.tuple #[.agg #[.int .i64 0, .string ⟨#[]⟩, .string ⟨#[]⟩, .string ⟨#[]⟩], .bool false]) (by simp [results, Tryd.results80, go_sem]) rfl ⟨by rw [← HV.out, HB.out, ret_none (by simp; omega)], (by repeat (first | exact Below.refl _ _ | assumption | exact (Below.refl _ _).alloc (Nat.le_refl _) _ | refine below_tr ?_ (by assumption) | refine below_alloc ?_ | refine below_tr ?_ (below_regrown _ _ _)))⟩
        · go_wp2
          exact bodyPost_ret (v := Value.tuple #[.agg #[.int .i64 0, .string ⟨#[]⟩, .string ⟨#[]⟩, .string ⟨#[]⟩], .bool false]) (by simp [results, Tryd.results80, go_sem]) rfl ⟨by rw [← HV.out, HB.out, ret_none (by simp; omega)], (by repeat (first | exact Below.refl _ _ | assumption | exact (Below.refl _ _).alloc (Nat.le_refl _) _ | refine below_tr ?_ (by assumption) | refine below_alloc ?_ | refine below_tr ?_ (below_regrown _ _ _)))⟩
      · have h1' : (k == 1) = false := by simpa using h1
        go_wp2
        exact bodyPost_ret (v := Value.tuple #[.agg #[.int .i64 0, .string ⟨#[]⟩, .string ⟨#[]⟩, .string ⟨#[]⟩], .bool false]) (by simp [results, Tryd.results80, go_sem]) rfl ⟨by rw [← HV.out, HB.out]; simp [optV, tmV, zTm, h2, h1], (by repeat (first | exact Below.refl _ _ | assumption | exact (Below.refl _ _).alloc (Nat.le_refl _) _ | refine below_tr ?_ (by assumption) | refine below_alloc ?_ | refine below_tr ?_ (below_regrown _ _ _)))⟩
end Go.Proofs.YtmdjffnelkgmpaaDoor
