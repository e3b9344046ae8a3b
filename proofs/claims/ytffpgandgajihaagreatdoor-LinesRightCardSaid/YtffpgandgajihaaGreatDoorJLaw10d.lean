/- Layer 10's law LinesRight, walked. -/
import Derived.Test.YtffpgandgajihaaGreatDoorJLaw10a
import Derived.Test.YtffpgandgajihaaGreatDoorJSameTp
import Derived.Test.YtffpgandgajihaaGreatDoorJR8g
namespace Go.Proofs.YtffpgandgajihaaGreatDoor
open Go Go.RowKit Um Fm Lx Tx

theorem okR_take {rows : List (List UInt8)} {k : Nat} {r : List UInt8} (hr : rows[k]? = some r) : okR (rows.take (k + 1)) = okR (rows.take k) ++ (if (rowT r).2.1 = true then [(rowT r).1] else []) := by
  rw [List.take_add_one, hr, okR_app]
  congr 1
  simp [okR]
theorem okR_at {rows : List (List UInt8)} {k : Nat} {r : List UInt8} (hr : rows[k]? = some r) (h : (rowT r).2.1 = true) : (okR rows)[(okR (rows.take k)).length]? = some (rowT r).1 := by
  have e : rows = rows.take (k + 1) ++ rows.drop (k + 1) := (List.take_append_drop _ _).symm
  conv => lhs; arg 1; rw [e]
  rw [okR_app, okR_take hr, if_pos h, List.append_assoc, List.getElem?_append_right (Nat.le_refl _), Nat.sub_self]
  rfl
theorem okR_full (rows : List (List UInt8)) : okR (rows.take rows.length) = okR rows := by rw [List.take_length]
theorem okR_len (rows : List (List UInt8)) : (okR rows).length ≤ rows.length := by
  induction rows with
  | nil => exact Nat.le_refl _
  | cons r t ih =>
    have e : okR (r :: t) = (if (rowT r).2.1 = true then [(rowT r).1] else []) ++ okR t := by unfold okR; rw [List.flatMap_cons]
    rw [e, List.length_append, List.length_cons]
    split
    · simp; omega
    · simp; omega
set_option maxRecDepth 20000 in
set_option maxHeartbeats 16000000 in
theorem right_no (s : ByteArray) (w : World) (hC : CtxA w) (hs : s.size ≤ 10000) (he : (parL s.data.toList).2.2.2 ≠ 0) : Calls Tryz.prog 3 #[.string s] w fun e w' => e = .returned (.bool true) ∧ Below w.heap.size w w' := by
  have ha := lawAwake10 w hC
  have HC := Lib.hid hC
  have hd1 : decide ((10000 : Int) < s.size) = false := by simp; omega
  obtain ⟨i, r, m, h1, h2, h3, h4, h5⟩ := right_bad (l := s.data.toList) (by rw [size_toList]; omega) he
  have hps := fun W (hW : CtxA W) => linesParse s W hW.l hW.t (by omega)
  have hpq := fun (q : ByteArray) (hq : q.size ≤ 100000) W (hW : CtxA W) => linesParse q W hW.l hW.t hq
  have hsp := fun W (hW : CtxA W) => linesSplit s W hW.1.1 (by omega)
  have hrs : ∀ a ∈ splitL s.data.toList, a.length ≤ 10000 := fun a ha => by have := (split_size s.data.toList).2 a ha; rw [size_toList] at this; omega
  have hrl := (split_size s.data.toList).1
  rw [size_toList] at hrl
  unfold ParseR at hps hpq
  unfold SplitR at hsp
  generalize (parL s.data.toList).2.2.2 = er at he h2 h4 h5
  rw [h2] at hps
  simp only [List.length_nil, List.flatMap_nil] at hps
  have he' : (er == (0 : Int)) = false := by simpa using he
  have hi : i < (splitL s.data.toList).length := (List.getElem?_eq_some_iff.1 h1).1
  have hrz := hrs r (List.mem_of_getElem? h1)
  have hpr := fun W (hW : CtxA W) => hpq (mkS r) (by rw [mkS_size]; omega) W hW
  rw [mkS_data, h4] at hpr
  simp only [List.length_nil, List.flatMap_nil] at hpr
  have hsz : (mkS r).size = r.length := mkS_size r
  have hcell : ((splitL s.data.toList).map fun r => Value.string (mkS r))[i]? = some (.string (mkS r)) := by rw [List.getElem?_map, h1]; rfl
  have Hq : Hid (∀ j q, j < i → (splitL s.data.toList)[j]? = some q → (parL q).2.2.2 = 0 ∨ (er ≠ 3 ∧ (parL q).2.2.2 = 3)) := h5
  have Hrs := Lib.hid hrs
  have Hpq := Lib.hid hpq
  clear h1 h2 h4 h5 hC he hrs hpq
  generalize mkS r = sr at *
  generalize splitL s.data.toList = rows at *
  obtain ⟨R, hR⟩ : ∃ R, rows.length = R := ⟨_, rfl⟩
  rw [hR] at hi hrl hsp
  have HR := Lib.hid hR
  clear hR
  have g1 : decide (((i + 1 : Nat) : Int) < 1) = false := by simp; omega
  have g2 : decide ((R : Int) < ((i + 1 : Nat) : Int)) = false := by simp; omega
  have g3 : decide ((m : Int) < 0) = false := by simp
  have g4 : decide ((sr.size : Int) < (m : Int)) = false := by simp; omega
  go_enter Tryz.func3, Tryz.ntmps3
  go_wp2_with fail
  refine ha.mono ?_
  rintro e w1 ⟨rfl, hb1⟩
  have HC1 := Lib.hid (HC.out.step hb1)
  have HB1 := Lib.hid hb1
  clear hb1 ha
  go_wp2_with fail
  refine (hps w1 HC1.out).mono ?_
  rintro e w2 ⟨v2, rfl, own2, hb2⟩
  obtain ⟨A2, c2, rfl, hc2, -⟩ := own_slice own2
  have HC2 := Lib.hid (HC1.out.step hb2)
  have HB2 := Lib.hid (below_tr HB1.out hb2)
  clear own2 hb2 hps
  go_wp2_with fail
  refine (hsp w2 HC2.out).mono ?_
  rintro e w3 ⟨v3, rfl, own3, hb3⟩
  obtain ⟨A3, c3, rfl, hc3, r3⟩ := own_slice own3
  have HC3 := Lib.hid (HC2.out.step hb3)
  have HB3 := Lib.hid (below_tr HB2.out hb3)
  obtain ⟨ga, oa, rfl, a0⟩ := r3.at_ hcell
  have HR3 := Lib.hid r3
  clear own3 hb3 hsp hcell r3
  go_wp2_with fail
  refine (hpr w3 HC3.out).mono ?_
  rintro e w4 ⟨v4, rfl, own4, hb4⟩
  obtain ⟨A4, c4, rfl, hc4, -⟩ := own_slice own4
  have HC4 := Lib.hid (HC3.out.step hb4)
  have HB4 := Lib.hid (below_tr HB3.out hb4)
  have HR4 := Lib.hid (HR3.out.later hb4)
  clear own4 hb4 hpr a0 g1 g2 g3 g4
  go_wp2
  go_loopw [12] (fun j wr => ∃ k : Nat, k ≤ i ∧ j = .int .i64 k ∧ Below w4.heap.size w4 wr) (fun j _ => i - (intOf j).toNat)
  case atStart => exact ⟨0, by omega, rfl, Below.refl _ _⟩
  case round =>
    obtain ⟨k, hk, rfl, hB⟩ := hrel
    by_cases hlt : k < i
    · have hd1 : decide (k < i) = true := by simp; omega
      obtain ⟨q, hq⟩ : ∃ q, rows[k]? = some q := ⟨_, List.getElem?_eq_getElem (by rw [HR.out]; omega)⟩
      obtain ⟨ga', oa', he2, a0⟩ := (HR4.out.later hB).at_ (j := k) (u := .string (mkS q)) (by rw [List.getElem?_map, hq]; rfl)
      injection he2 with he2; injection he2 with h5 h6; subst h5; subst h6
      have hqz := Hrs.out q (List.mem_of_getElem? hq)
      have hpk := Hpq.out (mkS q) (by rw [mkS_size]; omega) wr (HC4.out.step hB)
      have hg := Hq.out k q hlt hq
      rw [mkS_data] at hpk
      generalize parL q = pq at *
      obtain ⟨x, n2, m2, e2⟩ := pq
      simp only at hpk hg
      generalize mkS q = sq at *
      have HBr := Lib.hid hB
      clear hB hq
      rcases hg with rfl | ⟨h3', rfl⟩
      · go_wp2_with fail
        refine hpk.mono ?_
        rintro e w5 ⟨v5, rfl, own5, hb5⟩
        obtain ⟨A5, c5, rfl, hc5, -⟩ := own_slice own5
        have HB5 := Lib.hid (HBr.out.trans (hb5.mono HBr.out.size))
        clear own5 hb5 hpk
        go_wp2
        go_roundw
        case rel => exact ⟨k + 1, by omega, by go_num, HB5.out.os, HB5.out.tape, HB5.out.output, HB5.out.size, HB5.out.block⟩
        case measure => simp [intOf]; omega
      · have h3'' : (er == (3 : Int)) = false := by simpa using h3'
        go_wp2_with fail
        refine hpk.mono ?_
        rintro e w5 ⟨v5, rfl, own5, hb5⟩
        obtain ⟨A5, c5, rfl, hc5, -⟩ := own_slice own5
        have HB5 := Lib.hid (HBr.out.trans (hb5.mono HBr.out.size))
        clear own5 hb5 hpk h3'
        go_wp2
        go_roundw
        case rel => exact ⟨k + 1, by omega, by go_num, HB5.out.os, HB5.out.tape, HB5.out.output, HB5.out.size, HB5.out.block⟩
        case measure => simp [intOf]; omega
    · have hd1 : decide (k < i) = false := by simp; omega
      have HBr := Lib.hid (below_tr HB4.out hB)
      clear hB
      go_wp2
      go_ret
      exact ⟨rfl, HBr.out⟩
set_option maxRecDepth 20000 in
set_option maxHeartbeats 16000000 in
theorem right_yes (s : ByteArray) (w : World) (hC : CtxA w) (hs : s.size ≤ 10000) (he : (parL s.data.toList).2.2.2 = 0) : Calls Tryz.prog 3 #[.string s] w fun e w' => e = .returned (.bool true) ∧ Below w.heap.size w w' := by
  have ha := lawAwake10 w hC
  have HC := Lib.hid hC
  have hd1 : decide ((10000 : Int) < s.size) = false := by simp; omega
  obtain ⟨hf, hpa⟩ := par_ok he
  have hps := fun W (hW : CtxA W) => linesParse s W hW.l hW.t (by omega)
  have hlx := fun (q : ByteArray) (hq : q.size ≤ 1000000) W (hW : CtxA W) => lexLineS q W hW.l hq
  have hsp := fun W (hW : CtxA W) => linesSplit s W hW.1.1 (by omega)
  have hrs : ∀ a ∈ splitL s.data.toList, a.length ≤ 10000 := fun a ha => by have := (split_size s.data.toList).2 a ha; rw [size_toList] at this; omega
  have hrl := (split_size s.data.toList).1
  rw [size_toList] at hrl
  unfold ParseR at hps
  unfold SplitR at hsp
  unfold LineS at hlx
  rw [hpa] at hps
  simp only at hps
  have Hf := Lib.hid hf
  have Hrs := Lib.hid hrs
  have Hlx := Lib.hid hlx
  clear hC he hrs hlx hf hpa
  generalize splitL s.data.toList = rows at *
  have hNR := okR_len rows
  obtain ⟨R, hR⟩ : ∃ R, rows.length = R := ⟨_, rfl⟩
  obtain ⟨N, hN⟩ : ∃ N, (okR rows).length = N := ⟨_, rfl⟩
  rw [hR] at hrl hsp hNR
  simp only [hN] at hps hNR
  have HR := Lib.hid hR
  have HN := Lib.hid hN
  clear hR hN
  go_enter Tryz.func3, Tryz.ntmps3
  go_wp2_with fail
  refine ha.mono ?_
  rintro e w1 ⟨rfl, hb1⟩
  have HC1 := Lib.hid (HC.out.step hb1)
  have HB1 := Lib.hid hb1
  clear hb1 ha
  go_wp2_with fail
  refine (hps w1 HC1.out).mono ?_
  rintro e w2 ⟨v2, rfl, own2, hb2⟩
  obtain ⟨A2, c2, rfl, hc2, r2⟩ := own_slice own2
  have HC2 := Lib.hid (HC1.out.step hb2)
  have HB2 := Lib.hid (below_tr HB1.out hb2)
  clear own2 hb2 hps
  go_wp2_with fail
  refine (hsp w2 HC2.out).mono ?_
  rintro e w3 ⟨v3, rfl, own3, hb3⟩
  obtain ⟨A3, c3, rfl, hc3, r3⟩ := own_slice own3
  have HC3 := Lib.hid (HC2.out.step hb3)
  have HB3 := Lib.hid (below_tr HB2.out hb3)
  have HR2 := Lib.hid (r2.later hb3)
  have HR3 := Lib.hid r3
  clear own3 hb3 hsp r3 r2
  go_wp2
  go_loopw [17, 18] (fun n j wr => ∃ k : Nat, k ≤ R ∧ j = .int .i64 k ∧ n = .int .i64 ((okR (rows.take k)).length : Nat) ∧ Below w3.heap.size w3 wr) (fun _ j _ => R - (intOf j).toNat)
  case atStart => exact ⟨0, by omega, rfl, rfl, Below.refl _ _⟩
  case round =>
    obtain ⟨k, hk, rfl, rfl, hB⟩ := hrel
    by_cases hlt : k < R
    · have hd2 : decide (k < R) = true := by simp; omega
      obtain ⟨r, hr⟩ : ∃ r, rows[k]? = some r := ⟨_, List.getElem?_eq_getElem (by rw [HR.out]; omega)⟩
      obtain ⟨ga, oa, rfl, a0⟩ := (HR3.out.later hB).at_ (j := k) (u := .string (mkS r)) (by rw [List.getElem?_map, hr]; rfl)
      have hrz := Hrs.out r (List.mem_of_getElem? hr)
      have hlx := Hlx.out (mkS r) (by rw [mkS_size]; omega) wr (HC3.out.step hB)
      rw [mkS_data] at hlx
      have hfr := Hf.out r (List.mem_of_getElem? hr)
      obtain ⟨g1, g2, g3⟩ := row_good (r := r) (by omega) hfr.1
      have hst := okR_take hr
      have hat := okR_at (rows := rows) hr
      have hsm := rowT_small (l := r) (by omega)
      have hsh := obj_shown hfr
      generalize mkS r = sr at *
      generalize lineL r = ln at *
      obtain ⟨tk, p, f⟩ := ln
      simp only at hlx g1 g2 g3
      subst g1
      obtain ⟨c, hc⟩ : ∃ c, (okR (rows.take k)).length = c := ⟨_, rfl⟩
      rw [hc] at hat ⊢
      by_cases htk : tk = []
      · have hno := g2 htk
        subst htk
        have Hst : Hid ((okR (rows.take (k + 1))).length = c) := by show _ = _; rw [hst, hno, if_neg (by simp), List.append_nil, hc]
        have HBr := Lib.hid hB
        clear g2 g3 hat hsh hst hsm hno hfr hr hrz hB hc
        simp only [List.length_nil] at hlx
        go_wp2_with fail
        refine hlx.mono ?_
        rintro e w5 ⟨A5, c5, rfl, hc5, -, hb5⟩
        have HB5 := Lib.hid (HBr.out.trans (hb5.mono HBr.out.size))
        clear hb5 hlx
        go_wp2
        go_roundw
        case rel => exact ⟨k + 1, by omega, by go_num, by rw [Hst.out], HB5.out.os, HB5.out.tape, HB5.out.output, HB5.out.size, HB5.out.block⟩
        case measure => simp [intOf]; omega
      · obtain ⟨hok, htb, c', hcl, hcnt⟩ := g3 htk
        have hshow := hsh hok htb
        have hget := hat hok
        have hcN : c < N := by rw [← HN.out]; exact (List.getElem?_eq_some_iff.1 hget).1
        have hd3 : decide (N ≤ c) = false := by simp; omega
        have Hst : Hid ((okR (rows.take (k + 1))).length = c + 1) := by show _ = _; rw [hst, hok, if_pos rfl, List.length_append, hc]; rfl
        generalize (rowT r).1 = t at *
        obtain ⟨L, hL⟩ : ∃ L, tk.length = L := ⟨_, rfl⟩
        simp only [hL] at hlx hcl
        have hcase : ((t.o.k == (3 : Int)) = true ∧ emptyB t.o.l = false ∧ L = 5) ∨ ((t.o.k == (3 : Int)) = false ∧ (t.o.k == (4 : Int)) = true ∧ L = 6) ∨
            ((t.o.k == (3 : Int)) = true ∧ emptyB t.o.l = true ∧ (t.o.k == (4 : Int)) = false ∧ L = 4) ∨ ((t.o.k == (3 : Int)) = true ∧ emptyB t.o.l = true ∧ (t.o.k == (4 : Int)) = false ∧ L = 6) ∨
            ((t.o.k == (3 : Int)) = false ∧ (t.o.k == (4 : Int)) = false ∧ L = 4) ∨ ((t.o.k == (3 : Int)) = false ∧ (t.o.k == (4 : Int)) = false ∧ L = 6) := by
          obtain ⟨x1, x2, x3⟩ := hcnt
          by_cases k3 : t.o.k = 3
          · have e3 : (t.o.k == (3 : Int)) = true := by simpa using k3
            have e4 : (t.o.k == (4 : Int)) = false := by rw [k3]; rfl
            cases em : emptyB t.o.l
            · have h0 : t.o.l.size ≠ 0 := fun e => by
                have : t.o.l.data.toList = [] := List.eq_nil_of_length_eq_zero (by rw [size_toList]; exact e)
                rw [(empty_iff _).2 this] at em; cases em
              exact .inl ⟨e3, rfl, by have := x1 ⟨k3, h0⟩; omega⟩
            · have h0 : ¬ (t.o.k = 3 ∧ t.o.l.size ≠ 0) := fun e => e.2 (by rw [← size_toList, (empty_iff _).1 em]; rfl)
              rcases x3 h0 (by rw [k3]; decide) with x | x
              · exact .inr (.inr (.inl ⟨e3, rfl, e4, by omega⟩))
              · exact .inr (.inr (.inr (.inl ⟨e3, rfl, e4, by omega⟩)))
          · have e3 : (t.o.k == (3 : Int)) = false := by simpa using k3
            have h0 : ¬ (t.o.k = 3 ∧ t.o.l.size ≠ 0) := fun e => k3 e.1
            by_cases k4 : t.o.k = 4
            · have e4 : (t.o.k == (4 : Int)) = true := by simpa using k4
              exact .inr (.inl ⟨e3, e4, by have := x2 k4; omega⟩)
            · have e4 : (t.o.k == (4 : Int)) = false := by simpa using k4
              rcases x3 h0 k4 with x | x
              · exact .inr (.inr (.inr (.inr (.inl ⟨e3, e4, by omega⟩))))
              · exact .inr (.inr (.inr (.inr (.inr ⟨e3, e4, by omega⟩))))
        have hgt := fun W (hW : CtxA W) => termTriple t W hW.t hsm
        rw [htb] at hgt
        have hgs := fun W (hW : CtxA W) => termShow t.o W hW.t hsm.2.2
        rw [hshow] at hgs
        have HBr := Lib.hid hB
        have Hget := Lib.hid hget
        clear g2 g3 hat hsh hst hsm hok htb hfr hr hrz hB hc hget hcnt hcl hshow
        unfold emptyB at hcase
        have hL' := Lib.hid hL
        clear hL
        rcases hcase with ⟨q1, q2, rfl⟩ | ⟨q1, q2, rfl⟩ | ⟨q1, q2, q3, rfl⟩ | ⟨q1, q2, q3, rfl⟩ | ⟨q1, q2, rfl⟩ | ⟨q1, q2, rfl⟩
        all_goals
          go_wp2_with fail
          refine hlx.mono ?_
          rintro e w5 ⟨A5, c5, rfl, hc5, -, hb5⟩
          have HC5 := Lib.hid ((HC3.out.step HBr.out).step hb5)
          have HB5 := Lib.hid (HBr.out.trans (hb5.mono HBr.out.size))
          obtain ⟨gb, ob, rfl, b0, b1, b2, b3, b4, b5, b6, b7, b8, b9, b10, b11⟩ := rd_at12 (HR2.out.later HB5.out) Hget.out
          clear hb5 hlx
          go_wp2_with fail
          refine (hgt w5 HC5.out).mono ?_
          rintro e w6 ⟨rfl, hb6⟩
          have HC6 := Lib.hid (HC5.out.step hb6)
          have HB6 := Lib.hid (HB5.out.trans (hb6.mono HB5.out.size))
          clear hb6 hgt b0 b1 b2 b3 b4 b5 b6 b7 b8 b9 b10 b11
          obtain ⟨gc, oc, he2, b0, b1, b2, b3, b4, b5, b6, b7, b8, b9, b10, b11⟩ := rd_at12 (HR2.out.later HB6.out) Hget.out
          injection he2 with he2; injection he2 with h5 h6; subst h5; subst h6
          go_wp2_with fail
          refine (hgs w6 HC6.out).mono ?_
          rintro e w7 ⟨rfl, hb7⟩
          have HB7 := Lib.hid (HB6.out.trans (hb7.mono HB6.out.size))
          clear hb7 hgs b0 b1 b2 b3 b4 b5 b6 b7 b8 b9 b10 b11
          go_wp2
          go_roundw
          case rel => exact ⟨k + 1, by omega, by go_num, by rw [Hst.out]; go_num, HB7.out.os, HB7.out.tape, HB7.out.output, HB7.out.size, HB7.out.block⟩
          case measure => simp [intOf]; omega
    · have hd2 : decide (k < R) = false := by simp; omega
      obtain rfl : k = R := by omega
      have hfull : (okR (rows.take k)).length = N := by rw [← HR.out, okR_full, HN.out]
      rw [hfull]
      have HBr := Lib.hid (below_tr HB3.out hB)
      clear hB hfull
      go_wp2
      go_ret
      exact ⟨by simp, HBr.out⟩
set_option maxRecDepth 20000 in
theorem lawLinesRight (s : ByteArray) (w : World) (hC : CtxA w) (_hz : s.size ≤ 281474976710656) : Calls Tryz.prog 3 #[.string s] w fun e w' => e = .returned (.bool true) ∧ Below w.heap.size w w' := by
  by_cases h : 10000 < s.size
  · have hA := lawAwake10 w hC
    have hd : decide (10000 < s.size) = true := decide_eq_true h
    clear hC
    go_enter Tryz.func3, Tryz.ntmps3
    go_wp2_with fail
    refine hA.mono ?_
    rintro e w1 ⟨rfl, b1⟩
    have HB1 := Lib.hid b1
    clear b1
    go_wp2
    go_ret
    exact ⟨rfl, HB1.out⟩
  · by_cases he : (parL s.data.toList).2.2.2 = 0
    · exact right_yes s w hC (by omega) he
    · exact right_no s w hC (by omega) he
end Go.Proofs.YtffpgandgajihaaGreatDoor
