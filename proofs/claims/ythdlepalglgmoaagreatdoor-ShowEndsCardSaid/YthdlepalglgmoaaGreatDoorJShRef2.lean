/- The answer's Set. -/
import Derived.Test.YthdlepalglgmoaaGreatDoorJShSub
import Derived.Test.YthdlepalglgmoaaGreatDoorJShSet2
import Derived.Test.YthdlepalglgmoaaGreatDoorJR8e
import Derived.Test.YthdlepalglgmoaaGreatDoorJMem
import Derived.Deep.CutRange
namespace Go.Proofs.YthdlepalglgmoaaGreatDoor
open Go Go.RowKit Um Fm Lx Tx

/-- The loop's way to a place. -/
def Ahead (out : List Tp) (t : Tp) (q : Nat) : Prop := ∀ j x, j < q → out[j]? = some x → cmpTp x t < 0
theorem Ahead.next {out : List Tp} {t x : Tp} {q : Nat} (h : Ahead out t q) (hx : out[q]? = some x) (hc : cmpTp x t < 0) : Ahead out t (q + 1) := by
  intro j y hj hy
  rcases Nat.lt_or_ge j q with h1 | h1
  · exact h j y h1 hy
  · obtain rfl : j = q := by omega
    rw [hx] at hy; injection hy with hy; subst hy; exact hc
theorem rest_flat (t : Tp) (out : List Tp) (q : Nat) : tpL t ++ (out.drop q).flatMap tpL = (t :: out.drop q).flatMap tpL := by rw [List.flatMap_cons]
theorem put_flat (t : Tp) (out : List Tp) (q : Nat) : (out.take q).flatMap tpL ++ (t :: out.drop q).flatMap tpL = (out.take q ++ t :: out.drop q).flatMap tpL := by rw [List.flatMap_append]
set_option maxRecDepth 20000 in
set_option maxHeartbeats 16000000 in
theorem refSet11 (l : List Tp) (A : Option Addr) (c : Nat) (w : World) (hr : Rd w A (l.flatMap tpL)) (hz : ∀ t ∈ l, smallP t) (hl : l.length ≤ 1000) : Calls Tryz.prog 20 #[.slice A l.length c] w (SetR l w) := by
  have hR9 : ∀ e w', SetR l w e w' → SetR l w e w' := fun _ _ h => h
  obtain ⟨N, hN⟩ : ∃ N, l.length = N := ⟨_, rfl⟩
  have HN := Lib.hid hN
  have HR := Lib.hid hr
  have Hz := Lib.hid hz
  rw [hN] at hl ⊢
  clear hN hr hz
  go_enter Tryz.func20, Tryz.ntmps20
  go_wp2
  go_loopw [3, 4] (fun v i wr => ∃ (k M : Nat) (out : List Tp), k ≤ N ∧ i = .int .i64 k ∧ M ≤ k ∧ Hid (out.length = M) ∧ Hid (out = setTp (l.take k)) ∧ wr.ownsRow w.heap.size 29 12 v M (out.flatMap tpL) ∧ Below w.heap.size w wr) (fun _ i _ => N - (intOf i).toNat)
  case atStart => exact ⟨0, 0, [], by omega, rfl, by omega, rfl, rfl, World.ownsRow_nil _ _ _ _, Below.refl _ _⟩
  case round =>
    obtain ⟨k, M, out, hk, rfl, hMk, HM, HO, own, hB⟩ := hrel
    have HB := Lib.hid hB
    have Own := Lib.hid own
    obtain ⟨A3, c3, rfl, hc3, hR3⟩ := own_slice own
    by_cases hlt : k < N
    · have hd1 : decide (k < N) = true := by simp; omega
      obtain ⟨t, ht⟩ : ∃ t, l[k]? = some t := ⟨_, List.getElem?_eq_getElem (by rw [HN.out]; exact hlt)⟩
      have hts := Hz.out t (List.mem_of_getElem? ht)
      have HR1 := Lib.hid (HR.out.later hB)
      have HR3 := Lib.hid hR3
      have Ht := Lib.hid ht
      have HI : Hid (insTp out t = setTp (l.take (k + 1))) := by show _ = _; rw [take_snoc_of ht, set_snoc, HO.out]
      have HZo : Hid (∀ x ∈ out, smallP x) := fun x hx => by
        rw [HO.out, set_mem] at hx
        exact Hz.out x (List.mem_of_mem_take hx)
      clear own hB hR3 ht
      go_wp2
      obtain ⟨wk, rfl⟩ : ∃ wk, wk = wr := ⟨_, rfl⟩
      go_loopw [5] (fun j wx => ∃ q : Nat, q ≤ M ∧ j = .int .i64 q ∧ Hid (Ahead out t q) ∧ Below wk.heap.size wk wx) (fun j _ => M - (intOf j).toNat)
      case atStart => exact ⟨0, by omega, rfl, (fun j x hj => by omega), Below.refl _ _⟩
      case round =>
        obtain ⟨q, hq, rfl, HA, hB2⟩ := hrel
        have HB2 := Lib.hid hB2
        by_cases hlt2 : q < M
        · have hd2 : decide (q < M) = true := by simp; omega
          obtain ⟨x, hx⟩ : ∃ x, out[q]? = some x := ⟨_, List.getElem?_eq_getElem (by rw [HM.out]; exact hlt2)⟩
          have hcm := fun W => r08Triples x t W (HZo.out x (List.mem_of_getElem? hx)) hts
          have Hx := Lib.hid hx
          obtain ⟨g3, o3, hA3, b0, b1, b2, b3, b4, b5, b6, b7, b8, b9, b10, b11⟩ := rd_at12 (HR3.out.later hB2) hx
          subst hA3
          obtain ⟨gl, ol, hAl, a0, a1, a2, a3, a4, a5, a6, a7, a8, a9, a10, a11⟩ := rd_at12 (HR1.out.later hB2) Ht.out
          subst hAl
          have x0 : ∀ d os, (Sort.grow (redrawn wr d) os).cell? ⟨g3, o3 + q * 12, none⟩ = some (.int .i64 x.s.k) := fun d os => cell_on b0 (below_regrown wr d os)
          have x1 : ∀ d os, (Sort.grow (redrawn wr d) os).cell? ⟨g3, o3 + q * 12 + 1, none⟩ = some (.string x.s.x) := fun d os => cell_on b1 (below_regrown wr d os)
          have x2 : ∀ d os, (Sort.grow (redrawn wr d) os).cell? ⟨g3, o3 + q * 12 + 2, none⟩ = some (.string x.s.l) := fun d os => cell_on b2 (below_regrown wr d os)
          have x3 : ∀ d os, (Sort.grow (redrawn wr d) os).cell? ⟨g3, o3 + q * 12 + 3, none⟩ = some (.string x.s.y) := fun d os => cell_on b3 (below_regrown wr d os)
          have x4 : ∀ d os, (Sort.grow (redrawn wr d) os).cell? ⟨g3, o3 + q * 12 + 4, none⟩ = some (.int .i64 x.p.k) := fun d os => cell_on b4 (below_regrown wr d os)
          have x5 : ∀ d os, (Sort.grow (redrawn wr d) os).cell? ⟨g3, o3 + q * 12 + 5, none⟩ = some (.string x.p.x) := fun d os => cell_on b5 (below_regrown wr d os)
          have x6 : ∀ d os, (Sort.grow (redrawn wr d) os).cell? ⟨g3, o3 + q * 12 + 6, none⟩ = some (.string x.p.l) := fun d os => cell_on b6 (below_regrown wr d os)
          have x7 : ∀ d os, (Sort.grow (redrawn wr d) os).cell? ⟨g3, o3 + q * 12 + 7, none⟩ = some (.string x.p.y) := fun d os => cell_on b7 (below_regrown wr d os)
          have x8 : ∀ d os, (Sort.grow (redrawn wr d) os).cell? ⟨g3, o3 + q * 12 + 8, none⟩ = some (.int .i64 x.o.k) := fun d os => cell_on b8 (below_regrown wr d os)
          have x9 : ∀ d os, (Sort.grow (redrawn wr d) os).cell? ⟨g3, o3 + q * 12 + 9, none⟩ = some (.string x.o.x) := fun d os => cell_on b9 (below_regrown wr d os)
          have x10 : ∀ d os, (Sort.grow (redrawn wr d) os).cell? ⟨g3, o3 + q * 12 + 10, none⟩ = some (.string x.o.l) := fun d os => cell_on b10 (below_regrown wr d os)
          have x11 : ∀ d os, (Sort.grow (redrawn wr d) os).cell? ⟨g3, o3 + q * 12 + 11, none⟩ = some (.string x.o.y) := fun d os => cell_on b11 (below_regrown wr d os)
          have y0 : ∀ d os, (Sort.grow (redrawn wr d) os).cell? ⟨gl, ol + k * 12, none⟩ = some (.int .i64 t.s.k) := fun d os => cell_on a0 (below_regrown wr d os)
          have y1 : ∀ d os, (Sort.grow (redrawn wr d) os).cell? ⟨gl, ol + k * 12 + 1, none⟩ = some (.string t.s.x) := fun d os => cell_on a1 (below_regrown wr d os)
          have y2 : ∀ d os, (Sort.grow (redrawn wr d) os).cell? ⟨gl, ol + k * 12 + 2, none⟩ = some (.string t.s.l) := fun d os => cell_on a2 (below_regrown wr d os)
          have y3 : ∀ d os, (Sort.grow (redrawn wr d) os).cell? ⟨gl, ol + k * 12 + 3, none⟩ = some (.string t.s.y) := fun d os => cell_on a3 (below_regrown wr d os)
          have y4 : ∀ d os, (Sort.grow (redrawn wr d) os).cell? ⟨gl, ol + k * 12 + 4, none⟩ = some (.int .i64 t.p.k) := fun d os => cell_on a4 (below_regrown wr d os)
          have y5 : ∀ d os, (Sort.grow (redrawn wr d) os).cell? ⟨gl, ol + k * 12 + 5, none⟩ = some (.string t.p.x) := fun d os => cell_on a5 (below_regrown wr d os)
          have y6 : ∀ d os, (Sort.grow (redrawn wr d) os).cell? ⟨gl, ol + k * 12 + 6, none⟩ = some (.string t.p.l) := fun d os => cell_on a6 (below_regrown wr d os)
          have y7 : ∀ d os, (Sort.grow (redrawn wr d) os).cell? ⟨gl, ol + k * 12 + 7, none⟩ = some (.string t.p.y) := fun d os => cell_on a7 (below_regrown wr d os)
          have y8 : ∀ d os, (Sort.grow (redrawn wr d) os).cell? ⟨gl, ol + k * 12 + 8, none⟩ = some (.int .i64 t.o.k) := fun d os => cell_on a8 (below_regrown wr d os)
          have y9 : ∀ d os, (Sort.grow (redrawn wr d) os).cell? ⟨gl, ol + k * 12 + 9, none⟩ = some (.string t.o.x) := fun d os => cell_on a9 (below_regrown wr d os)
          have y10 : ∀ d os, (Sort.grow (redrawn wr d) os).cell? ⟨gl, ol + k * 12 + 10, none⟩ = some (.string t.o.l) := fun d os => cell_on a10 (below_regrown wr d os)
          have y11 : ∀ d os, (Sort.grow (redrawn wr d) os).cell? ⟨gl, ol + k * 12 + 11, none⟩ = some (.string t.o.y) := fun d os => cell_on a11 (below_regrown wr d os)
          clear hx hB2 b0 b1 b2 b3 b4 b5 b6 b7 b8 b9 b10 b11 a0 a1 a2 a3 a4 a5 a6 a7 a8 a9 a10 a11
          by_cases hn : cmpTp x t < 0
          · have HA2 : Hid (Ahead out t (q + 1)) := HA.out.next Hx.out hn
            generalize cmpTp x t = n at *
            have hd3 : decide (n < 0) = true := by simp; omega
            go_wp2
            refine wp_region_quiet_below (by kernel_rfl) (by kernel_rfl) ?_; (repeat (any_goals (go_big_quiet_step ((go_at_call 35; with_reducible exact Calls.regrown_of (hcm _)))))); all_goals (refine wpQuiet_nil ?_; intro _ hw9; obtain ⟨⟨d9, os9⟩, hw8⟩ := hw9; subst hw8)
            have kq := below_tr HB2.out (below_regrown wr d9 os9)
            go_wp2
            go_roundw
            case rel => exact ⟨q + 1, by omega, by go_num, HA2, kq⟩
            case measure => simp [intOf]; omega
          · have Hn : Hid (0 ≤ cmpTp x t) := Int.not_lt.1 hn
            generalize hcn : cmpTp x t = n at hcm hn
            have hd3 : decide (n < 0) = false := by simp; omega
            clear hcn
            go_wp2
            refine wp_region_quiet_below (by kernel_rfl) (by kernel_rfl) ?_; (repeat (any_goals (go_big_quiet_step ((go_at_call 35; with_reducible exact Calls.regrown_of (hcm _)))))); all_goals (refine wpQuiet_nil ?_; intro _ hw9; obtain ⟨⟨d9, os9⟩, hw8⟩ := hw9; subst hw8)
            have kq := below_tr HB2.out (below_regrown wr d9 os9)
            clear x0 x1 x2 x3 x4 x5 x6 x7 x8 x9 x10 x11 y0 y1 y2 y3 y4 y5 y6 y7 y8 y9 y10 y11 hcm hn hd3
            change Exit.then _ _ Exit.normal _ (Sort.grow (redrawn wr d9) os9)
            generalize Sort.grow (redrawn wr d9) os9 = w8 at *
            obtain ⟨g4, o4, hA4, b0, b1, b2, b3, b4, b5, b6, b7, b8, b9, b10, b11⟩ := rd_at12 (HR3.out.later kq) Hx.out
            injection hA4 with hA4; injection hA4 with h5 h6; subst h5; subst h6
            obtain ⟨gl1, ol1, hAl, a0, a1, a2, a3, a4, a5, a6, a7, a8, a9, a10, a11⟩ := rd_at12 (HR1.out.later kq) Ht.out
            injection hAl with hAl; injection hAl with h5 h6; subst h5; subst h6
            have hqe := run_eqTp x t
            have Kq := Lib.hid kq
            clear kq
            cases hs : sameTp x t
            · rw [hs] at hqe
              have HNf : Hid (∀ y, out[q]? = some y → 0 ≤ cmpTp y t ∧ y ≠ t) := by
                intro y hy
                rw [Hx.out] at hy; injection hy with hy; subst hy
                refine ⟨Hn.out, fun e => ?_⟩
                rw [sameTp_iff.2 e] at hs; cases hs
              clear hs
              go_wp2
              go_quiet (fail)
              clear a0 a1 a2 a3 a4 a5 a6 a7 a8 a9 a10 a11 b0 b1 b2 b3 b4 b5 b6 b7 b8 b9 b10 b11 hqe
              have HB9 : Hid (Below wk.heap.size wk (w8.drewN nq)) := ⟨Kq.out.os, Kq.out.tape, Kq.out.output, Kq.out.size, Kq.out.block⟩
              generalize w8.drewN nq = W9 at *
              go_wp2
              have hmis := ins_miss out t q (by rw [HM.out]; exact hq) HA.out (fun x hx => ⟨Int.not_lt.2 (HNf.out x hx).1, (HNf.out x hx).2⟩)
              have Hmis : Hid (out.take q ++ t :: out.drop q = setTp (l.take (k + 1))) := by show _ = _; rw [← hmis]; exact HI.out
              have Hlen : Hid ((out.take q ++ t :: out.drop q).length = M + 1) := by
                show _ = _
                rw [List.length_append, List.length_cons, List.length_take, List.length_drop, HM.out]; omega
              have hsl := run_from12 (some ⟨g3, o3, none⟩) c3 q M hq
              have hst := run_to12 (some ⟨g3, o3, none⟩) c3 q M (by omega)
              have hcap := hc3
              clear hmis
              obtain ⟨gl2, ol2, hAl, a0, a1, a2, a3, a4, a5, a6, a7, a8, a9, a10, a11⟩ := rd_at12 (HR1.out.later HB9.out) Ht.out
              injection hAl with hAl; injection hAl with h5 h6; subst h5; subst h6
              refine Rf.wp_region_pl W9.heap.size _ (Rf.Pl.quiet [0, 1, 2, 3, 5, 6, 7] (Rf.Pl.one 4 (Rf.Pl.one 8 (Rf.Pl.quiet [9] (Rf.Pl.done))))) _ (by kernel_rfl) (by kernel_rfl) (by simp only [Rf.Pl.pick, Rf.pickO, List.map_cons, List.map_nil, Rg.pickOps, List.getElem?_toArray, List.getElem?_cons_zero, List.getElem?_cons_succ, Option.getD_some]; rfl) ?_ (fun a w h => h)
              intro wd hbd hwz
              replace a0 := cellL a0 hbd
              replace a1 := cellL a1 hbd
              replace a2 := cellL a2 hbd
              replace a3 := cellL a3 hbd
              replace a4 := cellL a4 hbd
              replace a5 := cellL a5 hbd
              replace a6 := cellL a6 hbd
              replace a7 := cellL a7 hbd
              replace a8 := cellL a8 hbd
              replace a9 := cellL a9 hbd
              replace a10 := cellL a10 hbd
              replace a11 := cellL a11 hbd
              have Hbd := Lib.hid hbd
              have Hwz := Lib.hid hwz
              clear hbd hwz
              refine Rf.pl_quiet ?_
              iterate 7 go_big_quiet_step (fail)
              refine wpQuiet_nil (Rf.pl_one ?_)
              go_wp2_with fail
              have hz9 : W9.heap.size ≤ wd.heap.size := Hbd.out.size
              have hwr9 : wk.heap.size ≤ W9.heap.size := HB9.out.size
              have hww : w.heap.size ≤ wk.heap.size := HB.out.size
              have hb1 : Below wd.heap.size wd (wd.alloc (.cells (tpC t) 29)) := (Below.refl _ wd).alloc (Nat.le_refl _) _
              have own1 : (wd.alloc (.cells (tpC t) 29)).ownsRow w.heap.size 29 12 (.slice (some ⟨wd.heap.size, 0, none⟩) 1 1) 1 (tpL t) := own_new (by omega) rfl rfl (by omega)
              have rd1 : Rd (wd.alloc (.cells (tpC t) 29)) (subT c3 q (some ⟨g3, o3, none⟩)) ((out.drop q).flatMap tpL) := (((HR3.out.later HB9.out).later Hbd.out).later hb1).from12 (by rw [HM.out]; exact hcap) (by rw [HM.out]; exact hq)
              have hdl : ((out.drop q).flatMap tpL).length = (M - q) * 12 := by rw [tpL_len, List.length_drop, HM.out]
              have hone : ∀ u ∈ (out.drop q).flatMap tpL, u.oneCell' = true := fun u hu => by obtain ⟨s, _, hs⟩ := List.mem_flatMap.1 hu; exact tpL_one s u hs
              refine ⟨hb1.mono hz9, Rf.pl_one ?_⟩
              go_wp2_with (at_builtin; refine wpList_appG rfl rfl Tryz.underlying31 info_trip rfl (by omega) rfl own1 rfl rd1 hdl hone (by omega) (by omega) (by simp; omega) ?_; intro v5 w5 own5 hb5 hg5; rw [rest_flat] at own5; obtain ⟨A5, c5, rfl, hc5, hr5⟩ := own_slice own5)
              have HA5 : Hid (∀ a, A5 = some a → a.block < w5.heap.size) := fun a ha => (own5.lt a.block (by rw [ha]; rfl)).2
              have hB5 : Below W9.heap.size (wd.alloc (.cells (tpC t) 29)) w5 := (Below.refl _ _).grown hg5 (by simp; omega) (fun b hb => by have h1 : wd.heap.size = b := Option.some.inj hb; omega)
              have HB5 : Hid (Below W9.heap.size W9 w5) := (Hbd.out.trans (hb1.mono hz9)).trans hB5
              refine ⟨hB5, Rf.pl_quiet ?_⟩
              have Hr5 := Lib.hid hr5
              clear own1 rd1 hb5 hg5 hb1 hB5 own5 hr5
              go_frame
              iterate 1 go_big_quiet_step (fail)
              refine wpQuiet_nil (Rf.pl_done ?_)
              have hz5 := HB5.out.size
              have hb6 : Below w5.heap.size w5 (w5.alloc (.cells #[] 29)) := (Below.refl _ w5).alloc (Nat.le_refl _) _
              have own6 : (w5.alloc (.cells #[] 29)).ownsRow w.heap.size 29 12 (.slice (some ⟨w5.heap.size, 0, none⟩) 0 0) 0 [] := own_new (by omega) rfl rfl (by omega)
              have rd6 : Rd (w5.alloc (.cells #[] 29)) (some ⟨g3, o3, none⟩) ((out.take q).flatMap tpL) := (((HR3.out.later HB9.out).later HB5.out).later hb6).to12 q
              have htl : ((out.take q).flatMap tpL).length = q * 12 := by rw [tpL_len, List.length_take, HM.out, Nat.min_eq_left hq]
              have hone2 : ∀ u ∈ (out.take q).flatMap tpL, u.oneCell' = true := fun u hu => by obtain ⟨s, _, hs⟩ := List.mem_flatMap.1 hu; exact tpL_one s u hs
              have hone3 : ∀ u ∈ (t :: out.drop q).flatMap tpL, u.oneCell' = true := fun u hu => by obtain ⟨s, _, hs⟩ := List.mem_flatMap.1 hu; exact tpL_one s u hs
              have hdl3 : ((t :: out.drop q).flatMap tpL).length = (1 + (M - q)) * 12 := by rw [tpL_len, List.length_cons, List.length_drop, HM.out]; omega
              have hbw : Below w.heap.size w w5 := HB.out.trans ((HB9.out.mono hww).trans (HB5.out.mono (by omega)))
              have Hbw := Lib.hid hbw
              clear hbw
              go_wp2_with (first
                | (at_builtin; refine wpList_appG rfl rfl Tryz.underlying31 info_trip rfl (by omega) rfl own6 rfl rd6 htl hone2 (by omega) (by omega) (by simp; omega) ?_; intro v7 w7 own7 hb7 hg7; rw [Nat.zero_add, List.nil_append] at own7; obtain ⟨A7, c7, rfl, hc7, -⟩ := own_slice own7; have hr7 : Rd w7 A5 ((t :: out.drop q).flatMap tpL) := (Hr5.out.later hb6).grown hg7 (fun a ha => by have h9 := HA5.out a ha; intro he; have h1 := Option.some.inj he; simp at h1; omega))
                | (at_builtin; refine wpList_appG rfl rfl Tryz.underlying31 info_trip rfl (by omega) rfl own7 rfl hr7 hdl3 hone3 (by omega) (by omega) (by have := hb7.size; simp at this; omega) ?_; intro v8 w8x own8 hb8 hg8; rw [put_flat] at own8; obtain ⟨A8, c8, rfl, hc8, -⟩ := own_slice own8))
              go_roundw
              case rel =>
                refine ⟨k + 1, M + 1, out.take q ++ t :: out.drop q, by omega, by go_num, by omega, Hlen, Hmis, ?_, ?_⟩
                · have h7 : q + (1 + (M - q)) = M + 1 := by omega
                  have h8 := own8
                  rw [h7] at h8
                  first | exact h8 | (rw [h7]; exact h8)
                · exact ((Hbw.out.trans (hb6.mono (by omega))).trans hb7).trans hb8
              case measure => simp [intOf]; omega
            · rw [hs] at hqe
              have hxt := sameTp_iff.1 hs
              have HSm : Hid (out = setTp (l.take (k + 1))) := by
                show _ = _
                rw [← HI.out, ins_hit out t q HA.out (by rw [← hxt]; exact Hx.out)]
              clear hs hxt
              go_wp2
              go_quiet (fail)
              go_wp2
              go_roundw
              case rel =>
                have h9 : Below wk.heap.size wk (w8.drewN nq) := ⟨Kq.out.os, Kq.out.tape, Kq.out.output, Kq.out.size, Kq.out.block⟩
                exact ⟨k + 1, M, out, by omega, by go_num, by omega, HM, HSm, own_below Own.out h9 (Nat.le_refl _), below_tr HB.out h9⟩
              case measure => simp [intOf]; omega
        · have hd2 : decide (q < M) = false := by simp; omega
          have HNf : Hid (∀ y, out[q]? = some y → 0 ≤ cmpTp y t ∧ y ≠ t) := by
            intro y hy
            rw [List.getElem?_eq_none (by rw [HM.out]; omega)] at hy; cases hy
          clear hB2
          go_wp2
          refine wp_region_quiet_below (by kernel_rfl) (by kernel_rfl) ?_; (repeat (any_goals (go_big_quiet_step ((fail))))); all_goals (refine wpQuiet_nil ?_; intro _ hw9; obtain ⟨⟨d9, os9⟩, hw8⟩ := hw9; subst hw8)
          have kq := below_tr HB2.out (below_regrown wr d9 os9)
          change Exit.then _ _ Exit.normal _ (Sort.grow (redrawn wr d9) os9)
          generalize Sort.grow (redrawn wr d9) os9 = w8 at *
          go_wp2
          refine wp_region_quiet_below (by kernel_rfl) (by kernel_rfl) ?_; (repeat (any_goals (go_big_quiet_step ((fail))))); all_goals (refine wpQuiet_nil ?_; intro _ hw9; obtain ⟨⟨d9, os9⟩, hw8⟩ := hw9; subst hw8)
          have HB9 := Lib.hid (below_tr kq (below_regrown w8 d9 os9))
          change Exit.then _ _ Exit.normal _ (Sort.grow (redrawn w8 d9) os9)
          generalize Sort.grow (redrawn w8 d9) os9 = W9 at *
          clear kq
          go_wp2
          have hmis := ins_miss out t q (by rw [HM.out]; exact hq) HA.out (fun x hx => ⟨Int.not_lt.2 (HNf.out x hx).1, (HNf.out x hx).2⟩)
          have Hmis : Hid (out.take q ++ t :: out.drop q = setTp (l.take (k + 1))) := by show _ = _; rw [← hmis]; exact HI.out
          have Hlen : Hid ((out.take q ++ t :: out.drop q).length = M + 1) := by
            show _ = _
            rw [List.length_append, List.length_cons, List.length_take, List.length_drop, HM.out]; omega
          have hsl := run_from12 (A3) c3 q M hq
          have hst := run_to12 (A3) c3 q M (by omega)
          have hcap := hc3
          clear hmis
          obtain ⟨gl, ol, hAl, a0, a1, a2, a3, a4, a5, a6, a7, a8, a9, a10, a11⟩ := rd_at12 (HR1.out.later HB9.out) Ht.out
          subst hAl
          refine Rf.wp_region_pl W9.heap.size _ (Rf.Pl.quiet [0, 1, 2, 3, 5, 6, 7] (Rf.Pl.one 4 (Rf.Pl.one 8 (Rf.Pl.quiet [9] (Rf.Pl.done))))) _ (by kernel_rfl) (by kernel_rfl) (by simp only [Rf.Pl.pick, Rf.pickO, List.map_cons, List.map_nil, Rg.pickOps, List.getElem?_toArray, List.getElem?_cons_zero, List.getElem?_cons_succ, Option.getD_some]; rfl) ?_ (fun a w h => h)
          intro wd hbd hwz
          replace a0 := cellL a0 hbd
          replace a1 := cellL a1 hbd
          replace a2 := cellL a2 hbd
          replace a3 := cellL a3 hbd
          replace a4 := cellL a4 hbd
          replace a5 := cellL a5 hbd
          replace a6 := cellL a6 hbd
          replace a7 := cellL a7 hbd
          replace a8 := cellL a8 hbd
          replace a9 := cellL a9 hbd
          replace a10 := cellL a10 hbd
          replace a11 := cellL a11 hbd
          have Hbd := Lib.hid hbd
          have Hwz := Lib.hid hwz
          clear hbd hwz
          refine Rf.pl_quiet ?_
          iterate 7 go_big_quiet_step (fail)
          refine wpQuiet_nil (Rf.pl_one ?_)
          go_wp2_with fail
          have hz9 : W9.heap.size ≤ wd.heap.size := Hbd.out.size
          have hwr9 : wk.heap.size ≤ W9.heap.size := HB9.out.size
          have hww : w.heap.size ≤ wk.heap.size := HB.out.size
          have hb1 : Below wd.heap.size wd (wd.alloc (.cells (tpC t) 29)) := (Below.refl _ wd).alloc (Nat.le_refl _) _
          have own1 : (wd.alloc (.cells (tpC t) 29)).ownsRow w.heap.size 29 12 (.slice (some ⟨wd.heap.size, 0, none⟩) 1 1) 1 (tpL t) := own_new (by omega) rfl rfl (by omega)
          have rd1 : Rd (wd.alloc (.cells (tpC t) 29)) (subT c3 q (A3)) ((out.drop q).flatMap tpL) := (((HR3.out.later HB9.out).later Hbd.out).later hb1).from12 (by rw [HM.out]; exact hcap) (by rw [HM.out]; exact hq)
          have hdl : ((out.drop q).flatMap tpL).length = (M - q) * 12 := by rw [tpL_len, List.length_drop, HM.out]
          have hone : ∀ u ∈ (out.drop q).flatMap tpL, u.oneCell' = true := fun u hu => by obtain ⟨s, _, hs⟩ := List.mem_flatMap.1 hu; exact tpL_one s u hs
          refine ⟨hb1.mono hz9, Rf.pl_one ?_⟩
          go_wp2_with (at_builtin; refine wpList_appG rfl rfl Tryz.underlying31 info_trip rfl (by omega) rfl own1 rfl rd1 hdl hone (by omega) (by omega) (by simp; omega) ?_; intro v5 w5 own5 hb5 hg5; rw [rest_flat] at own5; obtain ⟨A5, c5, rfl, hc5, hr5⟩ := own_slice own5)
          have HA5 : Hid (∀ a, A5 = some a → a.block < w5.heap.size) := fun a ha => (own5.lt a.block (by rw [ha]; rfl)).2
          have hB5 : Below W9.heap.size (wd.alloc (.cells (tpC t) 29)) w5 := (Below.refl _ _).grown hg5 (by simp; omega) (fun b hb => by have h1 : wd.heap.size = b := Option.some.inj hb; omega)
          have HB5 : Hid (Below W9.heap.size W9 w5) := (Hbd.out.trans (hb1.mono hz9)).trans hB5
          refine ⟨hB5, Rf.pl_quiet ?_⟩
          have Hr5 := Lib.hid hr5
          clear own1 rd1 hb5 hg5 hb1 hB5 own5 hr5
          go_frame
          iterate 1 go_big_quiet_step (fail)
          refine wpQuiet_nil (Rf.pl_done ?_)
          have hz5 := HB5.out.size
          have hb6 : Below w5.heap.size w5 (w5.alloc (.cells #[] 29)) := (Below.refl _ w5).alloc (Nat.le_refl _) _
          have own6 : (w5.alloc (.cells #[] 29)).ownsRow w.heap.size 29 12 (.slice (some ⟨w5.heap.size, 0, none⟩) 0 0) 0 [] := own_new (by omega) rfl rfl (by omega)
          have rd6 : Rd (w5.alloc (.cells #[] 29)) (A3) ((out.take q).flatMap tpL) := (((HR3.out.later HB9.out).later HB5.out).later hb6).to12 q
          have htl : ((out.take q).flatMap tpL).length = q * 12 := by rw [tpL_len, List.length_take, HM.out, Nat.min_eq_left hq]
          have hone2 : ∀ u ∈ (out.take q).flatMap tpL, u.oneCell' = true := fun u hu => by obtain ⟨s, _, hs⟩ := List.mem_flatMap.1 hu; exact tpL_one s u hs
          have hone3 : ∀ u ∈ (t :: out.drop q).flatMap tpL, u.oneCell' = true := fun u hu => by obtain ⟨s, _, hs⟩ := List.mem_flatMap.1 hu; exact tpL_one s u hs
          have hdl3 : ((t :: out.drop q).flatMap tpL).length = (1 + (M - q)) * 12 := by rw [tpL_len, List.length_cons, List.length_drop, HM.out]; omega
          have hbw : Below w.heap.size w w5 := HB.out.trans ((HB9.out.mono hww).trans (HB5.out.mono (by omega)))
          have Hbw := Lib.hid hbw
          clear hbw
          go_wp2_with (first
            | (at_builtin; refine wpList_appG rfl rfl Tryz.underlying31 info_trip rfl (by omega) rfl own6 rfl rd6 htl hone2 (by omega) (by omega) (by simp; omega) ?_; intro v7 w7 own7 hb7 hg7; rw [Nat.zero_add, List.nil_append] at own7; obtain ⟨A7, c7, rfl, hc7, -⟩ := own_slice own7; have hr7 : Rd w7 A5 ((t :: out.drop q).flatMap tpL) := (Hr5.out.later hb6).grown hg7 (fun a ha => by have h9 := HA5.out a ha; intro he; have h1 := Option.some.inj he; simp at h1; omega))
            | (at_builtin; refine wpList_appG rfl rfl Tryz.underlying31 info_trip rfl (by omega) rfl own7 rfl hr7 hdl3 hone3 (by omega) (by omega) (by have := hb7.size; simp at this; omega) ?_; intro v8 w8x own8 hb8 hg8; rw [put_flat] at own8; obtain ⟨A8, c8, rfl, hc8, -⟩ := own_slice own8))
          go_roundw
          case rel =>
            refine ⟨k + 1, M + 1, out.take q ++ t :: out.drop q, by omega, by go_num, by omega, Hlen, Hmis, ?_, ?_⟩
            · have h7 : q + (1 + (M - q)) = M + 1 := by omega
              have h8 := own8
              rw [h7] at h8
              first | exact h8 | (rw [h7]; exact h8)
            · exact ((Hbw.out.trans (hb6.mono (by omega))).trans hb7).trans hb8
          case measure => simp [intOf]; omega
    · obtain rfl : k = N := by omega
      have hd1 : decide (k < k) = false := by simp
      have hfull : l.take k = l := List.take_of_length_le (by rw [HN.out]; exact Nat.le_refl _)
      have ho : out = setTp l := by rw [HO.out, hfull]
      have hfin : wr.ownsRow w.heap.size 29 12 (.slice A3 M c3) (setTp l).length ((setTp l).flatMap tpL) := by
        rw [← ho, HM.out]; exact own
      have HF := Lib.hid hfin
      clear hfin own hB hR3 hfull
      go_wp2
      go_ret
      exact hR9 _ _ ⟨_, rfl, HF.out, HB.out⟩
end Go.Proofs.YthdlepalglgmoaaGreatDoor
