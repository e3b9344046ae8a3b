/- Layer 22's law, walked: QueryVars. -/
import Derived.Test.YtmdjffnelkgmpaaDoorLaw22b
import Derived.Deep.CutRange
namespace Go.Proofs.YtmdjffnelkgmpaaDoor
open Go Go.RowKit Um Fm Mt

theorem hasS_cons (a : ByteArray) (l : List ByteArray) (s : ByteArray) : hasS (a :: l) s = ((a.toList == s.toList) || hasS l s) := by
  rw [Bool.eq_iff_iff, Bool.or_eq_true, hasS_iff, hasS_iff, Lib.bytes_beq_iff, List.mem_cons]
  constructor
  · rintro (h | h)
    · exact .inl h.symm
    · exact .inr h
  · rintro (h | h)
    · exact .inl h.symm
    · exact .inr h
set_option maxHeartbeats 1000000 in
theorem law22Has (l : List ByteArray) (x : ByteArray) (A : Option Addr) (n c : Nat) (w : World) (hn : l.length = n) (hl : n ≤ 281474976710656) (hr : Rd w A (l.map Value.string)) :
    Calls Tryd.prog 9 #[.slice A n c, .string x] w fun e w' => e = .returned (.bool (hasS l x)) ∧ w = w' := by
  subst hn
  go_enter Tryd.func9, Tryd.ntmps9
  go_wp2
  go_loop [5] (fun i => ∃ k : Nat, k ≤ l.length ∧ i = .int .i64 k ∧ Hid (hasS l x = hasS (l.drop k) x)) (fun i => l.length - (intOf i).toNat)
  case atStart => exact ⟨0, by omega, rfl, rfl⟩
  case round =>
    obtain ⟨k, hk, rfl, H⟩ := hrel
    by_cases hlt : k < l.length
    · obtain ⟨y, hx⟩ : ∃ x, l[k]? = some x := ⟨_, List.getElem?_eq_getElem hlt⟩
      obtain ⟨g, o, rfl, hcx⟩ := hr.at_ (j := k) (u := .string y) (by simp [hx])
      have hd := drop_cons_of hx
      have H2 : Hid (hasS l x = ((y.toList == x.toList) || hasS (l.drop (k+1)) x)) := by
        show _ = _
        rw [H.out, hd, hasS_cons]
      clear hx hd H hr
      cases hx0 : (y.toList == x.toList)
      · rw [hx0] at H2
        go_wp2
        go_round
        case rel => exact ⟨k+1, by omega, by go_num, H2⟩
        case measure => simp [intOf]; omega
      · rw [hx0] at H2
        go_wp2
        go_ret
        exact ⟨by rw [H2.out]; rfl, rfl⟩
    · have H2 : Hid (hasS l x = false) := by
        show hasS l x = _
        rw [H.out, List.drop_eq_nil_of_le (by omega)]; rfl
      clear H hr
      go_wp2
      go_ret
      exact ⟨by rw [H2.out]; rfl, rfl⟩
theorem patInfo : (Tryd.prog.info? 34).map (fun i => (i.zero, i.size, i.bytes)) = some (some (vPat ⟨⟨⟨#[]⟩, zTm⟩, ⟨⟨#[]⟩, zTm⟩, ⟨⟨#[]⟩, zTm⟩⟩), 15, 216) := by kernel_rfl
theorem pats1 (l : List Pat) : ∀ u ∈ l.flatMap cPat, u.oneCell' = true := by
  intro u hu
  obtain ⟨t, _, ht⟩ := List.mem_flatMap.1 hu
  simp only [cPat, List.mem_cons, List.not_mem_nil, or_false] at ht
  rcases ht with rfl | rfl | rfl | rfl | rfl | rfl | rfl | rfl | rfl | rfl | rfl | rfl | rfl | rfl | rfl <;> rfl
theorem RdPat.flat {w : World} {A : Option Addr} {l : List Pat} : RdPat w A l ↔ Rd w A (l.flatMap cPat) := by
  constructor
  · rintro ⟨xs, h, ha⟩
    rw [← ha.flat]; exact h
  · intro h
    exact ⟨_, h, All.of_flat l fun _ _ => rfl⟩
theorem pats_len (l : List Pat) : (l.flatMap cPat).length = l.length * 15 := by
  induction l with
  | nil => rfl
  | cons a r ih => simp [List.flatMap_cons, ih, cPat, Nat.add_mul]
theorem Calls.quiet_tr2 {P : Program} {f : FuncId} {args : Array Value} {w : World} {d : Nat} {os : Array Obj} {v : Value}
    (h : Calls P f args (Sort.grow (redrawn w d) os) fun e w' => e = .returned v ∧ Sort.grow (redrawn w d) os = w') : Calls P f args (Sort.grow (redrawn w d) os) fun e w'' => e = .returned v ∧ ∃ p : Regrown, w'' = Sort.grow (redrawn w p.d) p.os :=
  h.mono fun _ _ ⟨he, hb⟩ => ⟨he, ⟨d, os⟩, hb.symm⟩
theorem ptV_flat : ∀ l : List Pt, (l.flatMap ptV).length ≤ l.length
  | [] => by simp
  | p :: l => by have h1 := ptV_flat l; have h2 := ptV_len p; rw [List.flatMap_cons, List.length_append, List.length_cons]; omega
theorem usedN_len (n : Nat) (l : List (ExT n)) : (usedN n l).length ≤ (l.flatMap (preE n)).length := by
  have h1 := metsN_len ((l.flatMap (preE n)).flatMap ptV) []
  have h2 := ptV_flat (l.flatMap (preE n))
  rw [List.length_nil] at h1
  unfold usedN; omega
/-- The names of the first patterns, and of the first places of the next. -/
def preP (l : List Pat) (i : Nat) (x : Pat) (k : Nat) : List ByteArray := (l.take i).flatMap occP ++ occS ([x.s, x.p, x.o].take k)
def pre0 (l : List Pat) (i : Nat) : List ByteArray := (l.take i).flatMap occP
theorem preP_zero (l : List Pat) (i : Nat) (x : Pat) : preP l i x 0 = pre0 l i := by simp [preP, pre0, occS]
theorem preP_three {l : List Pat} {i : Nat} {x : Pat} (h : l[i]? = some x) : preP l i x 3 = pre0 l (i + 1) := by unfold preP pre0; rw [flat_take h]; rfl
theorem preP_all {l : List Pat} {i : Nat} {x : Pat} {k : Nat} {y : Sl} (h : l[i]? = some x) (hy : [x.s, x.p, x.o][k]? = some y) :
    preP l i x (k + 1) = preP l i x k ++ occS [y] ∧ ∃ post, l.flatMap occP = preP l i x k ++ (occS [y] ++ post) := by
  refine ⟨by unfold preP; rw [occS_snoc hy, List.append_assoc], ?_⟩
  refine ⟨occS ([x.s, x.p, x.o].drop (k + 1)) ++ (l.drop (i + 1)).flatMap occP, ?_⟩
  rw [flat_at h]
  unfold preP
  have app : ∀ a b : List Sl, occS (a ++ b) = occS a ++ occS b := fun a b => by unfold occS; rw [List.map_append, List.filter_append]
  have e : occP x = occS ([x.s, x.p, x.o].take k) ++ (occS [y] ++ occS ([x.s, x.p, x.o].drop (k + 1))) := by
    show occS [x.s, x.p, x.o] = _
    conv => lhs; rw [← List.take_append_drop k [x.s, x.p, x.o], drop_cons_of hy]
    rw [app, show y :: List.drop (k + 1) [x.s, x.p, x.o] = [y] ++ List.drop (k + 1) [x.s, x.p, x.o] from rfl, app]
  rw [e]; simp [List.append_assoc]
def OuterL (l : List Pat) (w : World) (nv i : Value) (wr : World) : Prop := ∃ j : Nat, j ≤ l.length ∧ i = .int .i64 j ∧ nv = .int .i64 (nAt (pre0 l j)) ∧ Below w.heap.size w wr
def InnerL (l : List Pat) (j : Nat) (x : Pat) (w : World) (nv k : Value) (wr : World) : Prop := ∃ m : Nat, m ≤ 3 ∧ k = .int .i64 m ∧ nv = .int .i64 (nAt (preP l j x m)) ∧ Below w.heap.size w wr
def BackL (rv : List Pat) (w : World) (v i : Value) (wr : World) : Prop := ∃ (m : Nat) (v' : Value), m ≤ rv.length ∧ i = .int .i64 ((m : Int) - 1) ∧ v = v' ∧ wr.ownsRow w.heap.size 34 15 v' (rv.length - m) ((rv.take (rv.length - m)).flatMap cPat) ∧ Below w.heap.size w wr
set_option maxRecDepth 100000 in
set_option maxHeartbeats 8000000 in
theorem lawQueryVars (n : Nat) (q : Qy n) (a1 a2 a3 a4 : Option Addr) (c1 c2 c3 c4 : Nat) (p : Pat) (w : World) (hC : Ctx w) (hz : szL q)
    (hc1 : q.vars.length ≤ c1) (hc2 : q.pats.length ≤ c2) (hc3 : q.fils.length ≤ c3) (hc4 : q.ord.length ≤ c4)
    (h1 : Rd w a1 (q.vars.map Value.string)) (h2 : RdPat w a2 q.pats) (h3 : RdEs n w a3 q.fils) (h4 : RdKey w a4 q.ord) :
    Calls Tryd.prog 3 #[.agg #[.bool q.ask, .bool q.dist, .slice a1 q.vars.length c1, .slice a2 q.pats.length c2, .slice a3 q.fils.length c3, .slice a4 q.ord.length c4, .int .i64 q.lim, .int .i64 q.off], vPat p] w fun e w' => e = .returned (.bool true) ∧ Below w.heap.size w w' := by
  obtain ⟨W, hW⟩ : ∃ W : World, (w.alloc (.cells #[.bool q.ask, .bool q.dist, .slice a1 q.vars.length c1, .slice a2 q.pats.length c2, .slice a3 q.fils.length c3, .slice a4 q.ord.length c4, .int .i64 q.lim, .int .i64 q.off] 27)).alloc (.cells (cPat p).toArray 34) = W := ⟨_, rfl⟩
  have hB0 : Below w.heap.size w W := by rw [← hW]; exact (by repeat (first | exact Below.refl _ _ | assumption | exact (Below.refl _ _).alloc (Nat.le_refl _) _ | refine below_tr ?_ (by assumption) | refine below_alloc ?_ | refine below_tr ?_ (below_regrown _ _ _)))
  have hq : ∀ (i : Nat) u, #[Value.bool q.ask, .bool q.dist, .slice a1 q.vars.length c1, .slice a2 q.pats.length c2, .slice a3 q.fils.length c3, .slice a4 q.ord.length c4, .int .i64 q.lim, .int .i64 q.off][i]? = some u → W.cell? ⟨w.heap.size, i, none⟩ = some u := by
    intro i u hu; rw [← hW, World.cell?, heap_two_1]; exact hu
  have hp : ∀ (i : Nat) u, (cPat p).toArray[i]? = some u → W.cell? ⟨w.heap.size + 1, i, none⟩ = some u := by
    intro i u hu; rw [← hW, World.cell?, heap_two_2]; exact hu
  unfold vPat
  simp only [cPat] at hW
  go_enter Tryd.func3, Tryd.ntmps3
  go_wp2_with fail
  try simp only [hW]
  have HW := Lib.hid hW
  clear hW
  refine (l22Awake _ (hC.step hB0)).mono ?_
  rintro e w1 ⟨rfl, b1⟩
  have B01 := below_tr hB0 b1
  have hq1 : ∀ (i : Nat) u, #[Value.bool q.ask, .bool q.dist, .slice a1 q.vars.length c1, .slice a2 q.pats.length c2, .slice a3 q.fils.length c3, .slice a4 q.ord.length c4, .int .i64 q.lim, .int .i64 q.off][i]? = some u → w1.cell? ⟨w.heap.size, i, none⟩ = some u := fun i u hu => cell_on (hq i u hu) b1
  have k0 := hq1 0 _ rfl
  have k1 := hq1 1 _ rfl
  have k2 := hq1 2 _ rfl
  have k3 := hq1 3 _ rfl
  have k4 := hq1 4 _ rfl
  have k5 := hq1 5 _ rfl
  have k6 := hq1 6 _ rfl
  have k7 := hq1 7 _ rfl
  have Hp1 := Lib.hid (fun (i : Nat) u hu => cell_on (hp i u hu) b1)
  have i1 := h1.later B01
  have i2 : RdPat w1 a2 q.pats := RdL.mono h2 B01 fun _ _ _ h => h
  have i3 := RdEs.later h3 B01
  have i4 : RdKey w1 a4 q.ord := RdL.mono h4 B01 fun _ _ _ h => h
  have B1 : Below w1.heap.size w1 (w1.alloc (.cells #[.bool q.ask, .bool q.dist, .slice a1 q.vars.length c1, .slice a2 q.pats.length c2, .slice a3 q.fils.length c3, .slice a4 q.ord.length c4, .int .i64 q.lim, .int .i64 q.off] 27)) := (by repeat (first | exact Below.refl _ _ | assumption | exact (Below.refl _ _).alloc (Nat.le_refl _) _ | refine below_tr ?_ (by assumption) | refine below_alloc ?_ | refine below_tr ?_ (below_regrown _ _ _)))
  have hrq : RdQ n (w1.alloc (.cells #[.bool q.ask, .bool q.dist, .slice a1 q.vars.length c1, .slice a2 q.pats.length c2, .slice a3 q.fils.length c3, .slice a4 q.ord.length c4, .int .i64 q.lim, .int .i64 q.off] 27)) [.bool q.ask, .bool q.dist, .slice a1 q.vars.length c1, .slice a2 q.pats.length c2, .slice a3 q.fils.length c3, .slice a4 q.ord.length c4, .int .i64 q.lim, .int .i64 q.off] q :=
    ⟨a1, a2, a3, a4, c1, c2, c3, c4, rfl, ⟨hc1, hc2, hc3, hc4⟩, i1.later B1, RdL.mono i2 B1 (fun _ _ _ h => h), RdEs.later i3 B1, RdL.mono i4 B1 (fun _ _ _ h => h)⟩
  have hg := law22Great n [q] (some ⟨w1.heap.size, 0, none⟩) 1 _ ⟨_, Rd.of_block (heap_alloc_new w1 _) rfl, All.one rfl hrq⟩ (by simp) (by simpa using hz)
  clear hq hp hq1 h1 h2 h3 h4 hrq b1 hB0
  go_wp2_with fail
  refine hg.mono ?_
  rintro e w2 ⟨g, rfl, hgp, b2⟩
  have b12 := below_tr B1 b2
  have B02 := below_tr B01 b12
  clear hg
  cases g
  case true =>
    clear hgp
    go_wp2
    go_ret
    exact ⟨rfl, B02⟩
  have hall : allQ q ≤ 400 := by simpa using hgp rfl
  have hcnt : cntQ q + (q.fils.flatMap (preE n)).length ≤ 400 := hall
  have hpl : q.pats.length ≤ 400 := by unfold cntQ at hcnt; omega
  have hfl : q.fils.length ≤ 400 := by unfold cntQ at hcnt; omega
  have hfp : (q.fils.flatMap (preE n)).length ≤ 400 := by omega
  have x3 := cell_on k3 b12
  have x4 := cell_on k4 b12
  have j2 : RdPat w2 a2 q.pats := RdL.mono i2 b12 fun _ _ _ h => h
  have j3 := RdEs.later i3 b12
  have Hp2 := Lib.hid (fun (i : Nat) u hu => cell_on (Hp1.out i u hu) b12)
  have hv := qVars q.pats a2 c2 w2 j2 (by omega)
  obtain ⟨vn, hvn⟩ : ∃ l, varsN q.pats = l := ⟨_, rfl⟩
  rw [hvn] at hv
  have Hvn := Lib.hid hvn
  clear hvn
  clear k0 k1 k2 k3 k4 k5 k6 k7 i1 i2 i3 i4 B1 B01 b12 hall hcnt hgp Hp1 b2
  go_wp2_with fail
  refine hv.mono ?_
  rintro e w3 ⟨v, rfl, own3, b3⟩
  obtain ⟨A3, d3, rfl, hd3, r3⟩ := own_slice own3
  have B03 := below_tr B02 b3
  have y3 := cell_on x3 b3
  have y4 := cell_on x4 b3
  have m2 : RdPat w3 a2 q.pats := RdL.mono j2 b3 fun _ _ _ h => h
  have m3 := RdEs.later j3 b3
  have Hp3 := Lib.hid (fun (i : Nat) u hu => cell_on (Hp2.out i u hu) b3)
  clear x3 x4 j2 j3 Hp2 hv own3 B02 b3
  obtain ⟨ps, hps⟩ : ∃ l, q.pats ++ [p] = l := ⟨_, rfl⟩
  obtain ⟨ws, hws⟩ : ∃ l, varsN ps = l := ⟨_, rfl⟩
  have Hws := Lib.hid hws
  have Hps := Lib.hid hps
  clear hps hws
  go_upto_region 6 with (fail)
  go_cut [6] from 25 to 32 (fun s6 wx => ∃ (A6 : Option Addr) (d6 : Nat), s6 = .slice A6 (ws).length d6 ∧ (ws).length ≤ d6 ∧ Rd wx A6 ((ws).map Value.string) ∧ Below w3.heap.size w3 wx)
  case first =>
    rename_i hJ hM
    have hpl' : (q.pats.length : Int) ≤ 400 := by omega
    have zB : w.heap.size + 1 < w3.heap.size := by have := B03.size; have h := cell_lt (Hp3.out 0 _ rfl); exact h
    have zA : w.heap.size < w3.heap.size := by omega
    refine Rf.wp_region_pl w3.heap.size _ (.quiet [1, 2, 4] (.fork 0 5 (.fork 3 5 (.one 5 (.one 6 (.one 7 (.quiet [8] .done)))) (.one 3 (.one 6 (.one 7 (.quiet [8] .done))))) (.one 0 (.one 3 (.one 6 (.one 7 (.quiet [8] .done))))))) _ (by kernel_rfl) (by kernel_rfl)
      (by simp only [Rf.Pl.pick, Rf.pickO, List.map_cons, List.map_nil, Rg.pickOps, List.getElem?_toArray, List.getElem?_cons_zero, List.getElem?_cons_succ, Option.getD_some]; rfl) ?_ (fun a w h => h)
    intro wd hbd hwz
    have hle : w3.heap.size ≤ wd.heap.size := hbd.size
    have l3 := cellB (B := w3.heap.size) (cell_on y3 hbd) zA
    have lp : ∀ (i : Nat) u, (cPat p).toArray[i]? = some u → ∀ X : Rh.Later w3.heap.size wd, X.W.cell? ⟨w.heap.size + 1, i, none⟩ = some u := fun i u hu => cellB (B := w3.heap.size) (cell_on (Hp3.out i u hu) hbd) zB
    have l10 := lp 0 _ rfl
    have l11 := lp 1 _ rfl
    have l12 := lp 2 _ rfl
    have l13 := lp 3 _ rfl
    have l14 := lp 4 _ rfl
    have l15 := lp 5 _ rfl
    have l16 := lp 6 _ rfl
    have l17 := lp 7 _ rfl
    have l18 := lp 8 _ rfl
    have l19 := lp 9 _ rfl
    have l20 := lp 10 _ rfl
    have l21 := lp 11 _ rfl
    have l22 := lp 12 _ rfl
    have l23 := lp 13 _ rfl
    have l24 := lp 14 _ rfl
    have n2 := RdPat.flat.1 (RdL.mono m2 hbd fun _ _ _ h => h)
    have hfl2 := pats_len q.pats
    have Hfl2 := Lib.hid hfl2
    have Hwz := Lib.hid hwz
    clear y3 y4 lp m2 m3 r3 hfl2 hwz
    refine Rf.pl_quiet ?_
    iterate 3 go_big_quiet_step (fail)
    clear l3 l10 l11 l12 l13 l14 l15 l16 l17 l18 l19 l20 l21 l22 l23 l24
    refine wpQuiet_nil (Rf.pl_fork ?_ ?_)
    · go_wp2
      have B1 : Below w3.heap.size wd (wd.alloc (.cells #[] 34)) := (Below.refl _ _).alloc hle _
      have own0 : (wd.alloc (.cells #[] 34)).ownsRow w3.heap.size 34 15 (.slice (some ⟨wd.heap.size, 0, none⟩) 0 0) 0 [] :=
        ⟨rfl, .inr ⟨wd.heap.size, 0, #[], rfl, hle, heap_alloc_new (wd) _, Nat.le_refl _, by simp, rfl, rfl⟩⟩
      have n3 := n2.later ((Below.refl _ _).alloc (Nat.le_refl _) (.cells #[] 34))
      refine ⟨B1, Rf.pl_fork ?_ ?_⟩
      · go_wp2_with (at_builtin; refine wpList_appG rfl rfl Tryd.underlying23 patInfo rfl (by omega) rfl own0 rfl n3 Hfl2.out (pats1 _) (by omega) (by omega) (by simp; omega) ?_; intro v4 w4 own4 hb4 hg4)
        have own4' := own_below own4 ((Below.refl _ _).alloc (Nat.le_refl _) (.cells #[.string p.s.v, .int .i64 p.s.t.k, .string p.s.t.x, .string p.s.t.l, .string p.s.t.y, .string p.p.v, .int .i64 p.p.t.k, .string p.p.t.x, .string p.p.t.l, .string p.p.t.y, .string p.o.v, .int .i64 p.o.t.k, .string p.o.t.x, .string p.o.t.l, .string p.o.t.y] 34)) (Nat.le_refl _)
        have hz4 : w3.heap.size ≤ w4.heap.size := Nat.le_trans (by simp; omega) hb4.size
        have B4 : Below w3.heap.size w4 (w4.alloc (.cells #[.string p.s.v, .int .i64 p.s.t.k, .string p.s.t.x, .string p.s.t.l, .string p.s.t.y, .string p.p.v, .int .i64 p.p.t.k, .string p.p.t.x, .string p.p.t.l, .string p.p.t.y, .string p.o.v, .int .i64 p.o.t.k, .string p.o.t.x, .string p.o.t.l, .string p.o.t.y] 34)) := (Below.refl _ _).alloc hz4 _
        have R4 : Rd (w4.alloc (.cells #[.string p.s.v, .int .i64 p.s.t.k, .string p.s.t.x, .string p.s.t.l, .string p.s.t.y, .string p.p.v, .int .i64 p.p.t.k, .string p.p.t.x, .string p.p.t.l, .string p.p.t.y, .string p.o.v, .int .i64 p.o.t.k, .string p.o.t.x, .string p.o.t.l, .string p.o.t.y] 34)) (some ⟨w4.heap.size, 0, none⟩) ([p].flatMap cPat) := Rd.of_block (heap_alloc_new w4 _) rfl
        refine ⟨hb4, Rf.pl_one ?_⟩
        go_wp2
        refine ⟨B4, Rf.pl_one ?_⟩
        go_wp2_with (at_builtin; refine wpList_appG rfl rfl Tryd.underlying23 patInfo rfl (by omega) rfl own4' rfl R4 rfl (pats1 [p]) (by omega) (by omega) (by simp; omega) ?_; intro v5 w5 own5 hb5 _)
        refine ⟨hb5, Rf.pl_one ?_⟩
        have hz5 : w3.heap.size ≤ w5.heap.size := Nat.le_trans (by first | exact hz4 | (simp; omega)) hb5.size
        have e5 : ([] ++ q.pats.flatMap cPat ++ [p].flatMap cPat : List Value) = ps.flatMap cPat := by rw [← Hps.out, List.flatMap_append, List.nil_append]
        have n5 : 0 + q.pats.length + 1 = ps.length := by rw [← Hps.out, List.length_append, List.length_singleton]; omega
        have own5' : w5.ownsRow w3.heap.size 34 15 v5 ps.length (ps.flatMap cPat) := by rw [← e5, ← n5]; exact own5
        obtain ⟨A5, d5, rfl, hd5, r5⟩ := own_slice own5'
        have hv := qVars ps A5 d5 w5 (RdPat.flat.2 r5) (by omega)
        rw [Hws.out] at hv
        have hbX : Below w3.heap.size w3 w5 := (((hbd.trans B1).trans hb4).trans B4).trans hb5
        clear own5 own5' e5 n5 r5 n2
        go_wp2_with (go_at_call 7; refine hv.mono ?_; rintro e w6 ⟨v6, rfl, own6, hb6⟩)
        obtain ⟨A6, d6, rfl, hd6, r6⟩ := own_slice own6
        refine ⟨hb6.mono hz5, Rf.pl_quiet ?_⟩
        iterate 1 go_big_quiet_step (fail)
        refine wpQuiet_nil (Rf.pl_done ?_)
        refine hM _ _ (Met.intro (hJ _ _ ?_))
        (repeat apply Exists.intro)
        exact ⟨⟨A6, d6, rfl, hd6, r6, hbX.trans (hb6.mono hz5)⟩, rfl⟩
      · go_wp2
        have B2 : Below w3.heap.size (wd.alloc (.cells #[] 34)) ((wd.alloc (.cells #[] 34)).alloc (.cells #[.string p.s.v, .int .i64 p.s.t.k, .string p.s.t.x, .string p.s.t.l, .string p.s.t.y, .string p.p.v, .int .i64 p.p.t.k, .string p.p.t.x, .string p.p.t.l, .string p.p.t.y, .string p.o.v, .int .i64 p.o.t.k, .string p.o.t.x, .string p.o.t.l, .string p.o.t.y] 34)) := (Below.refl _ _).alloc (by simp; omega) _
        have own2 := own_below own0 ((Below.refl _ _).alloc (Nat.le_refl _) (.cells #[.string p.s.v, .int .i64 p.s.t.k, .string p.s.t.x, .string p.s.t.l, .string p.s.t.y, .string p.p.v, .int .i64 p.p.t.k, .string p.p.t.x, .string p.p.t.l, .string p.p.t.y, .string p.o.v, .int .i64 p.o.t.k, .string p.o.t.x, .string p.o.t.l, .string p.o.t.y] 34)) (Nat.le_refl _)
        have n4 := n3.later ((Below.refl _ _).alloc (Nat.le_refl _) (.cells #[.string p.s.v, .int .i64 p.s.t.k, .string p.s.t.x, .string p.s.t.l, .string p.s.t.y, .string p.p.v, .int .i64 p.p.t.k, .string p.p.t.x, .string p.p.t.l, .string p.p.t.y, .string p.o.v, .int .i64 p.o.t.k, .string p.o.t.x, .string p.o.t.l, .string p.o.t.y] 34))
        have R2 : Rd ((wd.alloc (.cells #[] 34)).alloc (.cells #[.string p.s.v, .int .i64 p.s.t.k, .string p.s.t.x, .string p.s.t.l, .string p.s.t.y, .string p.p.v, .int .i64 p.p.t.k, .string p.p.t.x, .string p.p.t.l, .string p.p.t.y, .string p.o.v, .int .i64 p.o.t.k, .string p.o.t.x, .string p.o.t.l, .string p.o.t.y] 34)) (some ⟨wd.heap.size + 1, 0, none⟩) ([p].flatMap cPat) := Rd.of_block (heap_two_2 wd _ _) rfl
        refine ⟨B2, Rf.pl_one ?_⟩
        go_wp2_with (at_builtin; refine wpList_appG rfl rfl Tryd.underlying23 patInfo rfl (by omega) rfl own2 rfl n4 Hfl2.out (pats1 _) (by omega) (by omega) (by simp; omega) ?_; intro v4 w4 own4 hb4 hg4)
        have hz4 : w3.heap.size ≤ w4.heap.size := Nat.le_trans (by simp; omega) hb4.size
        have R4 : Rd w4 (some ⟨wd.heap.size + 1, 0, none⟩) ([p].flatMap cPat) := R2.grown (row := some wd.heap.size) hg4 (fun a ha => by cases ha; simp)
        refine ⟨hb4, Rf.pl_one ?_⟩
        go_wp2_with (at_builtin; refine wpList_appG rfl rfl Tryd.underlying23 patInfo rfl (by omega) rfl own4 rfl R4 rfl (pats1 [p]) (by omega) (by omega) (by omega) ?_; intro v5 w5 own5 hb5 _)
        refine ⟨hb5, Rf.pl_one ?_⟩
        have hz5 : w3.heap.size ≤ w5.heap.size := Nat.le_trans (by first | exact hz4 | (simp; omega)) hb5.size
        have e5 : ([] ++ q.pats.flatMap cPat ++ [p].flatMap cPat : List Value) = ps.flatMap cPat := by rw [← Hps.out, List.flatMap_append, List.nil_append]
        have n5 : 0 + q.pats.length + 1 = ps.length := by rw [← Hps.out, List.length_append, List.length_singleton]; omega
        have own5' : w5.ownsRow w3.heap.size 34 15 v5 ps.length (ps.flatMap cPat) := by rw [← e5, ← n5]; exact own5
        obtain ⟨A5, d5, rfl, hd5, r5⟩ := own_slice own5'
        have hv := qVars ps A5 d5 w5 (RdPat.flat.2 r5) (by omega)
        rw [Hws.out] at hv
        have hbX : Below w3.heap.size w3 w5 := (((hbd.trans B1).trans B2).trans hb4).trans hb5
        clear own5 own5' e5 n5 r5 n2
        go_wp2_with (go_at_call 7; refine hv.mono ?_; rintro e w6 ⟨v6, rfl, own6, hb6⟩)
        obtain ⟨A6, d6, rfl, hd6, r6⟩ := own_slice own6
        refine ⟨hb6.mono hz5, Rf.pl_quiet ?_⟩
        iterate 1 go_big_quiet_step (fail)
        refine wpQuiet_nil (Rf.pl_done ?_)
        refine hM _ _ (Met.intro (hJ _ _ ?_))
        (repeat apply Exists.intro)
        exact ⟨⟨A6, d6, rfl, hd6, r6, hbX.trans (hb6.mono hz5)⟩, rfl⟩
    · go_wp2
      have B1 : Below w3.heap.size wd (wd.alloc (.cells #[.string p.s.v, .int .i64 p.s.t.k, .string p.s.t.x, .string p.s.t.l, .string p.s.t.y, .string p.p.v, .int .i64 p.p.t.k, .string p.p.t.x, .string p.p.t.l, .string p.p.t.y, .string p.o.v, .int .i64 p.o.t.k, .string p.o.t.x, .string p.o.t.l, .string p.o.t.y] 34)) := (Below.refl _ _).alloc hle _
      refine ⟨B1, Rf.pl_one ?_⟩
      go_wp2
      have hle1 : w3.heap.size ≤ (wd.alloc (.cells #[.string p.s.v, .int .i64 p.s.t.k, .string p.s.t.x, .string p.s.t.l, .string p.s.t.y, .string p.p.v, .int .i64 p.p.t.k, .string p.p.t.x, .string p.p.t.l, .string p.p.t.y, .string p.o.v, .int .i64 p.o.t.k, .string p.o.t.x, .string p.o.t.l, .string p.o.t.y] 34)).heap.size := by simp; omega
      have B2 : Below w3.heap.size (wd.alloc (.cells #[.string p.s.v, .int .i64 p.s.t.k, .string p.s.t.x, .string p.s.t.l, .string p.s.t.y, .string p.p.v, .int .i64 p.p.t.k, .string p.p.t.x, .string p.p.t.l, .string p.p.t.y, .string p.o.v, .int .i64 p.o.t.k, .string p.o.t.x, .string p.o.t.l, .string p.o.t.y] 34)) ((wd.alloc (.cells #[.string p.s.v, .int .i64 p.s.t.k, .string p.s.t.x, .string p.s.t.l, .string p.s.t.y, .string p.p.v, .int .i64 p.p.t.k, .string p.p.t.x, .string p.p.t.l, .string p.p.t.y, .string p.o.v, .int .i64 p.o.t.k, .string p.o.t.x, .string p.o.t.l, .string p.o.t.y] 34)).alloc (.cells #[] 34)) := (Below.refl _ _).alloc hle1 _
      have own0 : ((wd.alloc (.cells #[.string p.s.v, .int .i64 p.s.t.k, .string p.s.t.x, .string p.s.t.l, .string p.s.t.y, .string p.p.v, .int .i64 p.p.t.k, .string p.p.t.x, .string p.p.t.l, .string p.p.t.y, .string p.o.v, .int .i64 p.o.t.k, .string p.o.t.x, .string p.o.t.l, .string p.o.t.y] 34)).alloc (.cells #[] 34)).ownsRow w3.heap.size 34 15 (.slice (some ⟨wd.heap.size + 1, 0, none⟩) 0 0) 0 [] :=
        ⟨rfl, .inr ⟨wd.heap.size + 1, 0, #[], rfl, by omega, heap_two_2 wd _ _, Nat.le_refl _, by simp, rfl, rfl⟩⟩
      have n4 := (n2.later ((Below.refl _ _).alloc (Nat.le_refl _) (.cells #[.string p.s.v, .int .i64 p.s.t.k, .string p.s.t.x, .string p.s.t.l, .string p.s.t.y, .string p.p.v, .int .i64 p.p.t.k, .string p.p.t.x, .string p.p.t.l, .string p.p.t.y, .string p.o.v, .int .i64 p.o.t.k, .string p.o.t.x, .string p.o.t.l, .string p.o.t.y] 34))).later ((Below.refl _ _).alloc (Nat.le_refl _) (.cells #[] 34))
      have R2 : Rd ((wd.alloc (.cells #[.string p.s.v, .int .i64 p.s.t.k, .string p.s.t.x, .string p.s.t.l, .string p.s.t.y, .string p.p.v, .int .i64 p.p.t.k, .string p.p.t.x, .string p.p.t.l, .string p.p.t.y, .string p.o.v, .int .i64 p.o.t.k, .string p.o.t.x, .string p.o.t.l, .string p.o.t.y] 34)).alloc (.cells #[] 34)) (some ⟨wd.heap.size, 0, none⟩) ([p].flatMap cPat) := Rd.of_block (heap_two_1 wd _ _) rfl
      refine ⟨B2, Rf.pl_one ?_⟩
      go_wp2_with (at_builtin; refine wpList_appG rfl rfl Tryd.underlying23 patInfo rfl (by omega) rfl own0 rfl n4 Hfl2.out (pats1 _) (by omega) (by omega) (by simp; omega) ?_; intro v4 w4 own4 hb4 hg4)
      have hz4 : w3.heap.size ≤ w4.heap.size := Nat.le_trans (by simp; omega) hb4.size
      have R4 : Rd w4 (some ⟨wd.heap.size, 0, none⟩) ([p].flatMap cPat) := R2.grown (row := some (wd.heap.size + 1)) hg4 (fun a ha => by cases ha; simp)
      refine ⟨hb4, Rf.pl_one ?_⟩
      go_wp2_with (at_builtin; refine wpList_appG rfl rfl Tryd.underlying23 patInfo rfl (by omega) rfl own4 rfl R4 rfl (pats1 [p]) (by omega) (by omega) (by omega) ?_; intro v5 w5 own5 hb5 _)
      refine ⟨hb5, Rf.pl_one ?_⟩
      have hz5 : w3.heap.size ≤ w5.heap.size := Nat.le_trans (by first | exact hz4 | (simp; omega)) hb5.size
      have e5 : ([] ++ q.pats.flatMap cPat ++ [p].flatMap cPat : List Value) = ps.flatMap cPat := by rw [← Hps.out, List.flatMap_append, List.nil_append]
      have n5 : 0 + q.pats.length + 1 = ps.length := by rw [← Hps.out, List.length_append, List.length_singleton]; omega
      have own5' : w5.ownsRow w3.heap.size 34 15 v5 ps.length (ps.flatMap cPat) := by rw [← e5, ← n5]; exact own5
      obtain ⟨A5, d5, rfl, hd5, r5⟩ := own_slice own5'
      have hv := qVars ps A5 d5 w5 (RdPat.flat.2 r5) (by omega)
      rw [Hws.out] at hv
      have hbX : Below w3.heap.size w3 w5 := (((hbd.trans B1).trans B2).trans hb4).trans hb5
      clear own5 own5' e5 n5 r5 n2
      go_wp2_with (go_at_call 7; refine hv.mono ?_; rintro e w6 ⟨v6, rfl, own6, hb6⟩)
      obtain ⟨A6, d6, rfl, hd6, r6⟩ := own_slice own6
      refine ⟨hb6.mono hz5, Rf.pl_quiet ?_⟩
      iterate 1 go_big_quiet_step (fail)
      refine wpQuiet_nil (Rf.pl_done ?_)
      refine hM _ _ (Met.intro (hJ _ _ ?_))
      (repeat apply Exists.intro)
      exact ⟨⟨A6, d6, rfl, hd6, r6, hbX.trans (hb6.mono hz5)⟩, rfl⟩
  case rest =>
    obtain ⟨A6, d6, rfl, hd6, r6, b6⟩ := hcut
    have hvn : vn.Nodup := by rw [← Hvn.out]; exact varsN_nodup _
    have hpre : ∃ r, ws = vn ++ r ∧ r.length ≤ 3 := by
      rw [← Hws.out, ← Hvn.out, ← Hps.out]; exact varsN_more _ _
    have hvl : vn.length ≤ 1200 := by
      have := varsN_len q.pats
      rw [Hvn.out] at this; omega
    obtain ⟨rw3, hw3, hl3⟩ := hpre
    have hwl : ws.length = vn.length + rw3.length := by rw [hw3, List.length_append]
    have Hw3 := Lib.hid hw3
    clear hw3
    have B0c := below_tr B03 b6
    have y3c := cell_on y3 b6
    have y4c := cell_on y4 b6
    have m2c : RdPat wc a2 q.pats := RdL.mono m2 b6 fun _ _ _ h => h
    have m3c := RdEs.later m3 b6
    have r3c := r3.later b6
    obtain ⟨rv, hrv⟩ : ∃ l, q.pats.reverse = l := ⟨_, rfl⟩
    have hrl : rv.length = q.pats.length := by rw [← hrv, List.length_reverse]
    have hrat : ∀ k, k < rv.length → q.pats[q.pats.length - 1 - k]? = rv[k]? := by
      intro k hk
      rw [← hrv, List.getElem?_reverse (by omega)]
    have Hrv := Lib.hid hrv
    have Hrl := Lib.hid hrl
    have hlr : (q.pats.length : Int) = rv.length := by omega
    have Hlr := Lib.hid hlr
    have hrl4 : rv.length ≤ 400 := by omega
    have Hrat := Lib.hid hrat
    have HZ5 := Lib.hid hz.2.2.2.2
    have HC := Lib.hid hC
    clear hrv hrl hlr hrat y3 y4 m2 m3 r3 B03 b6 hC hz hc1 hc2 hc3 hc4 Hp3 hwl
    go_wp2
    go_loopw [7, 8] (BackL rv wc) (fun _ i _ => (intOf i + 1).toNat)
    case atStart => exact ⟨rv.length, _, by omega, by rw [Hlr.out], rfl, by simpa using World.ownsRow_nil _ _ _ _, Below.refl _ _⟩
    case round =>
      obtain ⟨m, v7, hk, rfl, rfl, own7, b7⟩ := hrel
      rcases m with _ | j
      · simp only [Nat.sub_zero, List.take_length] at own7
        obtain ⟨A7, d7, rfl, hd7, r7⟩ := own_slice own7
        have B07 := below_tr B0c b7
        have y3d := cell_on y3c b7
        have y4d := cell_on y4c b7
        have m2d : RdPat wr a2 q.pats := RdL.mono m2c b7 fun _ _ _ h => h
        have m3d := RdEs.later m3c b7
        have r3d := r3c.later b7
        have r6d := r6.later b7
        have hu := qVars rv A7 d7 wr (RdPat.flat.2 r7) (by omega)
        obtain ⟨us, hus⟩ : ∃ l, varsN rv = l := ⟨_, rfl⟩
        rw [hus] at hu
        have Hus := Lib.hid hus
        have hul : us.length = vn.length := by rw [← hus, ← Hrv.out, varsN_turn, Hvn.out]
        have Hul := Lib.hid hul
        clear hus own7 b7 B0c y3c y4c m2c m3c r3c r6 r7 hul
        have hwv : Rd wr A6 (vn.map Value.string) := by
          have h9 := r6d.take vn.length
          rw [Hw3.out, List.map_append, List.take_append_of_le_length (by simp), List.take_of_length_le (by simp)] at h9
          exact h9
        have hwl : ws.length = vn.length + rw3.length := by rw [Hw3.out, List.length_append]
        have f1 : (vn.length : Int) ≤ ws.length := by omega
        have f2 : (ws.length : Int) ≤ vn.length + 3 := by omega
        have f3 : ((us.length : Int) != (vn.length : Int)) = false := by have := Hul.out; simp; omega
        have f4 : (vn.length : Int) ≤ d6 := by omega
        have f5 : (vn.length : Int) ≤ 1200 := by omega
        clear r6d hwl hl3
        go_wp2_with fail
        refine hu.mono ?_
        rintro e w8 ⟨v8, rfl, own8, b8⟩
        obtain ⟨A8, d8, rfl, hd8, r8⟩ := own_slice own8
        have B08 := below_tr B07 b8
        have y3e := cell_on y3d b8
        have y4e := cell_on y4d b8
        have m2e : RdPat w8 a2 q.pats := RdL.mono m2d b8 fun _ _ _ h => h
        have m3e := RdEs.later m3d b8
        have r3e := r3d.later b8
        have hwe := hwv.later b8
        clear hu own8 y3d y4d m2d m3d r3d hwv B07 b8
        have hs := sameTexts vn vn A6 A3 d6 d3 w8 hwe r3e (by omega) (by omega)
        rw [show sameTs vn vn = true by simp [sameTs]] at hs
        clear hwe
        go_wp2_with fail
        refine hs.mono ?_
        rintro e w9 ⟨rfl, b9⟩
        have B09 := below_tr B08 b9
        have y3f := cell_on y3e b9
        have y4f := cell_on y4e b9
        have m2f : RdPat w9 a2 q.pats := RdL.mono m2e b9 fun _ _ _ h => h
        have m3f := RdEs.later m3e b9
        have r3f := r3e.later b9
        have r8f := r8.later b9
        have zA : w.heap.size < w9.heap.size := by have := cell_lt y3f; exact this
        clear hs y3e y4e m2e m3e r3e r8 B08 b9
        go_wp2
        clear f1 f2 f3 f4
        go_loopw [10, 11] (OuterL q.pats w9) (fun _ i _ => q.pats.length - (intOf i).toNat)
        case atStart => exact ⟨0, by omega, rfl, by simp [nAt, pre0, metsN_nil], Below.refl _ _⟩
        case round =>
          obtain ⟨j, hj, rfl, rfl, bo⟩ := hrel
          by_cases hlt : j < q.pats.length
          · obtain ⟨x, hx⟩ : ∃ x, q.pats[j]? = some x := ⟨_, List.getElem?_eq_getElem hlt⟩
            obtain ⟨g, o, cs, rfl, -, rfl, hc⟩ := (RdL.mono m2f bo (fun _ _ _ h => h)).at_ (by omega) hx
            have q0 : wr.cell? ⟨g, o + j * 15, none⟩ = some (.string x.s.v) := hc 0 _ rfl
            have q1 : wr.cell? ⟨g, o + j * 15 + 1, none⟩ = some (.int .i64 x.s.t.k) := hc 1 _ rfl
            have q2 : wr.cell? ⟨g, o + j * 15 + 2, none⟩ = some (.string x.s.t.x) := hc 2 _ rfl
            have q3 : wr.cell? ⟨g, o + j * 15 + 3, none⟩ = some (.string x.s.t.l) := hc 3 _ rfl
            have q4 : wr.cell? ⟨g, o + j * 15 + 4, none⟩ = some (.string x.s.t.y) := hc 4 _ rfl
            have q5 : wr.cell? ⟨g, o + j * 15 + 5, none⟩ = some (.string x.p.v) := hc 5 _ rfl
            have q6 : wr.cell? ⟨g, o + j * 15 + 6, none⟩ = some (.int .i64 x.p.t.k) := hc 6 _ rfl
            have q7 : wr.cell? ⟨g, o + j * 15 + 7, none⟩ = some (.string x.p.t.x) := hc 7 _ rfl
            have q8 : wr.cell? ⟨g, o + j * 15 + 8, none⟩ = some (.string x.p.t.l) := hc 8 _ rfl
            have q9 : wr.cell? ⟨g, o + j * 15 + 9, none⟩ = some (.string x.p.t.y) := hc 9 _ rfl
            have q10 : wr.cell? ⟨g, o + j * 15 + 10, none⟩ = some (.string x.o.v) := hc 10 _ rfl
            have q11 : wr.cell? ⟨g, o + j * 15 + 11, none⟩ = some (.int .i64 x.o.t.k) := hc 11 _ rfl
            have q12 : wr.cell? ⟨g, o + j * 15 + 12, none⟩ = some (.string x.o.t.x) := hc 12 _ rfl
            have q13 : wr.cell? ⟨g, o + j * 15 + 13, none⟩ = some (.string x.o.t.l) := hc 13 _ rfl
            have q14 : wr.cell? ⟨g, o + j * 15 + 14, none⟩ = some (.string x.o.t.y) := hc 14 _ rfl
            have y3g := cell_on y3f bo
            have Hx := Lib.hid hx
            have hbnd : (nAt (pre0 q.pats j) : Int) ≤ 1200 := by
              have h1 := nAt_take (flat_at hx occP)
              have h2 : metsN [] (q.pats.flatMap occP) = vn := Hvn.out
              rw [h2] at h1
              have h3 := h1.2
              have : nAt (pre0 q.pats j) ≤ vn.length := h3
              omega
            clear hc hx m2f
            go_wp2
            refine Rh.wp_region_plan wr.heap.size [(true, [0, 1, 2, 3, 4, 5, 6, 7, 8, 9, 10, 11, 12, 13, 14, 15, 16, 17]), (false, [18]), (true, [19])] _ (by kernel_rfl) (by kernel_rfl) (by simp only [List.map_cons, List.map_nil, Rg.pickOps, List.getElem?_toArray, List.getElem?_cons_zero, List.getElem?_cons_succ, Option.getD_some]; rfl) (fun K wd hK hwd => ?_)
            have hbd : Below wr.heap.size wr wd := by rw [hwd]; exact (Below.refl _ _).drew
            clear hwd
            have sy := cellL y3g hbd
            have s0 := cellL q0 hbd
            have s1 := cellL q1 hbd
            have s2 := cellL q2 hbd
            have s3 := cellL q3 hbd
            have s4 := cellL q4 hbd
            have s5 := cellL q5 hbd
            have s6 := cellL q6 hbd
            have s7 := cellL q7 hbd
            have s8 := cellL q8 hbd
            have s9 := cellL q9 hbd
            have s10 := cellL q10 hbd
            have s11 := cellL q11 hbd
            have s12 := cellL q12 hbd
            have s13 := cellL q13 hbd
            have s14 := cellL q14 hbd
            clear q0 q1 q2 q3 q4 q5 q6 q7 q8 q9 q10 q11 q12 q13 q14
            refine Rh.plan_quiet ?_
            iterate 18 go_big_quiet_step (fail)
            refine wpQuiet_nil (Rh.plan_chain ?_)
            clear s0 s1 s2 s3 s4 s5 s6 s7 s8 s9 s10 s11 s12 s13 s14 sy
            go_wp2_with fail
            refine ⟨(Below.refl _ _).alloc hbd.size _, Rh.plan_quiet ?_⟩
            iterate 1 go_big_quiet_step (fail)
            refine wpQuiet_nil (Rh.plan_end ?_)
            refine hK _ _ ?_
            clear hK
            have hss : RdSl (wd.alloc (.cells #[.string x.s.v, .int .i64 x.s.t.k, .string x.s.t.x, .string x.s.t.l, .string x.s.t.y, .string x.p.v, .int .i64 x.p.t.k, .string x.p.t.x, .string x.p.t.l, .string x.p.t.y, .string x.o.v, .int .i64 x.o.t.k, .string x.o.t.x, .string x.o.t.l, .string x.o.t.y] 32)) (some ⟨wd.heap.size, 0, none⟩) [x.s, x.p, x.o] := ⟨[x.s, x.p, x.o].flatMap slC, Rd.of_block (heap_alloc_new wd _) rfl, All.of_flat (f := slC) _ fun _ _ => rfl⟩
            have Bs : Below w9.heap.size w9 (wd.alloc (.cells #[.string x.s.v, .int .i64 x.s.t.k, .string x.s.t.x, .string x.s.t.l, .string x.s.t.y, .string x.p.v, .int .i64 x.p.t.k, .string x.p.t.x, .string x.p.t.l, .string x.p.t.y, .string x.o.v, .int .i64 x.o.t.k, .string x.o.t.x, .string x.o.t.l, .string x.o.t.y] 32)) := below_tr bo (hbd.alloc hbd.size _)
            obtain ⟨W5, hW5⟩ : ∃ W : World, wd.alloc (.cells #[.string x.s.v, .int .i64 x.s.t.k, .string x.s.t.x, .string x.s.t.l, .string x.s.t.y, .string x.p.v, .int .i64 x.p.t.k, .string x.p.t.x, .string x.p.t.l, .string x.p.t.y, .string x.o.v, .int .i64 x.o.t.k, .string x.o.t.x, .string x.o.t.l, .string x.o.t.y] 32) = W := ⟨_, rfl⟩
            rw [hW5] at hss Bs
            simp only [hW5]
            have HW5 := Lib.hid hW5
            clear hW5 bo y3g
            go_wp2
            go_loopw [10, 13] (InnerL q.pats j x W5) (fun _ i _ => 3 - (intOf i).toNat)
            case atStart => exact ⟨0, by omega, rfl, by rw [preP_zero], Below.refl _ _⟩
            case round =>
              obtain ⟨m, hm, rfl, rfl, bi⟩ := hrel
              by_cases hmlt : m < 3
              · obtain ⟨y, hy⟩ : ∃ y, [x.s, x.p, x.o][m]? = some y := ⟨_, List.getElem?_eq_getElem (by simpa using hmlt)⟩
                obtain ⟨gs, os, cs, hgs, -, rfl, hcs⟩ := (RdL.mono hss bi (fun _ _ _ h => h)).at_ (by omega) hy
                cases hgs
                have u0 : wr.cell? ⟨wd.heap.size, 0 + m * 5, none⟩ = some (.string y.v) := hcs 0 _ rfl
                rw [Nat.zero_add] at u0
                obtain ⟨hsn, post, hal⟩ := preP_all Hx.out hy
                have hV : metsN [] (q.pats.flatMap occP) = vn := Hvn.out
                have r3i := (r3f.later Bs).later bi
                have Bi := Lib.hid bi
                have zI : wr.heap.size < wr.heap.size + 1 := by omega
                clear hcs hy hss r3f r8f m3f y3f y4f bi Bs
                cases he : y.v.toList.isEmpty
                · rw [occS_one he] at hsn hal
                  obtain ⟨ht, hle⟩ := nAt_take hal
                  rw [hV] at ht hle
                  obtain ⟨mm, hmm⟩ : ∃ l, metsN [] (preP q.pats j x m) = l := ⟨_, rfl⟩
                  obtain ⟨N, hN⟩ : ∃ N, nAt (preP q.pats j x m) = N := ⟨_, rfl⟩
                  have hml : mm.length = N := by rw [← hmm, ← hN]; rfl
                  have hrd : Rd wr A3 (mm.map Value.string) := by
                    have h9 := r3i.take N
                    rw [← List.map_take, ← hN, ht, hmm] at h9
                    exact h9
                  have hNle : (N : Int) ≤ vn.length := by rw [hN] at hle; omega
                  have hNd : (N : Int) ≤ d3 := by omega
                  have hN12 : N ≤ 1200 := by omega
                  rw [hN]
                  cases hh : hasS mm y.v
                  · have hnew := nAt_new (s := y.v) (by simpa using hal) (by rw [hmm]; exact hh)
                    rw [hV, hN] at hnew
                    obtain ⟨n1, n2, n3⟩ := hnew
                    have Hn3 : Hid (nAt (preP q.pats j x (m + 1)) = N + 1) := by show _ = _; rw [hsn]; exact n3
                    obtain ⟨g3, o3, rfl, cN⟩ := r3i.at_ (j := N) (u := .string y.v) (by simp [n1])
                    have n2' : (N : Int) < vn.length := by omega
                    have kh := fun d os => law22Has mm y.v (some ⟨g3, o3, none⟩) N d3 (Sort.grow (redrawn wr d) os) hml (by omega) (hrd.later (below_regrown wr d os))
                    rw [hh] at kh
                    have q0 := fun d os => cell_regrown u0 d os
                    clear hsn hal ht hle hmm hN hml hrd hh n1 n3 n2 hV
                    go_wp2
                    refine wp_region_quiet_below (by kernel_rfl) (by kernel_rfl) ?_; (repeat (any_goals (go_big_quiet_step ((go_at_call 9; with_reducible exact Calls.quiet_tr2 (kh _ _)))))); all_goals (refine wpQuiet_nil ?_; intro _ hw9; obtain ⟨⟨d9, os9⟩, hw8⟩ := hw9; subst hw8)
                    have hB9 := below_regrown wr d9 os9
                    obtain ⟨W9, hW9⟩ : ∃ W, Sort.grow (redrawn wr d9) os9 = W := ⟨_, rfl⟩
                    rw [hW9] at hB9
                    simp only [hW9]
                    have v0 := cell_on u0 hB9
                    have vN := cell_on cN hB9
                    have q1 := fun d os => cell_regrown v0 d os
                    have qN := fun d os => cell_regrown vN d os
                    have HB9 := Lib.hid hB9
                    have hg1 : decide (vn.length ≤ N) = false := by simp; omega
                    have hg2 : decide ((vn.length : Int) ≤ N) = false := by simp; omega
                    have hg3 : (y.v.toList != y.v.toList) = false := by simp
                    clear hW9 hB9 q0 kh u0 cN v0 vN
                    go_wp2
                    refine wp_region_quiet_below (by kernel_rfl) (by kernel_rfl) ?_; (repeat (any_goals (go_big_quiet_step ((fail))))); all_goals (refine wpQuiet_nil ?_; intro _ hw9; obtain ⟨⟨d9, os9⟩, hw8⟩ := hw9; subst hw8)
                    have hB10 := below_regrown W9 d9 os9
                    clear q1 qN hg1 hg2 hg3
                    go_wp2
                    go_roundw
                    case rel => exact ⟨m + 1, by omega, by go_num, by rw [Hn3.out]; go_num, below_tr Bi.out (below_tr HB9.out hB10)⟩
                    case measure => simp [intOf]; omega
                  · have Hn3 : Hid (nAt (preP q.pats j x (m + 1)) = N) := by show _ = _; rw [hsn, nAt_has (by rw [hmm]; exact hh)]; exact hN
                    have kh := fun d os => law22Has mm y.v A3 N d3 (Sort.grow (redrawn wr d) os) hml (by omega) (hrd.later (below_regrown wr d os))
                    rw [hh] at kh
                    have q0 := fun d os => cell_regrown u0 d os
                    clear hsn hal ht hle hmm hN hml hrd hh hV
                    go_wp2
                    refine wp_region_quiet_below (by kernel_rfl) (by kernel_rfl) ?_; (repeat (any_goals (go_big_quiet_step ((go_at_call 9; with_reducible exact Calls.quiet_tr2 (kh _ _)))))); all_goals (refine wpQuiet_nil ?_; intro _ hw9; obtain ⟨⟨d9, os9⟩, hw8⟩ := hw9; subst hw8)
                    have hB9 := below_regrown wr d9 os9
                    clear q0 kh u0
                    go_wp2
                    go_roundw
                    case rel => exact ⟨m + 1, by omega, by go_num, by rw [Hn3.out], below_tr Bi.out hB9⟩
                    case measure => simp [intOf]; omega
                · rw [occS_one_no he, List.append_nil] at hsn
                  have Hn3 : Hid (nAt (preP q.pats j x (m + 1)) = nAt (preP q.pats j x m)) := by show _ = _; rw [hsn]
                  have q0 := fun d os => cell_regrown u0 d os
                  clear hsn hal hV
                  go_wp2
                  refine wp_region_quiet_below (by kernel_rfl) (by kernel_rfl) ?_; (repeat (any_goals (go_big_quiet_step ((fail))))); all_goals (refine wpQuiet_nil ?_; intro _ hw9; obtain ⟨⟨d9, os9⟩, hw8⟩ := hw9; subst hw8)
                  have hB9 := below_regrown wr d9 os9
                  clear q0 u0
                  go_wp2
                  go_roundw
                  case rel => exact ⟨m + 1, by omega, by go_num, by rw [Hn3.out], below_tr Bi.out hB9⟩
                  case measure => simp [intOf]; omega
              · obtain rfl : m = 3 := by omega
                have Hp3 : Hid (preP q.pats j x 3 = pre0 q.pats (j + 1)) := preP_three Hx.out
                have Bj := Lib.hid (below_tr Bs bi)
                clear hss r3f r8f m3f y3f y4f bi Bs
                go_wp2
                go_roundw
                case rel => exact ⟨j + 1, by omega, by go_num, by rw [Hp3.out], Bj.out⟩
                case measure => simp [intOf]; omega
          · have hna : nAt (pre0 q.pats j) = vn.length := by
              unfold pre0 nAt
              rw [List.take_of_length_le (by omega), show metsN [] (q.pats.flatMap occP) = vn from Hvn.out]
            rw [hna]
            have B0r := below_tr B09 bo
            have y3g := cell_on y3f bo
            have y4g := cell_on y4f bo
            have m3g := RdEs.later m3f bo
            have r3g := r3f.later bo
            have r8g := r8f.later bo
            have husl : us.length ≤ 1200 := by have := Hul.out; omega
            clear hna y3f y4f m2f m3f r3f r8f B09 bo hj
            go_wp2
            clear hlt y3g
            go_loopw [14] (fun i wq => ∃ k : Nat, k ≤ vn.length ∧ i = .int .i64 k ∧ Below wr.heap.size wr wq) (fun i _ => vn.length - (intOf i).toNat)
            case atStart => exact ⟨0, by omega, rfl, Below.refl _ _⟩
            case round =>
              obtain ⟨k, hk, rfl, bk⟩ := hrel
              by_cases hkl : k < vn.length
              · obtain ⟨s, hs⟩ : ∃ y, vn[k]? = some y := ⟨_, List.getElem?_eq_getElem hkl⟩
                have h1 := nodup_has hvn hs
                have hmem : s ∈ varsN q.pats := by rw [Hvn.out]; exact List.mem_of_getElem? hs
                have h2 : hasS us s = true := by rw [← Hus.out, ← Hrv.out, hasS_iff, varsN_turn_mem]; exact hmem
                have h3 := varsN_ne hmem
                have r3k := r3g.later bk
                obtain ⟨g3, o3, rfl, cN⟩ := r3k.at_ (j := k) (u := .string s) (by simp [hs])
                have r8k := r8g.later bk
                have k1 := fun d os => law22Has (vn.take k) s (some ⟨g3, o3, none⟩) k d3 (Sort.grow (redrawn wr d) os) (by rw [List.length_take]; omega) (by omega) (by rw [List.map_take]; exact (r3k.take k).later (below_regrown wr d os))
                have k2 := fun d os => law22Has us s A8 us.length d8 (Sort.grow (redrawn wr d) os) rfl (by omega) (r8k.later (below_regrown wr d os))
                rw [h1] at k1
                rw [h2] at k2
                have q0 := fun d os => cell_regrown cN d os
                have hkd : (k : Int) ≤ d3 := by omega
                have Hbk := Lib.hid bk
                clear h1 h2 hmem hs r3k r8k cN r3g r8g m3g y4g bk
                go_wp2
                refine wp_region_quiet_below (by kernel_rfl) (by kernel_rfl) ?_; (repeat (any_goals (go_big_quiet_step ((first | (go_at_call 9; with_reducible exact Calls.quiet_tr2 (k1 _ _)) | (go_at_call 9; with_reducible exact Calls.quiet_tr2 (k2 _ _))))))); all_goals (refine wpQuiet_nil ?_; intro _ hw9; obtain ⟨⟨d9, os9⟩, hw8⟩ := hw9; subst hw8)
                have hB9 := below_regrown wr d9 os9
                clear q0 k1 k2 h3
                go_wp2
                go_roundw
                case rel => exact ⟨k + 1, by omega, by go_num, below_tr Hbk.out hB9⟩
                case measure => simp [intOf]; omega
              · have B1r := below_tr B0r bk
                have y4h := cell_on y4g bk
                have hq := qUsed n q.fils a3 c3 _ (RdEs.later m3g bk) (by omega) HZ5.out (by omega)
                have hufl := usedN_len n q.fils
                have hufn := usedN_nodup n q.fils
                generalize usedN n q.fils = uf at *
                clear r3g r8g m3g y4g bk B0r
                go_wp2_with fail
                refine hq.mono ?_
                rintro e w10 ⟨v10, rfl, own10, b10⟩
                obtain ⟨A10, d10, rfl, hd10, r10⟩ := own_slice own10
                have B10 := below_tr B1r b10
                have hufl2 : (uf.length : Int) ≤ 400 := by omega
                clear hq own10 b10 B1r y4h
                go_wp2
                go_loopw [16] (fun i wq => ∃ k : Nat, k ≤ uf.length ∧ i = .int .i64 k ∧ Below w10.heap.size w10 wq) (fun i _ => uf.length - (intOf i).toNat)
                case atStart => exact ⟨0, by omega, rfl, Below.refl _ _⟩
                case round =>
                  obtain ⟨k, hk, rfl, bk⟩ := hrel
                  by_cases hkl2 : k < uf.length
                  · obtain ⟨s, hs⟩ : ∃ y, uf[k]? = some y := ⟨_, List.getElem?_eq_getElem hkl2⟩
                    have h1 := nodup_has hufn hs
                    have r10k := r10.later bk
                    obtain ⟨g3, o3, rfl, cN⟩ := r10k.at_ (j := k) (u := .string s) (by simp [hs])
                    have k1 := fun d os => law22Has (uf.take k) s (some ⟨g3, o3, none⟩) k d10 (Sort.grow (redrawn wr d) os) (by rw [List.length_take]; omega) (by omega) (by rw [List.map_take]; exact (r10k.take k).later (below_regrown wr d os))
                    rw [h1] at k1
                    have q0 := fun d os => cell_regrown cN d os
                    have hkd : (k : Int) ≤ d10 := by omega
                    have Hbk := Lib.hid bk
                    clear h1 hs r10k cN r10 bk
                    go_wp2
                    refine wp_region_quiet_below (by kernel_rfl) (by kernel_rfl) ?_; (repeat (any_goals (go_big_quiet_step ((go_at_call 9; with_reducible exact Calls.quiet_tr2 (k1 _ _)))))); all_goals (refine wpQuiet_nil ?_; intro _ hw9; obtain ⟨⟨d9, os9⟩, hw8⟩ := hw9; subst hw8)
                    have hB9 := below_regrown wr d9 os9
                    clear q0 k1
                    go_wp2
                    go_roundw
                    case rel => exact ⟨k + 1, by omega, by go_num, below_tr Hbk.out hB9⟩
                    case measure => simp [intOf]; omega
                  · have Bend := Lib.hid (below_tr B10 bk)
                    clear r10 bk B10
                    go_wp2
                    go_ret
                    exact ⟨rfl, Bend.out⟩
      · have hj : j < rv.length := by omega
        have hjx : ((j + 1 : Nat) : Int) - 1 = j := by omega
        obtain ⟨x, hx⟩ : ∃ x, rv[rv.length - (j + 1)]? = some x := ⟨_, List.getElem?_eq_getElem (by omega)⟩
        have hx2 : q.pats[j]? = some x := by
          have h1 := Hrat.out (rv.length - (j + 1)) (by omega)
          have h2 := Hrl.out
          rw [← hx, ← h1]; congr 1; omega
        obtain ⟨g, o, cs, rfl, -, rfl, hc⟩ := (RdL.mono m2c b7 (fun _ _ _ h => h)).at_ (by omega) hx2
        have e0 : wr.cell? ⟨g, o + j * 15, none⟩ = some (.string x.s.v) := hc 0 _ rfl
        have e1 : wr.cell? ⟨g, o + j * 15 + 1, none⟩ = some (.int .i64 x.s.t.k) := hc 1 _ rfl
        have e2 : wr.cell? ⟨g, o + j * 15 + 2, none⟩ = some (.string x.s.t.x) := hc 2 _ rfl
        have e3 : wr.cell? ⟨g, o + j * 15 + 3, none⟩ = some (.string x.s.t.l) := hc 3 _ rfl
        have e4 : wr.cell? ⟨g, o + j * 15 + 4, none⟩ = some (.string x.s.t.y) := hc 4 _ rfl
        have e5 : wr.cell? ⟨g, o + j * 15 + 5, none⟩ = some (.string x.p.v) := hc 5 _ rfl
        have e6 : wr.cell? ⟨g, o + j * 15 + 6, none⟩ = some (.int .i64 x.p.t.k) := hc 6 _ rfl
        have e7 : wr.cell? ⟨g, o + j * 15 + 7, none⟩ = some (.string x.p.t.x) := hc 7 _ rfl
        have e8 : wr.cell? ⟨g, o + j * 15 + 8, none⟩ = some (.string x.p.t.l) := hc 8 _ rfl
        have e9 : wr.cell? ⟨g, o + j * 15 + 9, none⟩ = some (.string x.p.t.y) := hc 9 _ rfl
        have e10 : wr.cell? ⟨g, o + j * 15 + 10, none⟩ = some (.string x.o.v) := hc 10 _ rfl
        have e11 : wr.cell? ⟨g, o + j * 15 + 11, none⟩ = some (.int .i64 x.o.t.k) := hc 11 _ rfl
        have e12 : wr.cell? ⟨g, o + j * 15 + 12, none⟩ = some (.string x.o.t.x) := hc 12 _ rfl
        have e13 : wr.cell? ⟨g, o + j * 15 + 13, none⟩ = some (.string x.o.t.l) := hc 13 _ rfl
        have e14 : wr.cell? ⟨g, o + j * 15 + 14, none⟩ = some (.string x.o.t.y) := hc 14 _ rfl
        have y3d := cell_on y3c b7
        have hbs : wc.heap.size ≤ wr.heap.size := b7.size
        have own7' := own_below own7 ((Below.refl _ _).alloc (Nat.le_refl _) (.cells #[.string x.s.v, .int .i64 x.s.t.k, .string x.s.t.x, .string x.s.t.l, .string x.s.t.y, .string x.p.v, .int .i64 x.p.t.k, .string x.p.t.x, .string x.p.t.l, .string x.p.t.y, .string x.o.v, .int .i64 x.o.t.k, .string x.o.t.x, .string x.o.t.l, .string x.o.t.y] 34)) (Nat.le_refl _)
        have B4 : Below wc.heap.size wr (wr.alloc (.cells #[.string x.s.v, .int .i64 x.s.t.k, .string x.s.t.x, .string x.s.t.l, .string x.s.t.y, .string x.p.v, .int .i64 x.p.t.k, .string x.p.t.x, .string x.p.t.l, .string x.p.t.y, .string x.o.v, .int .i64 x.o.t.k, .string x.o.t.x, .string x.o.t.l, .string x.o.t.y] 34)) := (Below.refl _ _).alloc hbs _
        have R4 : Rd (wr.alloc (.cells #[.string x.s.v, .int .i64 x.s.t.k, .string x.s.t.x, .string x.s.t.l, .string x.s.t.y, .string x.p.v, .int .i64 x.p.t.k, .string x.p.t.x, .string x.p.t.l, .string x.p.t.y, .string x.o.v, .int .i64 x.o.t.k, .string x.o.t.x, .string x.o.t.l, .string x.o.t.y] 34)) (some ⟨wr.heap.size, 0, none⟩) ([x].flatMap cPat) := Rd.of_block (heap_alloc_new wr _) rfl
        have Hx := Lib.hid hx
        have hj2 : (j : Int) < q.pats.length := by have := Hrl.out; omega
        have B74 := b7.trans B4
        rw [hjx]
        clear hc hx hx2 own7 y3c y4c m2c m3c r3c r6 B0c b7 B4 hjx
        go_wp2_with (at_builtin; refine wpList_appG rfl rfl Tryd.underlying23 patInfo rfl (by omega) rfl own7' rfl R4 rfl (pats1 [x]) (by omega) (by omega) (by simp; omega) ?_; intro v5 w5 own5 hb5 _)
        go_roundw
        case rel =>
          refine ⟨j, v5, by omega, by go_num, rfl, ?_, B74.trans hb5⟩
          have h1 := take_snoc_of Hx.out
          rw [show rv.length - j = rv.length - (j + 1) + 1 by omega, h1, List.flatMap_append]
          exact own5
        case measure => simp [intOf]
end Go.Proofs.YtmdjffnelkgmpaaDoor
