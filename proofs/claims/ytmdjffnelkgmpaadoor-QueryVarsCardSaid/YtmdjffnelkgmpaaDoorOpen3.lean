/- Arguments of this program's types, opened: places, patterns, keys, queries. -/
import Derived.Test.YtmdjffnelkgmpaaDoorOpen2
import Derived.Test.YtmdjffnelkgmpaaDoorLaw22g
namespace Go.Proofs.YtmdjffnelkgmpaaDoor
open Go Go.ChangeShapes Go.WideShapes Go.ChangeAt Go.RowKit Go.Lib Go.Joins Go.Deep Fm

section
variable {H : Type} {enc : TypeId × Value → H}
set_option maxRecDepth 100000 in
theorem opens_slot (w : World) (f : Nat) : Opens enc Tryd.prog w f 32 5 (fun cs (s : Sl) => cs = slC s) (fun _ => True) := by
  intro cs d ps h hs
  obtain ⟨xs, n, _, hx, hl, hlen, hf⟩ := DataW.trod_struct Tryd.underlying32 h
  have hd : d = .agg (xs.map (·.1)) := congrArg Prod.fst hx
  subst hd
  have hc : Tryd.prog.cellsOf 32 = 5 := by kernel_rfl
  have c1 : Tryd.prog.cellsOf 9 = 1 := by kernel_rfl
  have c2 : Tryd.prog.cellsOf 30 = 4 := by kernel_rfl
  rw [hc] at hl
  match cs, hl, xs, hlen with
  | [v0, v1, v2, v3, v4], _, [y0, y1], _ =>
    have g0 := hf 0 _ rfl
    have g1 := hf 1 _ rfl
    simp [c1, c2] at g0 g1
    have hs1 : Sized Tryd.prog 30 y1.1 := hs.field Tryd.underlying32 (i := 1) rfl rfl
    obtain ⟨v, e0, _, _⟩ := DataW.trod_string Tryd.underlying9 g0
    obtain ⟨t, e1, _, _⟩ := opens_term w _ _ y1.1 y1.2 g1 hs1
    simp [tmC] at e0 e1
    obtain ⟨e1a, e1b, e1c, e1d⟩ := e1
    exact ⟨⟨v, t⟩, by simp [slC, e0, e1a, e1b, e1c, e1d], rfl, trivial⟩
set_option maxRecDepth 100000 in
theorem opens_pat (w : World) (f : Nat) : Opens enc Tryd.prog w f 34 15 (fun cs (p : Pat) => cs = cPat p) (fun _ => True) := by
  intro cs d ps h hs
  obtain ⟨xs, n, _, hx, hl, hlen, hf⟩ := DataW.trod_struct Tryd.underlying34 h
  have hd : d = .agg (xs.map (·.1)) := congrArg Prod.fst hx
  subst hd
  have hc : Tryd.prog.cellsOf 34 = 15 := by kernel_rfl
  have c1 : Tryd.prog.cellsOf 32 = 5 := by kernel_rfl
  rw [hc] at hl
  match cs, hl, xs, hlen with
  | [v0, v1, v2, v3, v4, v5, v6, v7, v8, v9, v10, v11, v12, v13, v14], _, [y0, y1, y2], _ =>
    have g0 := hf 0 _ rfl
    have g1 := hf 1 _ rfl
    have g2 := hf 2 _ rfl
    simp [c1] at g0 g1 g2
    obtain ⟨s, e0, _, _⟩ := opens_slot w _ _ y0.1 y0.2 g0 (hs.field Tryd.underlying34 (i := 0) rfl rfl)
    obtain ⟨p, e1, _, _⟩ := opens_slot w _ _ y1.1 y1.2 g1 (hs.field Tryd.underlying34 (i := 1) rfl rfl)
    obtain ⟨o, e2, _, _⟩ := opens_slot w _ _ y2.1 y2.2 g2 (hs.field Tryd.underlying34 (i := 2) rfl rfl)
    simp [slC] at e0 e1 e2
    refine ⟨⟨s, p, o⟩, ?_, rfl, trivial⟩
    simp [cPat, e0, e1, e2]
set_option maxRecDepth 100000 in
theorem opens_key (w : World) (f : Nat) : Opens enc Tryd.prog w f 79 2 (fun cs (y : Ky) => cs = [.string y.v, .bool y.d]) (fun _ => True) := by
  intro cs d ps h hs
  obtain ⟨xs, n, _, hx, hl, hlen, hf⟩ := DataW.trod_struct Tryd.underlying79 h
  have hc : Tryd.prog.cellsOf 79 = 2 := by kernel_rfl
  have c1 : Tryd.prog.cellsOf 9 = 1 := by kernel_rfl
  have c2 : Tryd.prog.cellsOf 4 = 1 := by kernel_rfl
  rw [hc] at hl
  match cs, hl, xs, hlen with
  | [v0, v1], _, [y0, y1], _ =>
    have g0 := hf 0 _ rfl
    have g1 := hf 1 _ rfl
    simp [c1, c2] at g0 g1
    obtain ⟨s, e0, _, _⟩ := DataW.trod_string Tryd.underlying9 g0
    obtain ⟨b, e1, _⟩ := DataW.trod_bool Tryd.underlying4 g1
    simp at e0 e1
    exact ⟨⟨s, b⟩, by simp [e0, e1], rfl, trivial⟩
set_option maxRecDepth 100000 in
theorem opens_query (w : World) (f : Nat) : Opens enc Tryd.prog w (f + 1) 27 8 (fun cs (q : Qy f) => RdQ f w cs q) (fun q => szL q) := by
  intro cs d ps h hs
  obtain ⟨xs, n, hfn, hx, hl, hlen, hf⟩ := DataW.trod_struct Tryd.underlying27 h
  obtain rfl : f = n := by omega
  have hd : d = .agg (xs.map (·.1)) := congrArg Prod.fst hx
  subst hd
  have hc : Tryd.prog.cellsOf 27 = 8 := by kernel_rfl
  have c0 : Tryd.prog.cellsOf 4 = 1 := by kernel_rfl
  have c1 : Tryd.prog.cellsOf 22 = 1 := by kernel_rfl
  have c2 : Tryd.prog.cellsOf 23 = 1 := by kernel_rfl
  have c3 : Tryd.prog.cellsOf 24 = 1 := by kernel_rfl
  have c4 : Tryd.prog.cellsOf 25 = 1 := by kernel_rfl
  have c5 : Tryd.prog.cellsOf 3 = 1 := by kernel_rfl
  have b1 : Tryd.prog.bytesOf 9 = 16 := by kernel_rfl
  have b2 : Tryd.prog.bytesOf 34 = 216 := by kernel_rfl
  have b3 : Tryd.prog.bytesOf 49 = 104 := by kernel_rfl
  have b4 : Tryd.prog.bytesOf 79 = 24 := by kernel_rfl
  rw [hc] at hl
  match cs, hl, xs, hlen with
  | [v0, v1, v2, v3, v4, v5, v6, v7], _, [y0, y1, y2, y3, y4, y5, y6, y7], _ =>
    have g0 := hf 0 _ rfl
    have g1 := hf 1 _ rfl
    have g2 := hf 2 _ rfl
    have g3 := hf 3 _ rfl
    have g4 := hf 4 _ rfl
    have g5 := hf 5 _ rfl
    have g6 := hf 6 _ rfl
    have g7 := hf 7 _ rfl
    simp [c0, c1, c2, c3, c4, c5] at g0 g1 g2 g3 g4 g5 g6 g7
    obtain ⟨ask, e0, _⟩ := DataW.trod_bool Tryd.underlying4 g0
    obtain ⟨dist, e1, _⟩ := DataW.trod_bool Tryd.underlying4 g1
    obtain ⟨l2, A2, k2, e2, hle2, ⟨ws, hrd2, ha2⟩, hz2, hcap2⟩ := open_list (F := f) Tryd.underlying22 (by kernel_rfl) (by omega) (Nat.le_succ f) (opens_str w f) (d := y2.1) (ps := y2.2) g2 (hs.field Tryd.underlying27 (i := 2) rfl rfl)
    obtain ⟨l3, A3, k3, e3, hle3, hrd3, hz3, hcap3⟩ := open_list (F := f) Tryd.underlying23 (by kernel_rfl) (by omega) (Nat.le_succ f) (opens_pat w f) (d := y3.1) (ps := y3.2) g3 (hs.field Tryd.underlying27 (i := 3) rfl rfl)
    obtain ⟨l4, A4, k4, e4, hle4, hrd4, hz4, hcap4⟩ := open_list (F := f) Tryd.underlying24 (by kernel_rfl) (by omega) (Nat.le_succ f) (opens_expr w f) (d := y4.1) (ps := y4.2) g4 (hs.field Tryd.underlying27 (i := 4) rfl rfl)
    obtain ⟨l5, A5, k5, e5, hle5, hrd5, hz5, hcap5⟩ := open_list (F := f) Tryd.underlying25 (by kernel_rfl) (by omega) (Nat.le_succ f) (opens_key w f) (d := y5.1) (ps := y5.2) g5 (hs.field Tryd.underlying27 (i := 5) rfl rfl)
    obtain ⟨lim, e6, _, _⟩ := DataW.trod_int Tryd.underlying3 g6
    obtain ⟨off, e7, _, _⟩ := DataW.trod_int Tryd.underlying3 g7
    simp at e0 e1 e2 e3 e4 e5 e6 e7
    have hx2 := ha2.flat (f := fun s => [Value.string s])
    have hm : l2.flatMap (fun s => [Value.string s]) = l2.map Value.string := by
      clear hrd2 ha2 hz2 hle2 e2 hx2
      induction l2 with
      | nil => rfl
      | cons a r ih => simp [List.flatMap_cons, ih]
    rw [hm] at hx2
    subst hx2
    rw [b1] at hcap2
    rw [b2] at hcap3
    rw [b3] at hcap4
    rw [b4] at hcap5
    unfold reachBytes at hcap2 hcap3 hcap4 hcap5
    refine ⟨⟨ask, dist, l2, l3, l4, l5, lim, off⟩, ⟨A2, A3, A4, A5, k2, k3, k4, k5, ?_, ⟨hle2, hle3, hle4, hle5⟩, hrd2, hrd3, hrd4, hrd5⟩, rfl, ?_, ?_, ?_, ?_, hz4⟩
    · rw [e0, e1, e2, e3, e4, e5, e6, e7]
    · show l2.length ≤ _; omega
    · show l3.length ≤ _; omega
    · show l4.length ≤ _; omega
    · show l5.length ≤ _; omega
set_option maxRecDepth 100000 in
theorem arg_query {r : Reach} {b0 : Nat} {w : World} {v : Value} {d : DataW H} {ps : List MemPlace} (hv : Value.okWide Tryd.prog w r b0 27 v) (hd : DataW.Trod enc Tryd.prog w 0 (fun _ => true) true 27 v d ps) (hs : Sized Tryd.prog 27 d) :
    ∃ (n : Nat) (q : Qy n) (cs : List Value), v = .agg cs.toArray ∧ RdQ n w cs q ∧ szL q := by
  obtain ⟨cs, rfl, hsz⟩ := okWide_struct Tryd.underlying27 hv
  obtain ⟨fuel, hf⟩ := hd
  obtain ⟨q, e, _, z⟩ := opens_query w fuel cs.toList d ps (DataW.trod_le (Nat.le_succ _) hf) hs
  exact ⟨fuel, q, cs.toList, rfl, e, z⟩
set_option maxRecDepth 100000 in
theorem arg_pat {r : Reach} {b0 : Nat} {w : World} {v : Value} {d : DataW H} {ps : List MemPlace} (hv : Value.okWide Tryd.prog w r b0 34 v) (hd : DataW.Trod enc Tryd.prog w 0 (fun _ => true) true 34 v d ps) (hs : Sized Tryd.prog 34 d) :
    ∃ (p : Pat), v = vPat p := by
  obtain ⟨cs, rfl, hsz⟩ := okWide_struct Tryd.underlying34 hv
  obtain ⟨fuel, hf⟩ := hd
  obtain ⟨p, e, _, _⟩ := opens_pat w fuel cs.toList d ps hf hs
  refine ⟨p, ?_⟩
  have : cs = (cPat p).toArray := by rw [← e]
  rw [this]; rfl
end
end Go.Proofs.YtmdjffnelkgmpaaDoor
