/- Arguments of whatever size, opened: terms, conditions, places, patterns, keys, queries; with bounds for every text. -/
import Derived.Test.YtafaanegkoolgaaGreatDoorJOpen2
import Derived.Test.YtafaanegkoolgaaGreatDoorJLaw22g
namespace Go.Proofs.YtafaanegkoolgaaGreatDoor
open Go Go.ChangeShapes Go.WideShapes Go.ChangeAt Go.RowKit Go.Lib Go.Joins Go.Deep Fm

def szTw (t : Tm) : Prop := t.x.size ≤ 140737488351232 ∧ t.l.size ≤ 140737488351232 ∧ t.y.size ≤ 140737488351232
def szW : (n : Nat) → ExT n → Prop
  | 0, _ => True
  | n + 1, (_, s, t, kids) => s.size ≤ 140737488351232 ∧ szTw t ∧ kids.length ≤ 1353245080300 ∧ ∀ x ∈ kids, szW n x
def szSw (s : Sl) : Prop := s.v.size ≤ 140737488351232 ∧ szTw s.t
def szPw (p : Pat) : Prop := szSw p.s ∧ szSw p.p ∧ szSw p.o
def szQw {n : Nat} (q : Qy n) : Prop := q.vars.length ≤ 281474976710656 ∧ q.pats.length ≤ 281474976710656 ∧ q.fils.length ≤ 1353245080300 ∧ q.ord.length ≤ 281474976710656 ∧ (∀ x ∈ q.vars, x.size ≤ 140737488351232) ∧ (∀ x ∈ q.pats, szPw x) ∧ (∀ x ∈ q.fils, szW n x) ∧ ∀ x ∈ q.ord, x.v.size ≤ 140737488351232
theorem szTw.t {t : Tm} (h : szTw t) : szT t := ⟨Nat.le_trans h.1 (by decide), h.2.1, Nat.le_trans h.2.2 (by decide)⟩
theorem szSw.s {s : Sl} (h : szSw s) : szS s := ⟨Nat.le_trans h.1 (by decide), h.2.t⟩
theorem szPw.p {p : Pat} (h : szPw p) : szP p := ⟨h.1.s, h.2.1.s, h.2.2.s⟩
theorem szW.x : ∀ {n : Nat} {e : ExT n}, szW n e → szX n e
  | 0, _, _ => trivial
  | _ + 1, (_, _, _, _), ⟨h1, h2, h3, h4⟩ => ⟨Nat.le_trans h1 (by decide), h2.t, h3, fun y hy => (h4 y hy).x⟩
theorem szW.e : ∀ {n : Nat} {e : ExT n}, szW n e → szE n e
  | 0, _, _ => trivial
  | _ + 1, (_, _, _, _), ⟨h1, h2, h3, h4⟩ => ⟨h1, h2.1, h3, fun y hy => (h4 y hy).e⟩
theorem szQw.q {n : Nat} {q : Qy n} (h : szQw q) : szQ q :=
  ⟨h.1, h.2.1, h.2.2.1, h.2.2.2.1, fun x hx => Nat.le_trans (h.2.2.2.2.1 x hx) (by decide),
    fun x hx => (h.2.2.2.2.2.1 x hx).p, fun x hx => (h.2.2.2.2.2.2.1 x hx).x, fun x hx => Nat.le_trans (h.2.2.2.2.2.2.2 x hx) (by decide)⟩
theorem szQw.l {n : Nat} {q : Qy n} (h : szQw q) : szL q := ⟨h.1, h.2.1, h.2.2.1, h.2.2.2.1, fun x hx => (h.2.2.2.2.2.2.1 x hx).e⟩
theorem szQw.e {n : Nat} {q : Qy n} (h : szQw q) : ∀ x ∈ q.fils, szE n x := fun x hx => (h.2.2.2.2.2.2.1 x hx).e
namespace Wd
section
variable {H : Type} {enc : TypeId × Value → H}
set_option maxRecDepth 100000 in
theorem opens_term (w : World) (f : Nat) : Opens enc Tryz.prog w f 36 4 (fun cs (t : Tm) => cs = tmC t) szTw := by
  intro cs d ps h hs
  obtain ⟨xs, n, _, hx, hl, hlen, hf⟩ := DataW.trod_struct Tryz.underlying36 h
  have hd : d = .agg (xs.map (·.1)) := congrArg Prod.fst hx
  subst hd
  have hc : Tryz.prog.cellsOf 36 = 4 := by kernel_rfl
  have c1 : Tryz.prog.cellsOf 9 = 1 := by kernel_rfl
  have c0 : Tryz.prog.cellsOf 34 = 1 := by kernel_rfl
  rw [hc] at hl
  match cs, hl, xs, hlen with
  | [v0, v1, v2, v3], _, [y0, y1, y2, y3], _ =>
    have g0 := hf 0 _ rfl
    have g1 := hf 1 _ rfl
    have g2 := hf 2 _ rfl
    have g3 := hf 3 _ rfl
    simp [c0, c1] at g0 g1 g2 g3
    obtain ⟨k, e0, _, _⟩ := DataW.trod_int Tryz.underlying34 g0
    obtain ⟨x, e1, q1, _⟩ := DataW.trod_string Tryz.underlying9 g1
    obtain ⟨l, e2, q2, _⟩ := DataW.trod_string Tryz.underlying9 g2
    obtain ⟨y, e3, q3, _⟩ := DataW.trod_string Tryz.underlying9 g3
    simp at e0 e1 e2 e3
    refine ⟨⟨k, x, l, y⟩, by simp [tmC, e0, e1, e2, e3], rfl, ?_⟩
    have hs1 : Sized Tryz.prog 9 y1.1 := hs.field Tryz.underlying36 (i := 1) rfl rfl
    have hs2 : Sized Tryz.prog 9 y2.1 := hs.field Tryz.underlying36 (i := 2) rfl rfl
    have hs3 : Sized Tryz.prog 9 y3.1 := hs.field Tryz.underlying36 (i := 3) rfl rfl
    rw [q1] at hs1
    rw [q2] at hs2
    rw [q3] at hs3
    exact ⟨sized_str hs1, sized_str hs2, sized_str hs3⟩
set_option maxRecDepth 100000 in
theorem opens_expr (w : World) : ∀ f : Nat, Opens enc Tryz.prog w f 38 7 (RdE f w) (szW f)
  | 0 => by intro cs d ps h _; simp [DataW.trod] at h
  | f + 1 => by
    intro cs d ps h hs
    have ih := opens_expr w f
    obtain ⟨xs, n, hfn, hx, hl, hlen, hf⟩ := DataW.trod_struct Tryz.underlying38 h
    obtain rfl : f = n := by omega
    have hd : d = .agg (xs.map (·.1)) := congrArg Prod.fst hx
    subst hd
    have hc : Tryz.prog.cellsOf 38 = 7 := by kernel_rfl
    have c1 : Tryz.prog.cellsOf 9 = 1 := by kernel_rfl
    have c0 : Tryz.prog.cellsOf 33 = 1 := by kernel_rfl
    have c2 : Tryz.prog.cellsOf 36 = 4 := by kernel_rfl
    have c3 : Tryz.prog.cellsOf 24 = 1 := by kernel_rfl
    have hby : Tryz.prog.bytesOf 38 = 104 := by kernel_rfl
    rw [hc] at hl
    match cs, hl, xs, hlen with
    | [v0, v1, v2, v3, v4, v5, v6], _, [y0, y1, y2, y3], _ =>
      have g0 := hf 0 _ rfl
      have g1 := hf 1 _ rfl
      have g2 := hf 2 _ rfl
      have g3 := hf 3 _ rfl
      simp [c0, c1, c2, c3] at g0 g1 g2 g3
      obtain ⟨k, e0, _, _⟩ := DataW.trod_int Tryz.underlying33 g0
      obtain ⟨s, e1, q1, _⟩ := DataW.trod_string Tryz.underlying9 g1
      have hs1 : Sized Tryz.prog 9 y1.1 := hs.field Tryz.underlying38 (i := 1) rfl rfl
      have hs2 : Sized Tryz.prog 36 y2.1 := hs.field Tryz.underlying38 (i := 2) rfl rfl
      have hs3 : Sized Tryz.prog 24 y3.1 := hs.field Tryz.underlying38 (i := 3) rfl rfl
      obtain ⟨t, e2, _, zt⟩ := opens_term w f _ y2.1 y2.2 g2 hs2
      obtain ⟨l, A, c, e3, hle, hrd, hz, hcap⟩ := open_list Tryz.underlying24 hc (by omega) (Nat.le_succ f) ih (d := y3.1) (ps := y3.2) g3 hs3
      rw [q1] at hs1
      simp [tmC] at e0 e1 e2 e3
      obtain ⟨e2a, e2b, e2c, e2d⟩ := e2
      refine ⟨(k, s, t, l), ⟨A, c, ?_, hle, hrd⟩, rfl, sized_str hs1, zt, ?_, hz⟩
      · rw [e0, e1, e2a, e2b, e2c, e2d, e3]
      · rw [hby] at hcap
        unfold reachBytes at hcap
        omega

set_option maxRecDepth 100000 in
theorem opens_slot (w : World) (f : Nat) : Opens enc Tryz.prog w f 49 5 (fun cs (s : Sl) => cs = slC s) szSw := by
  intro cs d ps h hs
  obtain ⟨xs, n, _, hx, hl, hlen, hf⟩ := DataW.trod_struct Tryz.underlying49 h
  have hd : d = .agg (xs.map (·.1)) := congrArg Prod.fst hx
  subst hd
  have hc : Tryz.prog.cellsOf 49 = 5 := by kernel_rfl
  have c1 : Tryz.prog.cellsOf 9 = 1 := by kernel_rfl
  have c2 : Tryz.prog.cellsOf 36 = 4 := by kernel_rfl
  rw [hc] at hl
  match cs, hl, xs, hlen with
  | [v0, v1, v2, v3, v4], _, [y0, y1], _ =>
    have g0 := hf 0 _ rfl
    have g1 := hf 1 _ rfl
    simp [c1, c2] at g0 g1
    have hs1 : Sized Tryz.prog 36 y1.1 := hs.field Tryz.underlying49 (i := 1) rfl rfl
    have hs0 : Sized Tryz.prog 9 y0.1 := hs.field Tryz.underlying49 (i := 0) rfl rfl
    obtain ⟨v, e0, q0, _⟩ := DataW.trod_string Tryz.underlying9 g0
    rw [q0] at hs0
    obtain ⟨t, e1, _, zt⟩ := opens_term w _ _ y1.1 y1.2 g1 hs1
    simp [tmC] at e0 e1
    obtain ⟨e1a, e1b, e1c, e1d⟩ := e1
    exact ⟨⟨v, t⟩, by simp [slC, e0, e1a, e1b, e1c, e1d], rfl, sized_str hs0, zt⟩
set_option maxRecDepth 100000 in
theorem opens_pat (w : World) (f : Nat) : Opens enc Tryz.prog w f 51 15 (fun cs (p : Pat) => cs = cPat p) szPw := by
  intro cs d ps h hs
  obtain ⟨xs, n, _, hx, hl, hlen, hf⟩ := DataW.trod_struct Tryz.underlying51 h
  have hd : d = .agg (xs.map (·.1)) := congrArg Prod.fst hx
  subst hd
  have hc : Tryz.prog.cellsOf 51 = 15 := by kernel_rfl
  have c1 : Tryz.prog.cellsOf 49 = 5 := by kernel_rfl
  rw [hc] at hl
  match cs, hl, xs, hlen with
  | [v0, v1, v2, v3, v4, v5, v6, v7, v8, v9, v10, v11, v12, v13, v14], _, [y0, y1, y2], _ =>
    have g0 := hf 0 _ rfl
    have g1 := hf 1 _ rfl
    have g2 := hf 2 _ rfl
    simp [c1] at g0 g1 g2
    obtain ⟨s, e0, _, z0⟩ := opens_slot w _ _ y0.1 y0.2 g0 (hs.field Tryz.underlying51 (i := 0) rfl rfl)
    obtain ⟨p, e1, _, z1⟩ := opens_slot w _ _ y1.1 y1.2 g1 (hs.field Tryz.underlying51 (i := 1) rfl rfl)
    obtain ⟨o, e2, _, z2⟩ := opens_slot w _ _ y2.1 y2.2 g2 (hs.field Tryz.underlying51 (i := 2) rfl rfl)
    simp [slC] at e0 e1 e2
    refine ⟨⟨s, p, o⟩, ?_, rfl, z0, z1, z2⟩
    simp [cPat, e0, e1, e2]
set_option maxRecDepth 100000 in
theorem opens_key (w : World) (f : Nat) : Opens enc Tryz.prog w f 66 2 (fun cs (y : Ky) => cs = [.string y.v, .bool y.d]) (fun y => y.v.size ≤ 140737488351232) := by
  intro cs d ps h hs
  obtain ⟨xs, n, _, hx, hl, hlen, hf⟩ := DataW.trod_struct Tryz.underlying66 h
  have hd : d = .agg (xs.map (·.1)) := congrArg Prod.fst hx
  subst hd
  have hc : Tryz.prog.cellsOf 66 = 2 := by kernel_rfl
  have c1 : Tryz.prog.cellsOf 9 = 1 := by kernel_rfl
  have c2 : Tryz.prog.cellsOf 4 = 1 := by kernel_rfl
  rw [hc] at hl
  match cs, hl, xs, hlen with
  | [v0, v1], _, [y0, y1], _ =>
    have g0 := hf 0 _ rfl
    have g1 := hf 1 _ rfl
    simp [c1, c2] at g0 g1
    have hs0 : Sized Tryz.prog 9 y0.1 := hs.field Tryz.underlying66 (i := 0) rfl rfl
    obtain ⟨s, e0, q0, _⟩ := DataW.trod_string Tryz.underlying9 g0
    rw [q0] at hs0
    obtain ⟨b, e1, _⟩ := DataW.trod_bool Tryz.underlying4 g1
    simp at e0 e1
    exact ⟨⟨s, b⟩, by simp [e0, e1], rfl, sized_str hs0⟩
set_option maxRecDepth 100000 in
theorem opens_query (w : World) (f : Nat) : Opens enc Tryz.prog w (f + 1) 27 8 (fun cs (q : Qy f) => RdQ f w cs q) (fun q => szQw q) := by
  intro cs d ps h hs
  obtain ⟨xs, n, hfn, hx, hl, hlen, hf⟩ := DataW.trod_struct Tryz.underlying27 h
  obtain rfl : f = n := by omega
  have hd : d = .agg (xs.map (·.1)) := congrArg Prod.fst hx
  subst hd
  have hc : Tryz.prog.cellsOf 27 = 8 := by kernel_rfl
  have c0 : Tryz.prog.cellsOf 4 = 1 := by kernel_rfl
  have c1 : Tryz.prog.cellsOf 22 = 1 := by kernel_rfl
  have c2 : Tryz.prog.cellsOf 23 = 1 := by kernel_rfl
  have c3 : Tryz.prog.cellsOf 24 = 1 := by kernel_rfl
  have c4 : Tryz.prog.cellsOf 25 = 1 := by kernel_rfl
  have c5 : Tryz.prog.cellsOf 3 = 1 := by kernel_rfl
  have b1 : Tryz.prog.bytesOf 9 = 16 := by kernel_rfl
  have b2 : Tryz.prog.bytesOf 51 = 216 := by kernel_rfl
  have b3 : Tryz.prog.bytesOf 38 = 104 := by kernel_rfl
  have b4 : Tryz.prog.bytesOf 66 = 24 := by kernel_rfl
  rw [hc] at hl
  match cs, hl, xs, hlen with
  | [v0, v1, v2, v3, v4, v5, v6, v7], _, [y0, y1, y2, y3, y4, y5, y6, y7], _ =>
    have g0 := hf 0 _ rfl
    have g1 := hf 1 _ rfl
    have g2 := hf 2 _ rfl
    have g3 := hf 3 _ rfl
    have g4 := hf 4 _ rfl
    have g5 := hf 5 _ rfl
    have g6 := hf 6 _ rfl
    have g7 := hf 7 _ rfl
    simp [c0, c1, c2, c3, c4, c5] at g0 g1 g2 g3 g4 g5 g6 g7
    obtain ⟨ask, e0, _⟩ := DataW.trod_bool Tryz.underlying4 g0
    obtain ⟨dist, e1, _⟩ := DataW.trod_bool Tryz.underlying4 g1
    obtain ⟨l2, A2, k2, e2, hle2, ⟨ws, hrd2, ha2⟩, hz2, hcap2⟩ := open_list (F := f) Tryz.underlying22 (by kernel_rfl) (by omega) (Nat.le_succ f) (opens_str w f) (d := y2.1) (ps := y2.2) g2 (hs.field Tryz.underlying27 (i := 2) rfl rfl)
    obtain ⟨l3, A3, k3, e3, hle3, hrd3, hz3, hcap3⟩ := open_list (F := f) Tryz.underlying23 (by kernel_rfl) (by omega) (Nat.le_succ f) (opens_pat w f) (d := y3.1) (ps := y3.2) g3 (hs.field Tryz.underlying27 (i := 3) rfl rfl)
    obtain ⟨l4, A4, k4, e4, hle4, hrd4, hz4, hcap4⟩ := open_list (F := f) Tryz.underlying24 (by kernel_rfl) (by omega) (Nat.le_succ f) (opens_expr w f) (d := y4.1) (ps := y4.2) g4 (hs.field Tryz.underlying27 (i := 4) rfl rfl)
    obtain ⟨l5, A5, k5, e5, hle5, hrd5, hz5, hcap5⟩ := open_list (F := f) Tryz.underlying25 (by kernel_rfl) (by omega) (Nat.le_succ f) (opens_key w f) (d := y5.1) (ps := y5.2) g5 (hs.field Tryz.underlying27 (i := 5) rfl rfl)
    obtain ⟨lim, e6, _, _⟩ := DataW.trod_int Tryz.underlying3 g6
    obtain ⟨off, e7, _, _⟩ := DataW.trod_int Tryz.underlying3 g7
    simp at e0 e1 e2 e3 e4 e5 e6 e7
    have hx2 := ha2.flat (f := fun s => [Value.string s])
    have hm : l2.flatMap (fun s => [Value.string s]) = l2.map Value.string := by
      clear hrd2 ha2 hz2 hle2 e2 hx2
      induction l2 with
      | nil => rfl
      | cons a r ih => simp [List.flatMap_cons, ih]
    rw [hm] at hx2
    subst hx2
    rw [b1] at hcap2
    rw [b2] at hcap3
    rw [b3] at hcap4
    rw [b4] at hcap5
    unfold reachBytes at hcap2 hcap3 hcap4 hcap5
    refine ⟨⟨ask, dist, l2, l3, l4, l5, lim, off⟩, ⟨A2, A3, A4, A5, k2, k3, k4, k5, ?_, ⟨hle2, hle3, hle4, hle5⟩, hrd2, hrd3, hrd4, hrd5⟩, rfl, ?_, ?_, ?_, ?_, hz2, hz3, hz4, hz5⟩
    · rw [e0, e1, e2, e3, e4, e5, e6, e7]
    · show l2.length ≤ _; omega
    · show l3.length ≤ _; omega
    · show l4.length ≤ _; omega
    · show l5.length ≤ _; omega
set_option maxRecDepth 100000 in
theorem arg_query {r : Reach} {b0 : Nat} {w : World} {v : Value} {d : DataW H} {ps : List MemPlace} (hv : Value.okWide Tryz.prog w r b0 27 v) (hd : DataW.Trod enc Tryz.prog w 0 (fun _ => true) true 27 v d ps) (hs : Sized Tryz.prog 27 d) :
    ∃ (n : Nat) (q : Qy n) (cs : List Value), v = .agg cs.toArray ∧ RdQ n w cs q ∧ szQw q := by
  obtain ⟨cs, rfl, hsz⟩ := okWide_struct Tryz.underlying27 hv
  obtain ⟨fuel, hf⟩ := hd
  obtain ⟨q, e, _, z⟩ := opens_query w fuel cs.toList d ps (DataW.trod_le (Nat.le_succ _) hf) hs
  exact ⟨fuel, q, cs.toList, rfl, e, z⟩
set_option maxRecDepth 100000 in
theorem arg_pat {r : Reach} {b0 : Nat} {w : World} {v : Value} {d : DataW H} {ps : List MemPlace} (hv : Value.okWide Tryz.prog w r b0 51 v) (hd : DataW.Trod enc Tryz.prog w 0 (fun _ => true) true 51 v d ps) (hs : Sized Tryz.prog 51 d) :
    ∃ (p : Pat), v = vPat p ∧ szPw p := by
  obtain ⟨cs, rfl, hsz⟩ := okWide_struct Tryz.underlying51 hv
  obtain ⟨fuel, hf⟩ := hd
  obtain ⟨p, e, _, z⟩ := opens_pat w fuel cs.toList d ps hf hs
  refine ⟨p, ?_, z⟩
  have : cs = (cPat p).toArray := by rw [← e]
  rw [this]; rfl
set_option maxRecDepth 100000 in
theorem arg_query2 {r : Reach} {b0 : Nat} {w : World} {v v' : Value} {d d' : DataW H} {ps ps' : List MemPlace} (hv : Value.okWide Tryz.prog w r b0 27 v) (hd : DataW.Trod enc Tryz.prog w 0 (fun _ => true) true 27 v d ps) (hs : Sized Tryz.prog 27 d)
    (hv' : Value.okWide Tryz.prog w r b0 27 v') (hd' : DataW.Trod enc Tryz.prog w 0 (fun _ => true) true 27 v' d' ps') (hs' : Sized Tryz.prog 27 d') :
    ∃ (n : Nat) (q q' : Qy n) (cs cs' : List Value), v = .agg cs.toArray ∧ v' = .agg cs'.toArray ∧ RdQ n w cs q ∧ szQw q ∧ RdQ n w cs' q' ∧ szQw q' := by
  obtain ⟨cs, rfl, hsz⟩ := okWide_struct Tryz.underlying27 hv
  obtain ⟨cs', rfl, hsz'⟩ := okWide_struct Tryz.underlying27 hv'
  obtain ⟨f, hf⟩ := hd
  obtain ⟨f', hf'⟩ := hd'
  obtain ⟨q, e, _, z⟩ := opens_query w (max f f') cs.toList d ps (DataW.trod_le (by omega) hf) hs
  obtain ⟨q', e', _, z'⟩ := opens_query w (max f f') cs'.toList d' ps' (DataW.trod_le (by omega) hf') hs'
  exact ⟨max f f', q, q', cs.toList, cs'.toList, rfl, rfl, e, z, e', z'⟩
end
end Wd
end Go.Proofs.YtafaanegkoolgaaGreatDoor
