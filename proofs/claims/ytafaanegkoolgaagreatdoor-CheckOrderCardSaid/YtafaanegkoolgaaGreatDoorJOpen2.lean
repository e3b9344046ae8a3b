/- What every row's last step needs: arguments read as they did, the tables of the library, the witness's world. The tables' facts out of a row's list; the witness's world. Arguments of this program's types, opened: texts, terms, conditions. -/
import Derived.Test.YtafaanegkoolgaaGreatDoorJBase
import Derived.Test.YtafaanegkoolgaaGreatDoorCards
import Derived.Test.YtafaanegkoolgaaGreatDoorTie
import Derived.Lib.LaidU8
import Derived.Lib.LaidIn
import Derived.Deep.DeepHandedRow
import Derived.Deep.DeepWitnessRowRef
import Derived.OpenShut
import Derived.SizedLaws
import Derived.Carry
import Derived.Test.YtafaanegkoolgaaGreatDoorJOpen
namespace Go.Proofs.YtafaanegkoolgaaGreatDoor
open Go Go.ChangeShapes Go.WideShapes Go.ChangeAt Go.RowKit Go.Lib
open Go.ChangeMaps (open_string shut_string)

section
variable {H : Type} {enc : TypeId × Value → H} {P : Program}

theorem trodAll_stays (hl : laidOutB P = true) {W W' : World} (hb : Below W.heap.size W W') {sp : Nat → Bool} :
    ∀ (ts : List TypeId) (vs : List Value) (ds : List (DataW H)) (ps : List MemPlace), (∀ t ∈ ts, P.readableRec t = true ∧ t < P.types.size) → DataW.TrodAll enc P W 0 (fun _ => true) true ts vs ds ps →
      (∀ x ∈ ps, x.block < W.heap.size) → (∀ x ∈ ps, sp x.block = true) → DataW.TrodAll enc P W' 0 sp true ts vs ds ps
  | [], [], [], _, _, h, _, _ => h
  | t :: ts, v :: vs, d :: ds, ps, hr, h, hlt, hsp => by
    obtain ⟨p, q, h1, h2, rfl⟩ := h
    exact ⟨p, q, WideElems.Trod_stays hl (hr t (by simp)).1 (hr t (by simp)).2 h1 (fun x hx => hb.same (hlt x (by simp [hx]))) (fun x hx => hsp x (by simp [hx])),
      trodAll_stays hl hb ts vs ds q (fun t ht => hr t (by simp [ht])) h2 (fun x hx => hlt x (by simp [hx])) (fun x hx => hsp x (by simp [hx])), rfl⟩
  | [], [], _ :: _, _, _, h, _, _ => h.elim
  | [], _ :: _, _, _, _, h, _, _ => h.elim
  | _ :: _, [], _, _, _, h, _, _ => h.elim
  | _ :: _, _ :: _, [], _, _, h, _, _ => h.elim

/-- The row's last step: the result is true, the arguments read as they did, nothing old has turned. -/
theorem post_true {fn : Func} {s : ChangeSpec} {apart fresh handsOn again : Bool} {W W' : World} {args : Array Value} {ds gs : List (DataW H)} {before : List MemPlace} {tb : TypeId}
    (hl : laidOutB P = true) (hr : fn.params.toList.all (fun t => P.readableRec t && decide (t < P.types.size)) = true) (hres : fn.resultTypes = #[tb]) (htb : P.underlying tb = some .bool) (hs : s.vars = [])
    (hW : DataW.Whole enc P fn.params.toList s.vars apart W args.toList ds gs before) (hf : s.fn H (ds ++ gs) = { results := [.lit (.bool true)], args := ds }) (hb : Below W.heap.size W W') :
    s.post enc P fn apart fresh handsOn again W args (.bool true) W' := by
  have hlt : ∀ p ∈ before, p.block < W.heap.size := fun p hp => hW.lt p hp
  have hW' := hW
  obtain ⟨p, q, hA, hV, rfl, hz, hn⟩ := hW
  rw [hs] at hV
  obtain ⟨rfl, rfl⟩ := trodVars_none hV
  rw [List.append_nil] at hf hW' hz hn hlt
  have hr' : ∀ t ∈ fn.params.toList, P.readableRec t = true ∧ t < P.types.size := fun t ht => by
    have := List.all_eq_true.1 hr t ht
    simpa using this
  have hargs : ∀ sp : Nat → Bool, (∀ x ∈ p, sp x.block = true) → DataW.TrodAll enc P W' 0 sp true fn.params.toList args.toList ds p := fun sp hsp => trodAll_stays hl hb _ _ _ _ hr' hA hlt hsp
  have hold : ∀ x ∈ p, (fun b => decide (b < W.heap.size)) x.block = true := fun x hx => by simpa using hlt x hx
  have hout : ∀ (b : Nat) (sp : Nat → Bool) (hd : Bool), DataW.TrodAll enc P W' b sp hd fn.resultTypes.toList ((Value.bool true).resultList fn.resultTypes.size) [.lit (.bool true)] [] := fun b sp hd => by
    rw [hres]; exact trodAll_cons_mk (shut_bool htb _) trodAll_mk0
  refine ⟨ds, [], p, [], p, [], hW', ?_, ?_, ?_, World.keptBut_mono (fun x hx => ⟨hx, ?_⟩) (hb.frame (· ∈ p)), fun _ => ?_⟩
  · rw [List.append_nil, hf]; exact hout _ _ _
  · rw [List.append_nil, hf]; exact hargs _ hold
  · rw [List.append_nil, hf, hs]; rfl
  · exact Or.inr (by simpa using hx)
  · refine ⟨ok_one (t := tb) hres rfl (okWide_bool_mk htb _), _, ([] : List (DataW H)), ([] ++ p) ++ [], ⟨[] ++ p, [], trodAll_append (hargs _ (fun _ _ => rfl)) (hout _ _ _), ?_, rfl, ?_, ?_⟩, ?_⟩
    · rw [hs]; rfl
    · intro b off hp
      have hin : MemPlace.cell b off ∈ p := by simpa using hp
      rw [hb.frozen (hlt _ hin)]
      exact hz b off hin
    · intro ha
      have := hn ha
      simpa using this
    · intro x hx _
      simpa using hx

/-- A slice of numbers, opened: it reads some list. -/
theorem open_numbers {r : Reach} {b0 : Nat} {w : World} {t e : TypeId} {k : IntKind} {sp : Nat → Bool} {v : Value} {d : DataW H} {ps : List MemPlace} (ht : P.underlying t = some (.slice e)) (he : P.underlying e = some (.int k)) (hc : P.cellsOf e = 1)
    (hv0 : Value.okWide P w r b0 t v) (hd : DataW.Trod enc P w 0 sp true t v d ps) : ∃ (l : List Int) (A : Option Addr) (c : Nat), v = .slice A l.length c ∧ Rd w A (l.map (Value.int k)) ∧ l.length ≤ maxLen := by
  obtain ⟨A0, l0, c0, rfl⟩ := okWide_slice ht hv0
  obtain ⟨fuel, hf⟩ := hd
  rw [show (Value.slice A0 l0 c0).cells.toList = [.slice A0 l0 c0] from rfl] at hf
  rcases open_ints ht he hc hf with ⟨hv, _⟩ | ⟨a, len, cap, zs, hv, _, hle, hmax, hzl, _, hcell, _⟩
  · injection hv with hv
    exact ⟨[], none, 0, hv, Rd.nil _ _, by simp⟩
  · have hlz : len ≤ zs.length := by rw [hzl]; split <;> omega
    refine ⟨zs.take len, some a, cap, ?_, ?_, by simp; omega⟩
    · rw [List.length_take, Nat.min_eq_left hlz]
      injection hv
    · rcases Nat.eq_zero_or_pos zs.length with h0 | h0
      · have : zs = [] := by simpa using h0
        subst this; simpa using Rd.nil w (some a)
      · obtain ⟨b, off, rfl, hcc⟩ := ints_at hcell h0
        refine .inr ⟨b, off, rfl, fun j u hu => ?_⟩
        rw [List.getElem?_map, List.getElem?_take] at hu
        split at hu
        · rename_i hj
          have hjz : j < zs.length := by omega
          rw [hcc j hjz]
          simp [hjz] at hu
          simp [hjz, hu]
        · simp at hu
end
end Go.Proofs.YtafaanegkoolgaaGreatDoor
namespace Go.Proofs.YtafaanegkoolgaaGreatDoor
open Go Go.ChangeShapes Go.WideShapes Go.ChangeAt Go.RowKit Go.Lib
open Go.ChangeMaps (open_string shut_string)

theorem own : ownKnob Tryz.prog.godebug = none := by kernel_rfl
theorem laidOut : laidOutB Tryz.prog = true := by kernel_rfl

def laidList : List (String × DataW Unit) := [("unicode/utf8.acceptRanges", Rows.laid_unicode_utf8_acceptRanges), ("unicode/utf8.first", Rows.laid_unicode_utf8_first)]
theorem first_same : Rows.laid_unicode_utf8_first = Lib.firstData := by kernel_rfl
theorem accept_same : (Rows.laid_unicode_utf8_acceptRanges : DataW Unit) = Lib.acceptData := by kernel_rfl

/-- A world for the witnesses: the settled one, the two variables holding what their initialisers lay. -/
noncomputable def laidWorld (os : Os) : World :=
  let w0 := World.holding Tryz.prog os ⟨#[], #[], []⟩
  let put (h : Array Obj) (g : Nat) (cs : Array Value) : Array Obj := h.modify g fun
    | .cells _ t frozen => .cells cs t frozen
    | o => o
  let h1 := put w0.heap 0 (Lib.firstTab.map fun z => Value.int .u8 z).toArray
  let h2 := put h1 1 ((List.range 16).flatMap fun i => [Value.int .u8 (Lib.accLo i), Value.int .u8 (Lib.accHi i)]).toArray
  { w0 with heap := h2 }
theorem laid_met (os : Os) (args : Array Value) : laidMet Tryz.prog laidList ((laidWorld os).forCall (fun _ _ => 0) ⟨#[], args, []⟩).memory :=
  (LaidIn.of_run (l := laidList) [1, 0] 8 (by kernel_rfl) (by kernel_rfl) (by kernel_rfl) (by kernel_rfl)).met
end Go.Proofs.YtafaanegkoolgaaGreatDoor
namespace Go.Proofs.YtafaanegkoolgaaGreatDoor
open Go Go.ChangeShapes Go.WideShapes Go.ChangeAt Go.RowKit Go.Lib Go.Joins Go.Deep Fm

section
variable {H : Type} {enc : TypeId × Value → H}
theorem sized_arg {P : Program} {ts : List TypeId} {ds : List (DataW H)} {j : Nat} {t : TypeId} {d : DataW H} (hreach : (DataW.weightsEach P ts ds).all (· ≤ reachBytes) = true) (htj : ts[j]? = some t) (hdj : ds[j]? = some d) : Sized P t d := by
  intro m hm
  have := List.all_eq_true.1 hreach m (DataW.weights_mem_each htj hdj m hm)
  simpa using this

set_option maxRecDepth 100000 in
theorem opens_str (w : World) (f : Nat) : Opens enc Tryz.prog w f 9 1 (fun cs (s : ByteArray) => cs = [.string s]) (fun s => s.size ≤ 140737488351232) := by
  intro cs d ps h hs
  obtain ⟨s, rfl, hx, _⟩ := DataW.trod_string Tryz.underlying9 h
  have hd : d = .lit (.string s.data.toList) := congrArg Prod.fst hx
  subst hd
  exact ⟨s, rfl, rfl, sized_str hs⟩
set_option maxRecDepth 100000 in
theorem opens_term (w : World) (f : Nat) : Opens enc Tryz.prog w f 36 4 (fun cs (t : Tm) => cs = tmC t) (fun t => t.x.size ≤ 140737488351232) := by
  intro cs d ps h hs
  obtain ⟨xs, n, _, hx, hl, hlen, hf⟩ := DataW.trod_struct Tryz.underlying36 h
  have hd : d = .agg (xs.map (·.1)) := congrArg Prod.fst hx
  subst hd
  have hc : Tryz.prog.cellsOf 36 = 4 := by kernel_rfl
  have c1 : Tryz.prog.cellsOf 9 = 1 := by kernel_rfl
  have c0 : Tryz.prog.cellsOf 34 = 1 := by kernel_rfl
  rw [hc] at hl
  match cs, hl, xs, hlen with
  | [v0, v1, v2, v3], _, [y0, y1, y2, y3], _ =>
    have g0 := hf 0 _ rfl
    have g1 := hf 1 _ rfl
    have g2 := hf 2 _ rfl
    have g3 := hf 3 _ rfl
    simp [c0, c1] at g0 g1 g2 g3
    obtain ⟨k, e0, _, _⟩ := DataW.trod_int Tryz.underlying34 g0
    obtain ⟨x, e1, q1, _⟩ := DataW.trod_string Tryz.underlying9 g1
    obtain ⟨l, e2, _, _⟩ := DataW.trod_string Tryz.underlying9 g2
    obtain ⟨y, e3, _, _⟩ := DataW.trod_string Tryz.underlying9 g3
    simp at e0 e1 e2 e3
    refine ⟨⟨k, x, l, y⟩, by simp [tmC, e0, e1, e2, e3], rfl, ?_⟩
    have hs1 : Sized Tryz.prog 9 y1.1 := hs.field Tryz.underlying36 (i := 1) rfl rfl
    rw [q1] at hs1
    exact sized_str hs1
set_option maxRecDepth 100000 in
theorem opens_expr (w : World) : ∀ f : Nat, Opens enc Tryz.prog w f 38 7 (RdE f w) (szE f)
  | 0 => by intro cs d ps h _; simp [DataW.trod] at h
  | f + 1 => by
    intro cs d ps h hs
    have ih := opens_expr w f
    obtain ⟨xs, n, hfn, hx, hl, hlen, hf⟩ := DataW.trod_struct Tryz.underlying38 h
    obtain rfl : f = n := by omega
    have hd : d = .agg (xs.map (·.1)) := congrArg Prod.fst hx
    subst hd
    have hc : Tryz.prog.cellsOf 38 = 7 := by kernel_rfl
    have c1 : Tryz.prog.cellsOf 9 = 1 := by kernel_rfl
    have c0 : Tryz.prog.cellsOf 33 = 1 := by kernel_rfl
    have c2 : Tryz.prog.cellsOf 36 = 4 := by kernel_rfl
    have c3 : Tryz.prog.cellsOf 24 = 1 := by kernel_rfl
    have hby : Tryz.prog.bytesOf 38 = 104 := by kernel_rfl
    rw [hc] at hl
    match cs, hl, xs, hlen with
    | [v0, v1, v2, v3, v4, v5, v6], _, [y0, y1, y2, y3], _ =>
      have g0 := hf 0 _ rfl
      have g1 := hf 1 _ rfl
      have g2 := hf 2 _ rfl
      have g3 := hf 3 _ rfl
      simp [c0, c1, c2, c3] at g0 g1 g2 g3
      obtain ⟨k, e0, _, _⟩ := DataW.trod_int Tryz.underlying33 g0
      obtain ⟨s, e1, q1, _⟩ := DataW.trod_string Tryz.underlying9 g1
      have hs1 : Sized Tryz.prog 9 y1.1 := hs.field Tryz.underlying38 (i := 1) rfl rfl
      have hs2 : Sized Tryz.prog 36 y2.1 := hs.field Tryz.underlying38 (i := 2) rfl rfl
      have hs3 : Sized Tryz.prog 24 y3.1 := hs.field Tryz.underlying38 (i := 3) rfl rfl
      obtain ⟨t, e2, _, zt⟩ := opens_term w f _ y2.1 y2.2 g2 hs2
      obtain ⟨l, A, c, e3, hle, hrd, hz, hcap⟩ := open_list Tryz.underlying24 hc (by omega) (Nat.le_succ f) ih (d := y3.1) (ps := y3.2) g3 hs3
      rw [q1] at hs1
      simp [tmC] at e0 e1 e2 e3
      obtain ⟨e2a, e2b, e2c, e2d⟩ := e2
      refine ⟨(k, s, t, l), ⟨A, c, ?_, hle, hrd⟩, rfl, sized_str hs1, zt, ?_, hz⟩
      · rw [e0, e1, e2a, e2b, e2c, e2d, e3]
      · rw [hby] at hcap
        unfold reachBytes at hcap
        omega

set_option maxRecDepth 100000 in
theorem arg_texts {r : Reach} {b0 : Nat} {w : World} {v : Value} {d : DataW H} {ps : List MemPlace} (hv : Value.okWide Tryz.prog w r b0 22 v) (hd : DataW.Trod enc Tryz.prog w 0 (fun _ => true) true 22 v d ps) (hs : Sized Tryz.prog 22 d) :
    ∃ (l : List ByteArray) (A : Option Addr) (c : Nat), v = .slice A l.length c ∧ l.length ≤ c ∧ Rd w A (l.map Value.string) ∧ l.length ≤ 8796093021952 ∧ ∀ s ∈ l, s.size ≤ 140737488351232 := by
  obtain ⟨A0, l0, c0, rfl⟩ := okWide_slice Tryz.underlying22 hv
  obtain ⟨fuel, hf⟩ := hd
  obtain ⟨l, A, c, hcs, hle, ⟨xs, hrd, ha⟩, hz, hcap⟩ := open_list (F := fuel) Tryz.underlying22 (by kernel_rfl) (by omega) (Nat.le_succ _) (opens_str w fuel) (show DataW.trod enc Tryz.prog w 0 (fun _ => true) true fuel 22 [.slice A0 l0 c0] = some (d, ps) from hf) hs
  have hby : Tryz.prog.bytesOf 9 = 16 := by kernel_rfl
  rw [hby] at hcap
  unfold reachBytes at hcap
  have hx := ha.flat (f := fun s => [Value.string s])
  have hm : l.flatMap (fun s => [Value.string s]) = l.map Value.string := by
    clear hcs hle ha hz hx
    induction l with
    | nil => rfl
    | cons a r ih => simp [List.flatMap_cons, ih]
  rw [hm] at hx
  subst hx
  injection hcs with hcs _
  exact ⟨l, A, c, hcs, hle, hrd, by omega, hz⟩
set_option maxRecDepth 100000 in
theorem arg_terms {r : Reach} {b0 : Nat} {w : World} {v : Value} {d : DataW H} {ps : List MemPlace} (hv : Value.okWide Tryz.prog w r b0 42 v) (hd : DataW.Trod enc Tryz.prog w 0 (fun _ => true) true 42 v d ps) (hs : Sized Tryz.prog 42 d) :
    ∃ (l : List Tm) (A : Option Addr) (c : Nat), v = .slice A l.length c ∧ l.length ≤ c ∧ RdTs w A l ∧ l.length ≤ 2513169434843 ∧ ∀ t ∈ l, t.x.size ≤ 140737488351232 := by
  obtain ⟨A0, l0, c0, rfl⟩ := okWide_slice Tryz.underlying42 hv
  obtain ⟨fuel, hf⟩ := hd
  obtain ⟨l, A, c, hcs, hle, hrd, hz, hcap⟩ := open_list (F := fuel) Tryz.underlying42 (by kernel_rfl) (by omega) (Nat.le_succ _) (opens_term w fuel) (show DataW.trod enc Tryz.prog w 0 (fun _ => true) true fuel 42 [.slice A0 l0 c0] = some (d, ps) from hf) hs
  have hby : Tryz.prog.bytesOf 36 = 56 := by kernel_rfl
  rw [hby] at hcap
  unfold reachBytes at hcap
  injection hcs with hcs _
  exact ⟨l, A, c, hcs, hle, hrd, by omega, hz⟩
set_option maxRecDepth 100000 in
theorem arg_exprs {r : Reach} {b0 : Nat} {w : World} {v : Value} {d : DataW H} {ps : List MemPlace} (hv : Value.okWide Tryz.prog w r b0 24 v) (hd : DataW.Trod enc Tryz.prog w 0 (fun _ => true) true 24 v d ps) (hs : Sized Tryz.prog 24 d) :
    ∃ (n : Nat) (l : List (ExT n)) (A : Option Addr) (c : Nat), v = .slice A l.length c ∧ l.length ≤ c ∧ RdEs n w A l ∧ l.length ≤ 1353245080300 ∧ ∀ x ∈ l, szE n x := by
  obtain ⟨A0, l0, c0, rfl⟩ := okWide_slice Tryz.underlying24 hv
  obtain ⟨fuel, hf⟩ := hd
  obtain ⟨l, A, c, hcs, hle, hrd, hz, hcap⟩ := open_list (F := fuel) Tryz.underlying24 (by kernel_rfl) (by omega) (Nat.le_succ _) (opens_expr w fuel) (show DataW.trod enc Tryz.prog w 0 (fun _ => true) true fuel 24 [.slice A0 l0 c0] = some (d, ps) from hf) hs
  have hby : Tryz.prog.bytesOf 38 = 104 := by kernel_rfl
  rw [hby] at hcap
  unfold reachBytes at hcap
  injection hcs with hcs _
  exact ⟨fuel, l, A, c, hcs, hle, hrd, by omega, hz⟩
set_option maxRecDepth 100000 in
theorem arg_term {r : Reach} {b0 : Nat} {w : World} {v : Value} {d : DataW H} {ps : List MemPlace} (hv : Value.okWide Tryz.prog w r b0 36 v) (hd : DataW.Trod enc Tryz.prog w 0 (fun _ => true) true 36 v d ps) (hs : Sized Tryz.prog 36 d) :
    ∃ (t : Tm), v = .agg #[.int .i64 t.k, .string t.x, .string t.l, .string t.y] ∧ t.x.size ≤ 140737488351232 := by
  obtain ⟨cs, rfl, hsz⟩ := okWide_struct Tryz.underlying36 hv
  obtain ⟨fuel, hf⟩ := hd
  obtain ⟨t, e, _, z⟩ := opens_term w fuel cs.toList d ps hf hs
  refine ⟨t, ?_, z⟩
  have : cs = (tmC t).toArray := by rw [← e]
  rw [this]; rfl
end
end Go.Proofs.YtafaanegkoolgaaGreatDoor
