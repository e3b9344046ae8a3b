/- The library's facts out of a row's list; the witness's world. Printed by gen/close8.py for linesTermRow. A range over an iterator that keeps a state of its own in a cell (a captured variable), with a body that is never left early. -/
import Derived.Test.YtffpgandgajihaaGreatDoorJRegion
import Derived.Test.YtffpgandgajihaaGreatDoorJWr3
import Derived.Test.YtffpgandgajihaaGreatDoorJTxPU
import Derived.LaidLaws
import Derived.Lib.LaidIn
import Derived.Lib.LaidCaseMet
import Derived.RangeFuncNested
import Derived.RangeFuncBound
import Derived.RangeFuncCalls
import Derived.RangeFuncLeaves
import Derived.RangeFuncBox
import Derived.Shelf.Abstract
import Derived.Shelf.RegionOpen
import Derived.OwnWalkIn
import Derived.TacticsInMore
import Derived.LoopNIn
import Derived.LoopIn
import Derived.Maps.OwnIn
import Derived.OrdersIn
import Derived.Test.YtffpgandgajihaaGreatDoorJMem
namespace Go.Proofs.YtffpgandgajihaaGreatDoor
open Go Go.ChangeShapes Go.WideShapes Go.ChangeAt Go.RowKit Go.Lib
open Go.ChangeMaps (open_string shut_string)

theorem own : ownKnob Tryz.prog.godebug = none := by kernel_rfl
theorem laidOut : laidOutB Tryz.prog = true := by kernel_rfl

def caseRen : Go.Shelf.Ren := ⟨Tryz.lays274_ren.f, Tryz.lays274_ren.t, fun | 13 => 3 | n => n⟩
theorem caseLays : Lays.n274 Tryz.prog caseRen := { Tryz.lays274 with }
def laidFore : List (String × DataW Unit) := [("math/bits.deBruijn32tab", Rows.laid_math_bits_deBruijn32tab), ("math/bits.deBruijn64tab", Rows.laid_math_bits_deBruijn64tab), ("internal/strconv.uint64pow10", Rows.laid_internal_strconv_uint64pow10), ("unicode/utf8.acceptRanges", Rows.laid_unicode_utf8_acceptRanges), ("strconv.ErrRange", Rows.laid_strconv_ErrRange), ("strconv.ErrSyntax", Rows.laid_strconv_ErrSyntax)]
def laidRear : List (String × DataW Unit) := [("unicode/utf8.first", Rows.laid_unicode_utf8_first)]
def laidList : List (String × DataW Unit) := [("math/bits.deBruijn32tab", Rows.laid_math_bits_deBruijn32tab), ("math/bits.deBruijn64tab", Rows.laid_math_bits_deBruijn64tab), ("internal/strconv.uint64pow10", Rows.laid_internal_strconv_uint64pow10), ("unicode/utf8.acceptRanges", Rows.laid_unicode_utf8_acceptRanges), ("strconv.ErrRange", Rows.laid_strconv_ErrRange), ("strconv.ErrSyntax", Rows.laid_strconv_ErrSyntax), ("unicode.CaseRanges", Rows.laid_unicode_CaseRanges), ("unicode/utf8.first", Rows.laid_unicode_utf8_first)]
theorem first_same : Rows.laid_unicode_utf8_first = Lib.firstData := by kernel_rfl
theorem accept_same : (Rows.laid_unicode_utf8_acceptRanges : DataW Unit) = Lib.acceptData := by kernel_rfl
theorem case_same : Rows.laid_unicode_CaseRanges = Lib.caseData := by kernel_rfl
theorem deb_same : (Rows.laid_math_bits_deBruijn64tab : DataW Unit) = Lib.tabData .u8 [0, 1, 56, 2, 57, 49, 28, 3, 61, 58, 42, 50, 38, 29, 17, 4, 62, 47, 59, 36, 45, 43, 51, 22, 53, 39, 33, 30, 24, 18, 12, 5, 63, 55, 48, 27, 60, 41, 37, 16, 46, 35, 44, 21, 52, 32, 23, 11, 54, 26, 40, 15, 34, 20, 31, 10, 25, 14, 19, 9, 13, 8, 7, 6] := by kernel_rfl

theorem ctxT_of {W : World} (hL : laidMetH Tryz.prog laidList W) (hsh : W.ShapedOpen Tryz.prog) : CtxT W := by
  refine ⟨⟨?_, Go.Proofs.cell_of_shapedOpen_int (zero := #[.int .i64 0]) (t := 3) hsh (of_decide_eq_true (by kernel_rfl)) (by kernel_rfl) rfl (by kernel_rfl) (by kernel_rfl) Tryz.underlying3⟩, ?_⟩
  · have h1 := Lib.laidMet.reads hL (.tail _ (.tail _ (.tail _ (.tail _ (.tail _ (.tail _ (.tail _ (.head _))))))))
    have h2 := Lib.laidMet.reads hL (.tail _ (.tail _ (.tail _ (.head _))))
    rw [first_same] at h1
    rw [accept_same] at h2
    exact utf8Tabs_of_reads Tryz.lays260 ⟨by kernel_rfl, by kernel_rfl, by kernel_rfl, by kernel_rfl, by kernel_rfl, by kernel_rfl, by kernel_rfl⟩ h1 h2
  · have h3 := Lib.laidMet.reads hL (.tail _ (.head _))
    rw [deb_same] at h3
    obtain ⟨g, t, cs, fuel, p, hg, hty, hvar, hd⟩ := h3
    have hg0 : Tryz.prog.globalNamed "math/bits.deBruijn64tab" = some 8 := by kernel_rfl
    obtain rfl := Option.some.inj (hg0.symm.trans hg)
    have ht0 : (Tryz.prog.globals[8]?).map (·.type) = some 276 := by kernel_rfl
    obtain rfl := Option.some.inj (ht0.symm.trans hty)
    have hcs := cells_of_tab Tryz.underlying276 Tryz.underlying5 (by kernel_rfl) (by kernel_rfl) hd
    unfold TzV
    rw [World.var?_cell hg hvar 15, ← Array.getElem?_toList, hcs]
    rfl

theorem err_of {W : World} (hL : laidMetH Tryz.prog laidList W) : ErrV W := by
  obtain ⟨g, t, cs, fuel, p, hg, ht, hv, hd⟩ := Lib.laidMet.reads hL (.tail _ (.tail _ (.tail _ (.tail _ (.tail _ (.head _))))))
  have hg0 : Tryz.prog.globalNamed "strconv.ErrSyntax" = some 5 := by kernel_rfl
  obtain rfl := Option.some.inj (hg0.symm.trans hg)
  have ht0 : (Tryz.prog.globals[5]?).map (·.type) = some 86 := by kernel_rfl
  obtain rfl := Option.some.inj (ht0.symm.trans ht)
  obtain ⟨_, u, v, hcs, _, _⟩ := iface_of_trod Tryz.underlying86 hd
  have hc := World.var?_cell hg hv 0
  refine ⟨.iface u v, ?_, .inr ⟨u, v, rfl⟩⟩
  rw [hc, ← Array.getElem?_toList, hcs]; rfl

theorem errR_of {W : World} (hL : laidMetH Tryz.prog laidList W) : ErrR W := by
  obtain ⟨g, t, cs, fuel, p, hg, ht, hv, hd⟩ := Lib.laidMet.reads hL (.tail _ (.tail _ (.tail _ (.tail _ (.head _)))))
  have hg0 : Tryz.prog.globalNamed "strconv.ErrRange" = some 6 := by kernel_rfl
  obtain rfl := Option.some.inj (hg0.symm.trans hg)
  have ht0 : (Tryz.prog.globals[6]?).map (·.type) = some 86 := by kernel_rfl
  obtain rfl := Option.some.inj (ht0.symm.trans ht)
  obtain ⟨_, u, v, hcs, _, _⟩ := iface_of_trod Tryz.underlying86 hd
  have hc := World.var?_cell hg hv 0
  refine ⟨.iface u v, ?_, .inr ⟨u, v, rfl⟩⟩
  rw [hc, ← Array.getElem?_toList, hcs]; rfl
theorem ctx_of {W : World} (hL : laidMetH Tryz.prog laidList W) (hsh : W.ShapedOpen Tryz.prog) : CtxT W ∧ ErrB W := ⟨ctxT_of hL hsh, err_of hL, errR_of hL⟩

theorem LaidVars_split {P : Program} {w : World} : ∀ {l l' : List (String × DataW Unit)} {ps : List MemPlace}, DataW.LaidVars P w (l ++ l') ps → ∃ a b, ps = a ++ b ∧ DataW.LaidVars P w l a ∧ DataW.LaidVars P w l' b
  | [], l', ps, h => ⟨[], ps, rfl, rfl, h⟩
  | (n, d) :: r, l', ps, h => by
    obtain ⟨g, t, cs, fuel, p, q, h1, h2, h3, h4, h5, rfl⟩ := h
    obtain ⟨a, b, rfl, ha, hb⟩ := LaidVars_split h5
    exact ⟨_, b, (List.append_assoc _ _ _).symm, ⟨g, t, cs, fuel, p, a, h1, h2, h3, h4, ha, rfl⟩, hb⟩
/-- A list's order does not matter. -/
theorem laidMet_turn {P : Program} {w : World} {l1 l2 l3 : List (String × DataW Unit)} (h : laidMet P ((l1 ++ l2) ++ l3) w) : laidMet P (l1 ++ (l3 ++ l2)) w := by
  obtain ⟨ps, hl, hn, hr⟩ := h
  obtain ⟨a, c, rfl, hab, hc⟩ := LaidVars_split hl
  obtain ⟨a, b, rfl, ha, hb⟩ := LaidVars_split hab
  have hp : (a ++ (c ++ b)).Perm ((a ++ b) ++ c) := by
    rw [List.append_assoc]
    exact List.Perm.append_left a List.perm_append_comm
  exact ⟨a ++ (c ++ b), Go.LaidVars_app ha (Go.LaidVars_app hc hb), hp.nodup_iff.2 hn, fun x off hx => hr x off (hp.mem_iff.1 hx)⟩

/-- A world for the witnesses: the settled one, the variables holding what their initialisers lay. -/
noncomputable def laidWorld (os : Os) : World :=
  let N := (World.settled Tryz.prog os).heap.size
  let w0 := World.holding Tryz.prog os ⟨#[.cells Lib.caseCells5 (Tryz.lays274_ren.t 208) (0, 0), .cells #[.string ⟨#[118, 97, 108, 117, 101, 32, 111, 117, 116, 32, 111, 102, 32, 114, 97, 110, 103, 101]⟩] 282 (0, 0), .cells #[.string ⟨#[105, 110, 118, 97, 108, 105, 100, 32, 115, 121, 110, 116, 97, 120]⟩] 282 (0, 0)], #[], []⟩
  let put (h : Array Obj) (g : Nat) (cs : Array Value) : Array Obj := h.modify g fun
    | .cells _ t frozen => .cells cs t frozen
    | o => o
  let h1 := put w0.heap 7 #[Value.int .u8 0, Value.int .u8 1, Value.int .u8 28, Value.int .u8 2, Value.int .u8 29, Value.int .u8 14, Value.int .u8 24, Value.int .u8 3, Value.int .u8 30, Value.int .u8 22, Value.int .u8 20, Value.int .u8 15, Value.int .u8 25, Value.int .u8 17, Value.int .u8 4, Value.int .u8 8, Value.int .u8 31, Value.int .u8 27, Value.int .u8 13, Value.int .u8 23, Value.int .u8 21, Value.int .u8 19, Value.int .u8 16, Value.int .u8 7, Value.int .u8 26, Value.int .u8 12, Value.int .u8 18, Value.int .u8 6, Value.int .u8 11, Value.int .u8 5, Value.int .u8 10, Value.int .u8 9]
  let h2 := put h1 8 #[Value.int .u8 0, Value.int .u8 1, Value.int .u8 56, Value.int .u8 2, Value.int .u8 57, Value.int .u8 49, Value.int .u8 28, Value.int .u8 3, Value.int .u8 61, Value.int .u8 58, Value.int .u8 42, Value.int .u8 50, Value.int .u8 38, Value.int .u8 29, Value.int .u8 17, Value.int .u8 4, Value.int .u8 62, Value.int .u8 47, Value.int .u8 59, Value.int .u8 36, Value.int .u8 45, Value.int .u8 43, Value.int .u8 51, Value.int .u8 22, Value.int .u8 53, Value.int .u8 39, Value.int .u8 33, Value.int .u8 30, Value.int .u8 24, Value.int .u8 18, Value.int .u8 12, Value.int .u8 5, Value.int .u8 63, Value.int .u8 55, Value.int .u8 48, Value.int .u8 27, Value.int .u8 60, Value.int .u8 41, Value.int .u8 37, Value.int .u8 16, Value.int .u8 46, Value.int .u8 35, Value.int .u8 44, Value.int .u8 21, Value.int .u8 52, Value.int .u8 32, Value.int .u8 23, Value.int .u8 11, Value.int .u8 54, Value.int .u8 26, Value.int .u8 40, Value.int .u8 15, Value.int .u8 34, Value.int .u8 20, Value.int .u8 31, Value.int .u8 10, Value.int .u8 25, Value.int .u8 14, Value.int .u8 19, Value.int .u8 9, Value.int .u8 13, Value.int .u8 8, Value.int .u8 7, Value.int .u8 6]
  let h3 := put h2 4 #[Value.int .u64 1, Value.int .u64 10, Value.int .u64 100, Value.int .u64 1000, Value.int .u64 10000, Value.int .u64 100000, Value.int .u64 1000000, Value.int .u64 10000000, Value.int .u64 100000000, Value.int .u64 1000000000, Value.int .u64 10000000000, Value.int .u64 100000000000, Value.int .u64 1000000000000, Value.int .u64 10000000000000, Value.int .u64 100000000000000, Value.int .u64 1000000000000000, Value.int .u64 10000000000000000, Value.int .u64 100000000000000000, Value.int .u64 1000000000000000000, Value.int .u64 10000000000000000000]
  let h4 := put h3 1 ((List.range 16).flatMap fun i => [Value.int .u8 (Lib.accLo i), Value.int .u8 (Lib.accHi i)]).toArray
  let h5 := put h4 6 #[.iface 280 (.pointer (some ⟨N + 1, 0, none⟩))]
  let h6 := put h5 5 #[.iface 280 (.pointer (some ⟨N + 2, 0, none⟩))]
  let h7 := put h6 3 #[.slice (some ⟨N, 0, none⟩) Lib.caseA.size Lib.caseA.size]
  let h8 := put h7 0 (Lib.firstTab.map fun z => Value.int .u8 z).toArray
  { w0 with heap := h8 }
set_option maxRecDepth 100000 in
theorem laid_met (os : Os) (args : Array Value) : laidMet Tryz.prog laidList ((laidWorld os).forCall (fun _ _ => 0) ⟨#[], args, []⟩).memory := by
  have h := laidMet_with_case (ρ := caseRen) caseLays (by kernel_rfl) ⟨by kernel_rfl, by kernel_rfl, by kernel_rfl, by kernel_rfl, by kernel_rfl, by kernel_rfl⟩ (w := ((laidWorld os).forCall (fun _ _ => 0) ⟨#[], args, []⟩).memory)
    (l := laidFore ++ laidRear) 10 (by kernel_rfl) (by kernel_rfl) (by kernel_rfl) ((World.settled Tryz.prog default).heap.size) (Tryz.lays274_ren.t 208) (of_decide_eq_true (by kernel_rfl)) (by kernel_rfl) (by kernel_rfl) (by kernel_rfl)
  have h2 := laidMet_turn h
  have e : laidList = laidFore ++ ([("unicode.CaseRanges", Lib.caseData)] ++ laidRear) := by rw [← case_same]; rfl
  rw [e]
  exact h2
end Go.Proofs.YtffpgandgajihaaGreatDoor
namespace Go.Proofs.YtffpgandgajihaaGreatDoor
open Go Go.RowKit Go.Maps Go.Shelf

/-- How a body that is never left early ends. -/
def goesOn (R : World → Prop) (W : World) : Exit → Act → World → Prop
  | .normal, _, W' => KeepsOthers W W' ∧ R W'
  | _, _, _ => False
/-- The loop's own books. -/
def Books (l D : Nat) (rec : LoopState → Loop) (W : World) : Prop := W.heap[l]? = some (.loop (rec .ready)) ∧ W.heap[D]? = some (.deferred (some []))
theorem Books.stay {l D : Nat} {rec : LoopState → Loop} {W W' : World} (h : Books l D rec W) (hk : KeepsOthers W W') : Books l D rec W' := ⟨hk.same _ _ h.1 rfl, hk.same _ _ h.2 rfl⟩
theorem ownFrom_at {β : Type} {B : Nat} {I : β → World → Prop} (h : OwnFrom B I) {s : β} {W : World} {l : Nat} {x : Loop} (y : Obj) (hs : I s W) (hB : B ≤ l) (hl : W.heap[l]? = some (.loop x)) : I s (W.putObj l y) := h.putObj y hs hB hl rfl
theorem books_new (w : World) (rec : LoopState → Loop) : Books (w.heap.size + 1) w.heap.size rec ((w.alloc (.deferred (some []))).alloc (.loop (rec .ready))) := by
  refine ⟨?_, (Below.heap_alloc _ _ _ (by simp)).trans (World.alloc_heap_new w _)⟩
  have := World.alloc_heap_new (w.alloc (.deferred (some []))) (.loop (rec .ready))
  rwa [World.size_alloc] at this
variable {F : Fence} {n : Nat} {P : Program}
/-- One round. -/
theorem one_round {l D B : Nat} {fn : FuncId} {tmps : Array Value} {ps : Array Tmp} {assign body : Code} {W : World} {args : Array Value} {a₁ : Act} {J R : World → Prop} {m : Nat}
    (hfn : F.fn fn) (hlD : l ≠ D) (hlB : B ≤ l) (hJ : OwnFrom B (fun (_ : Unit) => J)) (hR : OwnFrom B (fun (_ : Unit) => R)) (hps : args.size = ps.size)
    (hb : Books l D (fun s => { state := s, pending := none, fn, tmps, params := ps, assign, body, defers := D }) W) (h0 : J W)
    (ha : ∀ (K : Act → World → Prop), K a₁ W → assign.wpIn (F.inRound l) m P (Exit.then K (fun _ _ _ => False)) { tmps := (ps.zip args).foldl (fun t (p, v) => t.setIfInBounds p v) tmps, defers := [] } W)
    (hbody : ∀ W2 : World, J W2 → body.wpIn (F.inRound l) m P (goesOn R W2) a₁ W2) :
    YieldAt F m P l args W fun e W' => e = .returned (.bool true) ∧ R W' ∧ Books l D (fun s => { state := s, pending := none, fn, tmps, params := ps, assign, body, defers := D }) W' := by
  obtain ⟨hl, hd⟩ := hb
  refine ⟨fn, _, assign, body, run_yield hl hps, roundIn_of_wpIn hfn (ha _ ⟨_, run_beginRound hl rfl, ?_⟩)⟩
  have hlt := (Array.getElem?_eq_some_iff.1 hl).1
  refine wpIn_mono (hbody _ (ownFrom_at hJ (s := ()) _ h0 hlB hl)) ?_
  intro e a3 W3 hp
  cases e with
  | normal =>
    obtain ⟨hk, hr⟩ := hp
    have hl3 := hk.same _ _ (World.putObj_heap_same (o := .loop { state := .busy, pending := none, fn, tmps, params := ps, assign, body, defers := D }) hlt) rfl
    have hd3 := hk.same _ _ ((World.putObj_heap_other (Ne.symm hlD)).trans hd) rfl
    refine ⟨_, _, run_endRound none hl3, rfl, ownFrom_at hR (s := ()) _ hr hlB hl3, World.putObj_heap_same (Array.getElem?_eq_some_iff.1 hl3).1, (World.putObj_heap_other (Ne.symm hlD)).trans hd3⟩
  | ret => exact hp.elim
  | exit id => exact hp.elim
  | goto t => exact hp.elim
  | panic ch => exact hp.elim
  | outgrown => exact hp.elim
/-- The whole range: I says what holds between rounds, J what holds where a round begins. -/
theorem wpIn_range_st {α : Type} {g : Operand} {ps : Array Tmp} {assign body : Code} {Q : Exit → Act → World → Prop} {a : Act} {w : World}
    (hro : F.round = none) (h1 : 1 ≤ n) {gf : Nat} {lb : Array Value} (hg : a.eval g = .func (.func gf) #[] lb) (hFg : F.fn gf) (eg : ∀ args w, (callFunc gf args).run P w = .ok (.enter gf args) w)
    (encs : α → Array Value) (hps : ∀ x, (encs x).size = ps.size) (I : List α → World → Prop) (J : List α → α → World → Prop) (S : List α → Prop)
    (hI : ∀ pre, OwnFrom w.heap.size (fun (_ : Unit) => I pre)) (hJ : ∀ pre x, OwnFrom w.heap.size (fun (_ : Unit) => J pre x)) (h0 : I [] w) (a₁ : α → Act)
    (hassign : ∀ (l : Nat) (x : α) (W : World) (K : Act → World → Prop), K (a₁ x) W →
      assign.wpIn (F.inRound l) (n - 1 - 1) P (Exit.then K (fun _ _ _ => False)) { tmps := (ps.zip (encs x)).foldl (fun t (p, v) => t.setIfInBounds p v) a.tmps, defers := [] } W)
    (hbody : ∀ (l : Nat) (pre : List α) (x : α) (W : World), J pre x W → body.wpIn (F.inRound l) (n - 1 - 1) P (goesOn (I (pre ++ [x])) W) (a₁ x) W)
    (hiter : ∀ (l : Nat) (K : World → Prop) (W : World), I [] W → K W → (∀ X Y, K X → KeepsOthers X Y → K Y) →
      (∀ pre x X, J pre x X → K X → YieldAt F (n - 1 - 1) P l (encs x) X fun e Y => e = .returned (.bool true) ∧ I (pre ++ [x]) Y ∧ K Y) →
      CallsIn F (n - 1) P gf (#[.func (.yield l) #[] #[]] ++ lb) W fun e Y => (∃ v, e = .returned v) ∧ ∃ xs, S xs ∧ I xs Y ∧ K Y)
    (hdone : ∀ (D : Nat) (xs : List α) (W : World), w.heap.size ≤ D → S xs → I xs W → W.heap[D]? = some (.deferred (some [])) → Q .normal { a with defers := { target := .collected D, args := #[] } :: a.defers } W) :
    (Code.rangeFunc g ps assign body).wpIn F n P Q a w := by
  refine wpIn_rangeFunc fun fn hfn => ?_
  have hB : Books (w.heap.size + 1) w.heap.size (fun s => { state := s, pending := none, fn, tmps := a.tmps, params := ps, assign, body, defers := w.heap.size }) ((w.alloc (.deferred (some []))).alloc (.loop { state := .ready, pending := none, fn, tmps := a.tmps, params := ps, assign, body, defers := w.heap.size })) := books_new w _
  have hI1 := (hI []).alloc (s := ()) (.loop { state := .ready, pending := none, fn, tmps := a.tmps, params := ps, assign, body, defers := w.heap.size }) ((hI []).alloc (s := ()) (.deferred (some [])) h0)
  have hcall := hiter (w.heap.size + 1) (Books (w.heap.size + 1) w.heap.size (fun s => { state := s, pending := none, fn, tmps := a.tmps, params := ps, assign, body, defers := w.heap.size })) _ hI1 hB (fun X Y h k => h.stay k)
    (fun pre x X hj hk => one_round (a₁ := a₁ x) (J := J pre x) (R := I (pre ++ [x])) hfn (by omega) (B := w.heap.size) (by omega) (hJ pre x) (hI (pre ++ [x])) (hps x) hk hj (fun K hK => hassign _ x X K hK) (fun W2 hj2 => hbody _ pre x W2 hj2))
  have he := run_enterLoop_outer (P := P) (w := w) fn a.tmps ps assign body
  generalize (w.alloc (.deferred (some []))).alloc (.loop { state := .ready, pending := none, fn, tmps := a.tmps, params := ps, assign, body, defers := w.heap.size }) = W1 at *
  have hres : (resolve a.eval (rangeCall g (w.heap.size + 1)) 0).run P W1 = .ok { target := .fn (.func gf) lb, args := #[.func (.yield (w.heap.size + 1)) #[] #[]] } W1 := by
    simp only [resolve, hg]
    simp [go_sem]
  have hinv : (invoke (.fn (.func gf) lb) #[.func (.yield (w.heap.size + 1)) #[] #[]]).run P W1 = .ok (.enter gf (#[.func (.yield (w.heap.size + 1)) #[] #[]] ++ lb)) W1 := by
    simp [invoke, go_sem, eg]
  have hlead : ∀ f', Target.leads P W1 (.fn (.func gf) lb) #[.func (.yield (w.heap.size + 1)) #[] #[]] = some f' → F.fn f' := by
    intro f' hf'
    simp [Target.leads] at hf'
    subst hf'
    exact hFg
  have hfin : ∀ (e : Ending) (W2 : World), ((∃ v, e = .returned v) ∧ ∃ xs, S xs ∧ I xs W2 ∧ Books (w.heap.size + 1) w.heap.size (fun s => { state := s, pending := none, fn, tmps := a.tmps, params := ps, assign, body, defers := w.heap.size }) W2) → rangePost F n P (w.heap.size + 1) Q { a with defers := [{ target := .collected w.heap.size, args := #[] }] ++ a.defers } e W2 := by
    rintro e W2 ⟨⟨v, rfl⟩, xs, hS, hi, hl, hd⟩
    exact ⟨none, _, run_endLoop hl (by simp), hdone _ xs _ (Nat.le_refl _) hS (ownFrom_at (hI xs) (s := ()) _ hi (by omega) hl) ((World.putObj_heap_other (by omega)).trans hd)⟩
  rw [← hro] at he
  exact ⟨w.heap.size + 1, _, W1, _, W1, gf, _, W1, he, hres, hlead, hinv, fun _ => h1, hcall.mono hfin⟩
/-- An append within a region that draws its order, in whatever fence. -/
theorem opIn_append {ops : Array Oper} {Q : Exit → Act → World → Prop} {i : Nat} {o : Oper} {K : Act → World → Prop} {a : Act} {w : World} (hoi : ops[i]? = some o) (hgd : o.guard = none) (s x : Operand) (t : TypeId)
    (ho : o.op = .call { callee := .builtin .append, args := #[s, x], argTypes := #[t, t] })
    (base : Nat) (e : TypeId) (inf : TypeInfo) (z : Value) (size bytes : Nat) (ht : P.underlying t = some (.slice e)) (hi : P.info? e = some inf) (hz : inf.zero = some z)
    (hsize : inf.size = size) (hby : inf.bytes = bytes) (hzs : z.cells.size = size) (hsz : 0 < size)
    (v : Value) (k : Nat) (xs : List Value) (hs : a.eval s = v) (hown : w.ownsRow base e size v k xs)
    (ad : Addr) (m c : Nat) (news : List Value) (hx : a.eval x = .slice (some ad) m c) (hl : news.length = m * size) (hnews : ∀ j u, news[j]? = some u → w.cell? (ad.add j) = some u) (h1 : ∀ u ∈ news, u.oneCell' = true)
    (h63 : k + m ≤ maxLen) (hbytes : (k + m) * bytes ≤ 140737488355328) (hbase : base ≤ w.heap.size)
    (h : ∀ v' w', w'.ownsRow base e size v' (k + m) (xs ++ news) → w.grownBy w' v.ownBlock → K (a.put o.dst v') w') : wpOpIn F n P ops Q i K a w := by
  refine wpOpIn_step hoi fun K' hK => ?_
  obtain ⟨v', w', hr, h2, h3, -, -⟩ := run_append_own_at (P := P) w base t o.type e inf z size bytes ht hi hz hsize hby hzs hsz v k xs hown ad m c news hl hnews h1 h63 hbytes hbase
  rw [if_pos (by simp [Region.wanted, hgd])]
  unfold Oper.wpIn
  refine ⟨by simp [Oper.about, ho, resolve, Target.leads, Sem.run_pure], ?_⟩
  rw [Oper.semAt_eq _ _ _ (by rw [ho]; intro c hc; cases hc)]
  simp [execOp, ho, resolve, invoke, builtin, hs, hx, hr, Result.andThen]
  exact hK _ _ (h v' w' h2 h3)
theorem allReadyIn_op {ops : Array Oper} {Q : Exit → Act → World → Prop} {fuel : Nat} {listed : Array Bool} {a : Act} {w : World} {md : Region.Mode} {i : Nat} (h : wpOpIn F n P ops Q i (wpAnyIn F n P md ops Q fuel (listed.setIfInBounds i true)) a w) : AllReadyIn F n P md ops Q fuel listed a w [i] := fun j hj => by
  rw [List.mem_singleton] at hj
  subst hj
  exact h
end Go.Proofs.YtffpgandgajihaaGreatDoor
