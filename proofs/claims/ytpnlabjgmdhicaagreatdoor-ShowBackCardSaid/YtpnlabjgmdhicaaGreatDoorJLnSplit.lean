/- show's writer: a builder with an error behind it. A range over an iterator that keeps a state of its own in a cell (a captured variable), with a body that is never left early. A text's lines, in plain words. -/
import Derived.Test.YtpnlabjgmdhicaaGreatDoorJUtfMath
import Derived.RangeFuncNested
import Derived.RangeFuncBound
import Derived.RangeFuncCalls
import Derived.RangeFuncLeaves
import Derived.RangeFuncBox
import Derived.Shelf.Abstract
import Derived.Shelf.RegionOpen
import Derived.OwnWalkIn
import Derived.TacticsInMore
import Derived.LoopNIn
import Derived.LoopIn
import Derived.Maps.OwnIn
import Derived.OrdersIn
import Derived.Test.YtpnlabjgmdhicaaGreatDoorJMem
import Derived.Lib.ReplaceLaws
import Derived.Lib.CountLaws
namespace Go.Proofs.YtpnlabjgmdhicaaGreatDoor
open Go Go.RowKit

section
variable {T : TypeId} {B b : Nat} {p x y : Value} {bs : List Value} {w : World}
theorem WAt.ext2 (h : WAt T [x] B b p bs w) : w.cell? ⟨b, 2, none⟩ = some x := by
  obtain ⟨_, v, hb, _⟩ := h
  simp [World.cell?, hb]
theorem WAt.setExt (h : WAt T [x] B b p bs w) : WAt T [y] B b p bs (w.setCell ⟨b, 2, none⟩ y) := by
  obtain ⟨hB, v, hb, hown, hne⟩ := h
  refine ⟨hB, v, ?_, ?_, hne⟩
  · simp [World.setCell, Array.getElem?_modify, hb]
  · exact hown.kept (row := some b) ⟨rfl, rfl, rfl, by simp [World.setCell], fun k _ hk => Below.heap_setCell _ _ _ _ (fun e => hk (by simp [e]))⟩ (Or.inr hne)
theorem WIs.ext2 (h : WIs T [x] B b bs w) : w.cell? ⟨b, 2, none⟩ = some x := h.elim WAt.ext2 WAt.ext2
theorem WIs.setExt (h : WIs T [x] B b bs w) : WIs T [y] B b bs (w.setCell ⟨b, 2, none⟩ y) := h.elim (fun h => .inl h.setExt) (fun h => .inr h.setExt)
theorem WIs.frozen {ext : List Value} (h : WIs T ext B b bs w) (i : Nat) : w.frozen? ⟨b, i, none⟩ = false := h.elim (fun h => h.frozen i) (fun h => h.frozen i)
theorem WIs.base {ext : List Value} (h : WIs T ext B b bs w) : B ≤ b := h.elim (fun h => h.1) (fun h => h.1)
end
set_option maxHeartbeats 1000000 in
set_option maxRecDepth 100000 in
/-- (*strings.Builder).String, of no byte. -/
theorem wStr0 {T : TypeId} {ext : List Value} (B b : Nat) (w : World) (h : w.heap[b]? = some (.cells (.pointer none :: .slice none 0 0 :: ext).toArray T (0, 0))) (_hB : B ≤ w.heap.size) :
    Calls Tryz.prog 35 #[.pointer (some ⟨b, 0, none⟩)] w fun e w' => e = .returned (.string ⟨#[]⟩) ∧ Below B w w' := by
  have c1 : w.drew.cell? ⟨b, 1, none⟩ = some (.slice none 0 0) := by
    have : w.drew.heap[b]? = some (.cells (.pointer none :: .slice none 0 0 :: ext).toArray T (0, 0)) := h
    rw [Lib.cell_of_heap this]; rfl
  have hbel : Below B w w.drew := Below.drew (Below.refl B w)
  clear h
  have mixed : Tryz.prog.follows Departure.mixedOrders = true := by kernel_rfl
  have hSD : (Builtin.unsafeSliceData_ #[54] 86 #[.slice none 0 0]).run Tryz.prog w.drew = .ok (.pointer none) w.drew := rfl
  have hUS : (Builtin.unsafeString_ #[86, 3] 9 #[.pointer none, .int .i64 0]).run Tryz.prog w.drew = .ok (.string ⟨#[]⟩) w.drew := rfl
  go_enter Tryz.func35, Tryz.ntmps35
  go_wp2
  go_region_o
  all_goals (go_wp2; go_ret; exact ⟨rfl, hbel⟩)
end Go.Proofs.YtpnlabjgmdhicaaGreatDoor
namespace Go.Proofs.YtpnlabjgmdhicaaGreatDoor
open Go Go.RowKit Go.Maps Go.Shelf

/-- How a body that is never left early ends. -/
def goesOn (R : World → Prop) (W : World) : Exit → Act → World → Prop
  | .normal, _, W' => KeepsOthers W W' ∧ R W'
  | _, _, _ => False
/-- The loop's own books. -/
def Books (l D : Nat) (rec : LoopState → Loop) (W : World) : Prop := W.heap[l]? = some (.loop (rec .ready)) ∧ W.heap[D]? = some (.deferred (some []))
theorem Books.stay {l D : Nat} {rec : LoopState → Loop} {W W' : World} (h : Books l D rec W) (hk : KeepsOthers W W') : Books l D rec W' := ⟨hk.same _ _ h.1 rfl, hk.same _ _ h.2 rfl⟩
theorem ownFrom_at {β : Type} {B : Nat} {I : β → World → Prop} (h : OwnFrom B I) {s : β} {W : World} {l : Nat} {x : Loop} (y : Obj) (hs : I s W) (hB : B ≤ l) (hl : W.heap[l]? = some (.loop x)) : I s (W.putObj l y) := h.putObj y hs hB hl rfl
theorem books_new (w : World) (rec : LoopState → Loop) : Books (w.heap.size + 1) w.heap.size rec ((w.alloc (.deferred (some []))).alloc (.loop (rec .ready))) := by
  refine ⟨?_, (Below.heap_alloc _ _ _ (by simp)).trans (World.alloc_heap_new w _)⟩
  have := World.alloc_heap_new (w.alloc (.deferred (some []))) (.loop (rec .ready))
  rwa [World.size_alloc] at this
variable {F : Fence} {n : Nat} {P : Program}
/-- One round. -/
theorem one_round {l D B : Nat} {fn : FuncId} {tmps : Array Value} {ps : Array Tmp} {assign body : Code} {W : World} {args : Array Value} {a₁ : Act} {J R : World → Prop} {m : Nat}
    (hfn : F.fn fn) (hlD : l ≠ D) (hlB : B ≤ l) (hJ : OwnFrom B (fun (_ : Unit) => J)) (hR : OwnFrom B (fun (_ : Unit) => R)) (hps : args.size = ps.size)
    (hb : Books l D (fun s => { state := s, pending := none, fn, tmps, params := ps, assign, body, defers := D }) W) (h0 : J W)
    (ha : ∀ (K : Act → World → Prop), K a₁ W → assign.wpIn (F.inRound l) m P (Exit.then K (fun _ _ _ => False)) { tmps := (ps.zip args).foldl (fun t (p, v) => t.setIfInBounds p v) tmps, defers := [] } W)
    (hbody : ∀ W2 : World, J W2 → body.wpIn (F.inRound l) m P (goesOn R W2) a₁ W2) :
    YieldAt F m P l args W fun e W' => e = .returned (.bool true) ∧ R W' ∧ Books l D (fun s => { state := s, pending := none, fn, tmps, params := ps, assign, body, defers := D }) W' := by
  obtain ⟨hl, hd⟩ := hb
  refine ⟨fn, _, assign, body, run_yield hl hps, roundIn_of_wpIn hfn (ha _ ⟨_, run_beginRound hl rfl, ?_⟩)⟩
  have hlt := (Array.getElem?_eq_some_iff.1 hl).1
  refine wpIn_mono (hbody _ (ownFrom_at hJ (s := ()) _ h0 hlB hl)) ?_
  intro e a3 W3 hp
  cases e with
  | normal =>
    obtain ⟨hk, hr⟩ := hp
    have hl3 := hk.same _ _ (World.putObj_heap_same (o := .loop { state := .busy, pending := none, fn, tmps, params := ps, assign, body, defers := D }) hlt) rfl
    have hd3 := hk.same _ _ ((World.putObj_heap_other (Ne.symm hlD)).trans hd) rfl
    refine ⟨_, _, run_endRound none hl3, rfl, ownFrom_at hR (s := ()) _ hr hlB hl3, World.putObj_heap_same (Array.getElem?_eq_some_iff.1 hl3).1, (World.putObj_heap_other (Ne.symm hlD)).trans hd3⟩
  | ret => exact hp.elim
  | exit id => exact hp.elim
  | goto t => exact hp.elim
  | panic ch => exact hp.elim
  | outgrown => exact hp.elim
/-- The whole range: I says what holds between rounds, J what holds where a round begins. -/
theorem wpIn_range_st {α : Type} {g : Operand} {ps : Array Tmp} {assign body : Code} {Q : Exit → Act → World → Prop} {a : Act} {w : World}
    (hro : F.round = none) (h1 : 1 ≤ n) {gf : Nat} {lb : Array Value} (hg : a.eval g = .func (.func gf) #[] lb) (hFg : F.fn gf) (eg : ∀ args w, (callFunc gf args).run P w = .ok (.enter gf args) w)
    (encs : α → Array Value) (hps : ∀ x, (encs x).size = ps.size) (I : List α → World → Prop) (J : List α → α → World → Prop) (S : List α → Prop)
    (hI : ∀ pre, OwnFrom w.heap.size (fun (_ : Unit) => I pre)) (hJ : ∀ pre x, OwnFrom w.heap.size (fun (_ : Unit) => J pre x)) (h0 : I [] w) (a₁ : α → Act)
    (hassign : ∀ (l : Nat) (x : α) (W : World) (K : Act → World → Prop), K (a₁ x) W →
      assign.wpIn (F.inRound l) (n - 1 - 1) P (Exit.then K (fun _ _ _ => False)) { tmps := (ps.zip (encs x)).foldl (fun t (p, v) => t.setIfInBounds p v) a.tmps, defers := [] } W)
    (hbody : ∀ (l : Nat) (pre : List α) (x : α) (W : World), J pre x W → body.wpIn (F.inRound l) (n - 1 - 1) P (goesOn (I (pre ++ [x])) W) (a₁ x) W)
    (hiter : ∀ (l : Nat) (K : World → Prop) (W : World), I [] W → K W → (∀ X Y, K X → KeepsOthers X Y → K Y) →
      (∀ pre x X, J pre x X → K X → YieldAt F (n - 1 - 1) P l (encs x) X fun e Y => e = .returned (.bool true) ∧ I (pre ++ [x]) Y ∧ K Y) →
      CallsIn F (n - 1) P gf (#[.func (.yield l) #[] #[]] ++ lb) W fun e Y => (∃ v, e = .returned v) ∧ ∃ xs, S xs ∧ I xs Y ∧ K Y)
    (hdone : ∀ (D : Nat) (xs : List α) (W : World), w.heap.size ≤ D → S xs → I xs W → W.heap[D]? = some (.deferred (some [])) → Q .normal { a with defers := { target := .collected D, args := #[] } :: a.defers } W) :
    (Code.rangeFunc g ps assign body).wpIn F n P Q a w := by
  refine wpIn_rangeFunc fun fn hfn => ?_
  have hB : Books (w.heap.size + 1) w.heap.size (fun s => { state := s, pending := none, fn, tmps := a.tmps, params := ps, assign, body, defers := w.heap.size }) ((w.alloc (.deferred (some []))).alloc (.loop { state := .ready, pending := none, fn, tmps := a.tmps, params := ps, assign, body, defers := w.heap.size })) := books_new w _
  have hI1 := (hI []).alloc (s := ()) (.loop { state := .ready, pending := none, fn, tmps := a.tmps, params := ps, assign, body, defers := w.heap.size }) ((hI []).alloc (s := ()) (.deferred (some [])) h0)
  have hcall := hiter (w.heap.size + 1) (Books (w.heap.size + 1) w.heap.size (fun s => { state := s, pending := none, fn, tmps := a.tmps, params := ps, assign, body, defers := w.heap.size })) _ hI1 hB (fun X Y h k => h.stay k)
    (fun pre x X hj hk => one_round (a₁ := a₁ x) (J := J pre x) (R := I (pre ++ [x])) hfn (by omega) (B := w.heap.size) (by omega) (hJ pre x) (hI (pre ++ [x])) (hps x) hk hj (fun K hK => hassign _ x X K hK) (fun W2 hj2 => hbody _ pre x W2 hj2))
  have he := run_enterLoop_outer (P := P) (w := w) fn a.tmps ps assign body
  generalize (w.alloc (.deferred (some []))).alloc (.loop { state := .ready, pending := none, fn, tmps := a.tmps, params := ps, assign, body, defers := w.heap.size }) = W1 at *
  have hres : (resolve a.eval (rangeCall g (w.heap.size + 1)) 0).run P W1 = .ok { target := .fn (.func gf) lb, args := #[.func (.yield (w.heap.size + 1)) #[] #[]] } W1 := by
    simp only [resolve, hg]
    simp [go_sem]
  have hinv : (invoke (.fn (.func gf) lb) #[.func (.yield (w.heap.size + 1)) #[] #[]]).run P W1 = .ok (.enter gf (#[.func (.yield (w.heap.size + 1)) #[] #[]] ++ lb)) W1 := by
    simp [invoke, go_sem, eg]
  have hlead : ∀ f', Target.leads P W1 (.fn (.func gf) lb) #[.func (.yield (w.heap.size + 1)) #[] #[]] = some f' → F.fn f' := by
    intro f' hf'
    simp [Target.leads] at hf'
    subst hf'
    exact hFg
  have hfin : ∀ (e : Ending) (W2 : World), ((∃ v, e = .returned v) ∧ ∃ xs, S xs ∧ I xs W2 ∧ Books (w.heap.size + 1) w.heap.size (fun s => { state := s, pending := none, fn, tmps := a.tmps, params := ps, assign, body, defers := w.heap.size }) W2) → rangePost F n P (w.heap.size + 1) Q { a with defers := [{ target := .collected w.heap.size, args := #[] }] ++ a.defers } e W2 := by
    rintro e W2 ⟨⟨v, rfl⟩, xs, hS, hi, hl, hd⟩
    exact ⟨none, _, run_endLoop hl (by simp), hdone _ xs _ (Nat.le_refl _) hS (ownFrom_at (hI xs) (s := ()) _ hi (by omega) hl) ((World.putObj_heap_other (by omega)).trans hd)⟩
  rw [← hro] at he
  exact ⟨w.heap.size + 1, _, W1, _, W1, gf, _, W1, he, hres, hlead, hinv, fun _ => h1, hcall.mono hfin⟩
/-- An append within a region that draws its order, in whatever fence. -/
theorem opIn_append {ops : Array Oper} {Q : Exit → Act → World → Prop} {i : Nat} {o : Oper} {K : Act → World → Prop} {a : Act} {w : World} (hoi : ops[i]? = some o) (hgd : o.guard = none) (s x : Operand) (t : TypeId)
    (ho : o.op = .call { callee := .builtin .append, args := #[s, x], argTypes := #[t, t] })
    (base : Nat) (e : TypeId) (inf : TypeInfo) (z : Value) (size bytes : Nat) (ht : P.underlying t = some (.slice e)) (hi : P.info? e = some inf) (hz : inf.zero = some z)
    (hsize : inf.size = size) (hby : inf.bytes = bytes) (hzs : z.cells.size = size) (hsz : 0 < size)
    (v : Value) (k : Nat) (xs : List Value) (hs : a.eval s = v) (hown : w.ownsRow base e size v k xs)
    (ad : Addr) (m c : Nat) (news : List Value) (hx : a.eval x = .slice (some ad) m c) (hl : news.length = m * size) (hnews : ∀ j u, news[j]? = some u → w.cell? (ad.add j) = some u) (h1 : ∀ u ∈ news, u.oneCell' = true)
    (h63 : k + m ≤ maxLen) (hbytes : (k + m) * bytes ≤ 140737488355328) (hbase : base ≤ w.heap.size)
    (h : ∀ v' w', w'.ownsRow base e size v' (k + m) (xs ++ news) → w.grownBy w' v.ownBlock → K (a.put o.dst v') w') : wpOpIn F n P ops Q i K a w := by
  refine wpOpIn_step hoi fun K' hK => ?_
  obtain ⟨v', w', hr, h2, h3, -, -⟩ := run_append_own_at (P := P) w base t o.type e inf z size bytes ht hi hz hsize hby hzs hsz v k xs hown ad m c news hl hnews h1 h63 hbytes hbase
  rw [if_pos (by simp [Region.wanted, hgd])]
  unfold Oper.wpIn
  refine ⟨by simp [Oper.about, ho, resolve, Target.leads, Sem.run_pure], ?_⟩
  rw [Oper.semAt_eq _ _ _ (by rw [ho]; intro c hc; cases hc)]
  simp [execOp, ho, resolve, invoke, builtin, hs, hx, hr, Result.andThen]
  exact hK _ _ (h v' w' h2 h3)
theorem allReadyIn_op {ops : Array Oper} {Q : Exit → Act → World → Prop} {fuel : Nat} {listed : Array Bool} {a : Act} {w : World} {md : Region.Mode} {i : Nat} (h : wpOpIn F n P ops Q i (wpAnyIn F n P md ops Q fuel (listed.setIfInBounds i true)) a w) : AllReadyIn F n P md ops Q fuel listed a w [i] := fun j hj => by
  rw [List.mem_singleton] at hj
  subst hj
  exact h
end Go.Proofs.YtpnlabjgmdhicaaGreatDoor
namespace Go.Proofs.YtpnlabjgmdhicaaGreatDoor.Lx
open Go

/-- Line ends made one. -/
def crlf1 : List UInt8 → List UInt8
  | [] => []
  | [c] => [c]
  | c :: d :: r => if c = 13 ∧ d = 10 then 10 :: crlf1 r else c :: crlf1 (d :: r)
def crB (c : UInt8) : UInt8 := if c = 13 then 10 else c
def normL (l : List UInt8) : List UInt8 := (crlf1 l).map crB
/-- The lines of a text whose lines end with 10. -/
def cutL : List UInt8 → List (List UInt8)
  | [] => []
  | c :: r => if c = 10 then [] :: cutL r else match cutL r with
    | [] => [[c]]
    | a :: t => (c :: a) :: t
theorem rep_cons {old new : List UInt8} {c : UInt8} {r : List UInt8} (h : old.isPrefixOf (c :: r) = false) (k : Nat) : Lib.replaceK old new k (c :: r) = c :: Lib.replaceK old new k r := by
  cases k with
  | zero => rfl
  | succ k =>
    have hi : Lib.index (c :: r) old = if Lib.index r old == -1 then -1 else Lib.index r old + 1 := by
      rw [Lib.index, h]; rfl
    rcases Lib.index_spec r old with ⟨h1, _⟩ | ⟨i, h1, _⟩
    · rw [h1] at hi
      rw [Lib.replaceK, Lib.replaceK, h1, hi]
      rfl
    · have e : Lib.index (c :: r) old = ((i + 1 : Nat) : Int) := by
        rw [hi, h1, if_neg (by simp)]
        omega
      rw [Lib.replaceK_hit old new k (c :: r) (i + 1) e, Lib.replaceK_hit old new k r i h1]
      rw [List.take_succ_cons, show i + 1 + old.length = (i + old.length) + 1 by omega, List.drop_succ_cons]
      rfl
theorem rep_hit {old new : List UInt8} (r : List UInt8) (h0 : old ≠ []) (k : Nat) : Lib.replaceK old new (k + 1) (old ++ r) = new ++ Lib.replaceK old new k r := by
  have e : Lib.index (old ++ r) old = ((0 : Nat) : Int) := by
    cases old with
    | nil => exact absurd rfl h0
    | cons a t =>
      rw [List.cons_append, Lib.index, if_pos (by simp [List.isPrefixOf])]
      rfl
  rw [Lib.replaceK_hit old new k _ 0 e]
  simp
theorem count_cons' {old : List UInt8} {c : UInt8} {r : List UInt8} (h0 : old ≠ []) (h : old.isPrefixOf (c :: r) = false) : Lib.count (c :: r) old = Lib.count r old := by
  have hi : Lib.index (c :: r) old = if Lib.index r old == -1 then -1 else Lib.index r old + 1 := by
    rw [Lib.index, h]; rfl
  rcases Lib.index_spec r old with ⟨h1, _⟩ | ⟨i, h1, _⟩
  · rw [h1] at hi
    rw [Lib.count_miss h1, Lib.count_miss (by rw [hi]; rfl)]
  · have e : Lib.index (c :: r) old = ((i + 1 : Nat) : Int) := by
      rw [hi, h1, if_neg (by simp)]
      omega
    rw [Lib.count_hit h0 e, Lib.count_hit h0 h1, show i + 1 + old.length = (i + old.length) + 1 by omega, List.drop_succ_cons]
theorem count_here {old : List UInt8} (r : List UInt8) (h0 : old ≠ []) : Lib.count (old ++ r) old = 1 + Lib.count r old := by
  have e : Lib.index (old ++ r) old = ((0 : Nat) : Int) := by
    cases old with
    | nil => exact absurd rfl h0
    | cons a t =>
      rw [List.cons_append, Lib.index, if_pos (by simp [List.isPrefixOf])]
      rfl
  rw [Lib.count_hit h0 e]
  simp
theorem repAll_eq {l old new : List UInt8} (h : old ≠ new) : Lib.replaceAll l old new = Lib.replaceK old new (Lib.count l old) l := by
  unfold Lib.replaceAll Lib.replace
  rw [if_neg (by simpa using h)]
  unfold Lib.replaceNum
  rw [if_pos (by left; omega)]
theorem rep_crlf : ∀ l : List UInt8, Lib.replaceAll l [13, 10] [10] = crlf1 l := by
  intro l
  rw [repAll_eq (by simp)]
  induction l using crlf1.induct with
  | case1 => rfl
  | case2 c =>
    have h : ([13, 10] : List UInt8).isPrefixOf [c] = false := by simp [List.isPrefixOf]
    rw [rep_cons h, count_cons' (by simp) h, crlf1]
    rfl
  | case3 c d r hc ih =>
    obtain ⟨rfl, rfl⟩ := hc
    rw [crlf1, if_pos ⟨rfl, rfl⟩, ← ih]
    rw [show (13 : UInt8) :: 10 :: r = [13, 10] ++ r from rfl, count_here r (by simp), Nat.add_comm, rep_hit r (by simp)]
    rfl
  | case4 c d r hc ih =>
    have h : ([13, 10] : List UInt8).isPrefixOf (c :: d :: r) = false := by
      simp only [List.isPrefixOf, Bool.and_true]
      rw [Bool.and_eq_false_iff, beq_eq_false_iff_ne, beq_eq_false_iff_ne]
      by_cases h1 : c = 13
      · exact .inr fun e => hc ⟨h1, e.symm⟩
      · exact .inl fun e => h1 e.symm
    rw [crlf1, if_neg hc, rep_cons h, count_cons' (by simp) h, ih]
theorem rep_cr : ∀ l : List UInt8, Lib.replaceAll l [13] [10] = l.map crB := by
  intro l
  rw [repAll_eq (by simp)]
  induction l with
  | nil => rfl
  | cons c r ih =>
    by_cases hc : c = 13
    · subst hc
      rw [show (13 : UInt8) :: r = [13] ++ r from rfl, count_here r (by simp), Nat.add_comm, rep_hit r (by simp), ih]
      rfl
    · have h : ([13] : List UInt8).isPrefixOf (c :: r) = false := by
        simp only [List.isPrefixOf, Bool.and_true]
        rw [beq_eq_false_iff_ne]
        exact fun e => hc e.symm
      rw [rep_cons h, count_cons' (by simp) h, ih, List.map_cons]
      unfold crB
      rw [if_neg hc]
theorem norm_eq (l : List UInt8) : Lib.replaceAll (Lib.replaceAll l [13, 10] [10]) [13] [10] = normL l := by
  rw [rep_cr, rep_crlf]; rfl
theorem cut_here (r : List UInt8) : cutL (10 :: r) = [] :: cutL r := by rw [cutL, if_pos rfl]
theorem cut_on {c : UInt8} (r : List UInt8) (h : c ≠ 10) : cutL (c :: r) = match cutL r with | [] => [[c]] | a :: t => (c :: a) :: t := by rw [cutL, if_neg h]
theorem cut_none : ∀ {l : List UInt8}, cutL l = [] → l = []
  | [], _ => rfl
  | c :: r, h => by
    by_cases hc : c = 10
    · subst hc; rw [cut_here] at h; cases h
    · rw [cut_on r hc] at h
      cases hr : cutL r <;> rw [hr] at h <;> cases h
theorem cut_line : ∀ (a r : List UInt8), (∀ b ∈ a, b ≠ 10) → cutL (a ++ 10 :: r) = a :: cutL r
  | [], r, _ => cut_here r
  | c :: t, r, h => by
    rw [List.cons_append, cut_on _ (h c (by simp)), cut_line t r (fun b hb => h b (by simp [hb]))]
theorem cut_last : ∀ (a : List UInt8), (∀ b ∈ a, b ≠ 10) → a ≠ [] → cutL a = [a]
  | [], _, h => absurd rfl h
  | c :: t, h, _ => by
    rw [cut_on _ (h c (by simp))]
    cases t with
    | nil => rfl
    | cons d r => rw [cut_last (d :: r) (fun b hb => h b (by simp only [List.mem_cons] at hb ⊢; exact .inr hb)) (by simp)]
/-- Ended: nothing, or something that ends with 10. -/
def Ended (u : List UInt8) : Prop := u = [] ∨ u.getLast? = some 10
theorem cut_app : ∀ (u v : List UInt8), Ended u → cutL (u ++ v) = cutL u ++ cutL v
  | [], v, _ => rfl
  | c :: r, v, h => by
    have hr : Ended r := by
      rcases h with h | h
      · cases h
      · cases r with
        | nil => exact .inl rfl
        | cons d s => right; rw [List.getLast?_cons_cons] at h; exact h
    have ih := cut_app r v hr
    by_cases hc : c = 10
    · subst hc; rw [List.cons_append, cut_here, cut_here, ih]; rfl
    · rw [List.cons_append, cut_on _ hc, cut_on _ hc, ih]
      have hne : r ≠ [] := by
        rintro rfl
        rcases h with h | h
        · cases h
        · simp at h; exact hc h
      cases hx : cutL r with
      | nil => exact absurd (cut_none hx) hne
      | cons a t => rfl
theorem cut_size : ∀ (l : List UInt8), (cutL l).length ≤ l.length ∧ ∀ a ∈ cutL l, a.length ≤ l.length
  | [] => ⟨Nat.le_refl _, fun a h => by simp [cutL] at h⟩
  | c :: r => by
    obtain ⟨i1, i2⟩ := cut_size r
    by_cases hc : c = 10
    · subst hc
      rw [cut_here]
      refine ⟨by simp; omega, fun a h => ?_⟩
      rw [List.mem_cons] at h
      rcases h with rfl | h
      · simp
      · have := i2 a h; simp; omega
    · rw [cut_on r hc]
      cases hx : cutL r with
      | nil => exact ⟨by simp, fun a h => by simp only [List.mem_cons, List.not_mem_nil, or_false] at h; subst h; simp⟩
      | cons a0 t =>
        rw [hx] at i1 i2
        refine ⟨by simp at i1 ⊢; omega, fun a h => ?_⟩
        simp only [List.mem_cons] at h
        rcases h with rfl | h
        · have := i2 a0 (by simp); simp; omega
        · have := i2 a (by simp [h]); simp; omega
theorem crlf_app : ∀ (u v : List UInt8), ¬ (u.getLast? = some 13 ∧ v.head? = some 10) → crlf1 (u ++ v) = crlf1 u ++ crlf1 v := by
  intro u
  induction u using crlf1.induct with
  | case1 => intro v _; rfl
  | case2 c =>
    intro v h
    cases v with
    | nil => rfl
    | cons d r =>
      rw [List.cons_append, List.nil_append, crlf1, crlf1, if_neg]
      · rfl
      · rintro ⟨rfl, rfl⟩
        exact h ⟨rfl, rfl⟩
  | case3 c d r hc ih =>
    intro v h
    rw [List.cons_append, List.cons_append, crlf1, if_pos hc, crlf1, if_pos hc, ih v (fun e => h ⟨?_, e.2⟩)]
    · rfl
    · cases r with
      | nil => cases e.1
      | cons x y => rw [List.getLast?_cons_cons, List.getLast?_cons_cons]; exact e.1
  | case4 c d r hc ih =>
    intro v h
    rw [List.cons_append, List.cons_append, crlf1, if_neg hc, crlf1, if_neg hc]
    have := ih v (fun e => h ⟨by rw [List.getLast?_cons_cons]; exact e.1, e.2⟩)
    rw [List.cons_append] at this
    rw [this]
    rfl
theorem crlf_last : ∀ u : List UInt8, (crlf1 u).getLast? = u.getLast? := by
  intro u
  induction u using crlf1.induct with
  | case1 => rfl
  | case2 c => rfl
  | case3 c d r hc ih =>
    obtain ⟨rfl, rfl⟩ := hc
    rw [crlf1, if_pos ⟨rfl, rfl⟩, List.getLast?_cons_cons]
    cases r with
    | nil => rfl
    | cons x y =>
      rw [List.getLast?_cons_cons, ← ih]
      cases hx : crlf1 (x :: y) with
      | nil => rw [hx] at ih; simp [List.getLast?_cons] at ih
      | cons a b => rw [List.getLast?_cons_cons]
  | case4 c d r hc ih =>
    rw [crlf1, if_neg hc, List.getLast?_cons_cons, ← ih]
    cases hx : crlf1 (d :: r) with
    | nil => rw [hx] at ih; simp [List.getLast?_cons] at ih
    | cons a b => rw [List.getLast?_cons_cons]
theorem crlf_size : ∀ u : List UInt8, (crlf1 u).length ≤ u.length := by
  intro u
  induction u using crlf1.induct with
  | case1 => exact Nat.le_refl _
  | case2 c => exact Nat.le_refl _
  | case3 c d r hc ih => rw [crlf1, if_pos hc]; simp; omega
  | case4 c d r hc ih => rw [crlf1, if_neg hc]; simp at ih ⊢; omega
theorem norm_app (u v : List UInt8) (h : ¬ (u.getLast? = some 13 ∧ v.head? = some 10)) : normL (u ++ v) = normL u ++ normL v := by
  unfold normL
  rw [crlf_app u v h, List.map_append]
theorem norm_last (u : List UInt8) : (normL u).getLast? = u.getLast?.map crB := by
  unfold normL
  rw [List.getLast?_map, crlf_last]
theorem norm_ended {u : List UInt8} (h : u.getLast? = some 10 ∨ u.getLast? = some 13) : Ended (normL u) := by
  right
  rw [norm_last]
  rcases h with h | h <;> rw [h] <;> rfl
theorem norm_same : ∀ u : List UInt8, (∀ b ∈ u, b ≠ 13) → normL u = u := by
  intro u h
  have e : crlf1 u = u := by
    induction u using crlf1.induct with
    | case1 => rfl
    | case2 c => rfl
    | case3 c d r hc ih => exact absurd hc.1 (h c (by simp))
    | case4 c d r hc ih => rw [crlf1, if_neg hc, ih (fun b hb => h b (by simp only [List.mem_cons] at hb ⊢; exact .inr hb))]
  unfold normL
  rw [e]
  conv => rhs; rw [← List.map_id u]
  apply List.map_congr_left
  intro b hb
  unfold crB
  rw [if_neg (h b hb)]; rfl
theorem norm_size (u : List UInt8) : (normL u).length ≤ u.length := by unfold normL; rw [List.length_map]; exact crlf_size u
def splitL (l : List UInt8) : List (List UInt8) := cutL (normL l)
theorem split_app {u v : List UInt8} (h : u.getLast? = some 10 ∨ u.getLast? = some 13) (hv : ¬ (u.getLast? = some 13 ∧ v.head? = some 10)) : splitL (u ++ v) = splitL u ++ splitL v := by
  unfold splitL
  rw [norm_app u v hv, cut_app _ _ (norm_ended h)]
theorem split_size (l : List UInt8) : (splitL l).length ≤ l.length ∧ ∀ a ∈ splitL l, a.length ≤ l.length := by
  have h1 := cut_size (normL l)
  have h2 := norm_size l
  exact ⟨by unfold splitL; omega, fun a ha => Nat.le_trans (h1.2 a ha) h2⟩
end Go.Proofs.YtpnlabjgmdhicaaGreatDoor.Lx
