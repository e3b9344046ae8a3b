/- Words that all walks of this seat use: bytes of a string, cells that a slice reads, the library's variables. What every row's last step needs: arguments read as they did, the tables of the library, the witness's world. A region that draws its order and holds calls that make memory: a plan (operations that only read, in blocks; operations that must stand alone, in chains) is walked once; whatever order is drawn comes to the same. -/
import Derived.Test.YthdlepalglgmoaaGreatDoorRows
import Derived.Test.YthdlepalglgmoaaGreatDoorShelf
import Derived.WalkKit
import Derived.ProofKit
import Derived.OpenShut
import Derived.Lib.Hide
import Derived.Deep.QuietTactic
import Derived.BigQuiet
import Derived.Deep.AppendLies
import Derived.Maps.AppendAt
import Derived.Deep.RegionWith
import Derived.Deep.Draws
import Derived.WalkSpells
import Derived.WalkLawsBesides
import Derived.Handy
import Derived.RegionTactic
import Derived.Deep.LoopGhost
import Derived.Test.YthdlepalglgmoaaGreatDoorCards
import Derived.Test.YthdlepalglgmoaaGreatDoorTie
import Derived.Lib.LaidU8
import Derived.Lib.LaidIn
import Derived.Deep.DeepHandedRow
import Derived.Deep.DeepWitnessRowRef
import Derived.SizedLaws
import Derived.Carry
import Derived.Lib.QuietBelow
namespace Go.Proofs.YthdlepalglgmoaaGreatDoor
open Go Go.RowKit

/-- The byte at a place of a string, as a number; 0 beyond its end. -/
def bn (s : ByteArray) (i : Nat) : Nat := (s.data.toList.getD i 0).toNat

theorem size_toList (s : ByteArray) : s.data.toList.length = s.size := by cases s; rfl

@[go_sem] theorem get_bn (s : ByteArray) (i : Nat) (h : i < s.size) : (s[i]'h).toNat = bn s i := by
  have hl : i < s.data.toList.length := by rw [size_toList]; exact h
  have : s[i]'h = s.data.toList[i] := by cases s; rfl
  rw [this, bn, List.getD_eq_getElem?_getD, List.getElem?_eq_getElem hl]; rfl

theorem bn_lt (s : ByteArray) (i : Nat) : bn s i < 256 := by
  have := (s.data.toList.getD i 0).toNat_lt
  unfold bn; omega

@[go_sem] theorem wrap64_bn (s : ByteArray) (i : Nat) : wrap64 (bn s i : Int) = (bn s i : Int) :=
  IntWalk.wrap64_in _ ⟨by omega, by have := bn_lt s i; omega⟩

theorem bn_drop (s : ByteArray) (k i : Nat) : ((s.data.toList.drop k).getD i 0).toNat = bn s (k + i) := by
  unfold bn
  simp [List.getD_eq_getElem?_getD, List.getElem?_drop]

theorem extract_toList (s : ByteArray) (a b : Nat) : (s.extract a b).data.toList = (s.data.toList.drop a).take (b - a) := by
  rw [Lib.extract_data]

/-- A slice whose cells start at A reads the cells xs. -/
def Rd (w : World) (A : Option Addr) (xs : List Value) : Prop :=
  xs = [] ∨ ∃ g o, A = some ⟨g, o, none⟩ ∧ ∀ j u, xs[j]? = some u → w.cell? ⟨g, o + j, none⟩ = some u

theorem cell_lt {w : World} {p : Addr} {u : Value} (h : w.cell? p = some u) : p.block < w.heap.size := by
  rcases Nat.lt_or_ge p.block w.heap.size with hlt | hge
  · exact hlt
  · rw [World.cell?, Array.getElem?_eq_none hge] at h; cases h

theorem Rd.nil (w : World) (A : Option Addr) : Rd w A [] := .inl rfl
theorem Rd.at_ {w : World} {A : Option Addr} {xs : List Value} (h : Rd w A xs) {j : Nat} {u : Value} (hu : xs[j]? = some u) :
    ∃ g o, A = some ⟨g, o, none⟩ ∧ w.cell? ⟨g, o + j, none⟩ = some u := by
  rcases h with rfl | ⟨g, o, hA, hc⟩
  · simp at hu
  · exact ⟨g, o, hA, hc j u hu⟩
theorem Rd.below {w w' : World} {A : Option Addr} {xs : List Value} (h : Rd w A xs) {B : Nat} (hb : Below B w w') (hB : w.heap.size ≤ B) : Rd w' A xs := by
  rcases h with rfl | ⟨g, o, hA, hc⟩
  · exact .inl rfl
  · refine .inr ⟨g, o, hA, fun j u hu => ?_⟩
    have h1 := hc j u hu
    have h2 := cell_lt h1
    rw [hb.cell (p := ⟨g, o + j, none⟩) (by simp only at h2 ⊢; omega)]; exact h1
theorem Rd.of_block {w : World} {g : Nat} {cs : Array Value} {t : TypeId} {fr : Nat × Nat} {xs : List Value} (h : w.heap[g]? = some (.cells cs t fr)) (hx : cs.toList = xs) :
    Rd w (some ⟨g, 0, none⟩) xs := by
  refine .inr ⟨g, 0, rfl, fun j u hu => ?_⟩
  simp only [World.cell?, h, Nat.zero_add]
  subst hx
  simpa using hu
theorem Rd.of_own {w : World} {base : Nat} {e : TypeId} {size n c : Nat} {A : Option Addr} {xs : List Value} (h : w.ownsRow base e size (.slice A n c) n xs) : Rd w A xs := by
  rcases xs with _ | ⟨x, r⟩
  · exact .inl rfl
  · obtain ⟨hl, hr⟩ := h
    rcases hr with ⟨hv, hn⟩ | ⟨g, cap, cur, hv, _, hh, _, _, hs, ht⟩
    · subst hn; simp at hl
    · injection hv with hA _ _
      refine .inr ⟨g, 0, hA, fun j u hu => ?_⟩
      simp only [World.cell?, hh, Nat.zero_add]
      rw [← ht] at hu
      rw [List.getElem?_take] at hu
      split at hu
      · simpa using hu
      · cases hu
theorem Rd.take {w : World} {A : Option Addr} {xs : List Value} (h : Rd w A xs) (n : Nat) : Rd w A (xs.take n) := by
  rcases h with rfl | ⟨g, o, hA, hc⟩
  · exact .inl (by simp)
  · refine .inr ⟨g, o, hA, fun j u hu => hc j u ?_⟩
    rw [List.getElem?_take] at hu
    split at hu
    · exact hu
    · cases hu

theorem own_below {w w' : World} {base : Nat} {e : TypeId} {size n : Nat} {v : Value} {xs : List Value} (h : w.ownsRow base e size v n xs) {B : Nat} (hb : Below B w w') (hB : w.heap.size ≤ B) : w'.ownsRow base e size v n xs := by
  refine ⟨h.1, ?_⟩
  rcases h.2 with h0 | ⟨g, cap, cur, hv, hg, hh, r⟩
  · exact .inl h0
  · refine .inr ⟨g, cap, cur, hv, hg, ?_, r⟩
    have hlt : g < w.heap.size := by
      rcases Nat.lt_or_ge g w.heap.size with hlt | hge
      · exact hlt
      · rw [Array.getElem?_eq_none hge] at hh; cases hh
    rw [hb.block g (by omega)]; exact hh

theorem add_zero_spot (g o j : Nat) : (⟨g, o, none⟩ : Addr).add j = ⟨g, o + j, none⟩ := by
  unfold Addr.add; split <;> simp_all

/-- append onto a row of the call's own, from whatever slice. -/
theorem wpList_app {P : Program} {w : World} {ops : Array Oper} {rest : List Oper} {o : Oper} {a : Act} {Q : Exit → Act → World → Prop} {s x : Operand} {t : TypeId}
    (ho : o.op = .call { callee := .builtin .append, args := #[s, x], argTypes := #[t, t] }) (hgd : o.guard = none)
    {e : TypeId} {z : Value} {size bytes : Nat} (ht : P.underlying t = some (.slice e)) (hinfo : (P.info? e).map (fun i => (i.zero, i.size, i.bytes)) = some (some z, size, bytes))
    (hzs : z.cells.size = size) (hsz : 0 < size)
    {base : Nat} {v : Value} {n : Nat} {xs : List Value} (hs : a.eval s = v) (hown : w.ownsRow base e size v n xs)
    {A : Option Addr} {m c : Nat} {news : List Value} (hx : a.eval x = .slice A m c) (hr : Rd w A news) (hl : news.length = m * size) (h1 : ∀ u ∈ news, u.oneCell' = true)
    (hbytes : (n + m) * bytes ≤ 140737488355328) (h63 : n + m ≤ 9223372036854775807) (hbase : base ≤ w.heap.size)
    (h : ∀ v' w', w'.ownsRow base e size v' (n + m) (xs ++ news) → Below base w w' → wpList P ops Q rest (a.put o.dst v') w') : wpList P ops Q (o :: rest) a w := by
  obtain ⟨i, hi, hz, hsize, hby⟩ := info_parts hinfo
  have below : ∀ {w' : World}, w.grownBy w' v.ownBlock → Below base w w' := fun hg => (Below.refl _ _).grown hg hbase fun k hk => (hown.lt k hk).1
  rcases hr with rfl | ⟨g, off, rfl, hc⟩
  · have hm : m = 0 := by
      rcases Nat.eq_zero_or_pos m with h0 | h0
      · exact h0
      · have := Nat.mul_pos h0 hsz
        simp at hl; omega
    subst hm
    rcases A with _ | ad
    · refine wpList_plain hgd fun K hK => ?_
      have hrun : (Builtin.append_ #[t, t] o.type #[v, .slice none 0 c]).run P w = .ok v w := by
        rcases hown.2 with ⟨rfl, rfl⟩ | ⟨g, cap, cur, rfl, _, _, hnc, _⟩
        · simp [Builtin.append_, run_underlying ht, sizeOf, typeInfo, hi, Builtin.lenOf, Builtin.firstCells]
        · simp [Builtin.append_, run_underlying ht, sizeOf, typeInfo, hi, Builtin.lenOf, Builtin.firstCells, hnc, storeCells]
      unfold Oper.wp execOp
      simp only [ho, resolve, invoke, builtin, Sem.run_bind, Sem.run_pure, Result.andThen_ok, List.map_toArray, List.map_cons, List.map_nil, hs, hx, hrun]
      exact hK _ _ (h v w (by simpa using hown) (Below.refl _ _))
    · exact wpList_append_own w hgd s x t ho base e i z size bytes ht hi hz hsize hby hzs hsz v n xs hs hown ad 0 c [] hx hl (by simp) (by simp) h63 hbytes hbase (fun v' w' a b _ => h v' w' a (below b))
  · exact wpList_append_own w hgd s x t ho base e i z size bytes ht hi hz hsize hby hzs hsz v n xs hs hown ⟨g, off, none⟩ m c news hx hl (fun j u hu => by rw [add_zero_spot]; exact hc j u hu) h1 h63 hbytes hbase (fun v' w' a b _ => h v' w' a (below b))

/-- string(b), whatever slice of bytes b. -/
theorem run_conv_bytes {P : Program} {w : World} {A : Option Addr} {n c : Nat} {xs : List Int} (src dst e : TypeId) (hs : P.underlying src = some (.slice e)) (he : P.underlying e = some (.int .u8)) (hd : P.underlying dst = some .string)
    (hr : Rd w A (xs.map (Value.int .u8))) (hn : xs.length = n) : (convert src dst (.slice A n c)).run P w = .ok (.string (strOfNums xs)) w := by
  rcases hr with h0 | ⟨g, o, rfl, hc⟩
  · have hx : xs = [] := by simpa using h0
    subst hx
    simp only [List.length_nil] at hn
    subst hn
    rcases A with _ | ⟨g, o, sp⟩
    · rw [run_convert_bytes_nil w src e hs he 0 c dst hd]; rfl
    · rw [run_convert_bytes_string w src dst e _ 0 c hs he hd, run_bytesToString w _ 0 c [] (by rfl)]
      rfl
  · exact run_convert_bytes_arg w src e hs he g o n c xs hn (fun i hi => by
      have h : i < xs.length := by omega
      exact hc i (.int .u8 (xs.getD i 0)) (by rw [List.getElem?_map, List.getElem?_eq_getElem h]; simp [List.getD_eq_getElem?_getD, h])) dst hd

/-- What the library's variables hold: the tables of utf8, and some number in MaxLen. -/
structure Ctx (w : World) : Prop where
  tabs : Lib.Utf8Tabs 0 1 w
  maxl : ∃ m : Int, w.cell? ⟨2, 0, none⟩ = some (.int .i64 m)

theorem Ctx.step {w w' : World} (h : Ctx w) (hb : Below w.heap.size w w') : Ctx w' := by
  have key : ∀ {p : Addr} {v : Value}, w.cell? p = some v → w'.cell? p = some v := fun hc => by rw [hb.cell (cell_lt hc)]; exact hc
  refine ⟨⟨fun c hc => key (h.tabs.1 c hc), fun i hi => ⟨key (h.tabs.2 i hi).1, key (h.tabs.2 i hi).2⟩⟩, ?_⟩
  obtain ⟨m, hm⟩ := h.maxl
  exact ⟨m, key hm⟩

theorem heap_two_1 (w : World) (o1 o2 : Obj) : ((w.alloc o1).alloc o2).heap[w.heap.size]? = some o1 := by
  rw [Below.heap_alloc _ _ _ (by simp)]; exact heap_alloc_new w o1
theorem heap_two_2 (w : World) (o1 o2 : Obj) : ((w.alloc o1).alloc o2).heap[w.heap.size + 1]? = some o2 := by
  have := heap_alloc_new (w.alloc o1) o2
  simpa using this

end Go.Proofs.YthdlepalglgmoaaGreatDoor
namespace Go.Proofs.YthdlepalglgmoaaGreatDoor
open Go Go.ChangeShapes Go.WideShapes Go.ChangeAt Go.RowKit Go.Lib
open Go.ChangeMaps (open_string shut_string)

section
variable {H : Type} {enc : TypeId × Value → H} {P : Program}

theorem trodAll_stays (hl : laidOutB P = true) {W W' : World} (hb : Below W.heap.size W W') {sp : Nat → Bool} :
    ∀ (ts : List TypeId) (vs : List Value) (ds : List (DataW H)) (ps : List MemPlace), (∀ t ∈ ts, P.readableRec t = true ∧ t < P.types.size) → DataW.TrodAll enc P W 0 (fun _ => true) true ts vs ds ps →
      (∀ x ∈ ps, x.block < W.heap.size) → (∀ x ∈ ps, sp x.block = true) → DataW.TrodAll enc P W' 0 sp true ts vs ds ps
  | [], [], [], _, _, h, _, _ => h
  | t :: ts, v :: vs, d :: ds, ps, hr, h, hlt, hsp => by
    obtain ⟨p, q, h1, h2, rfl⟩ := h
    exact ⟨p, q, WideElems.Trod_stays hl (hr t (by simp)).1 (hr t (by simp)).2 h1 (fun x hx => hb.same (hlt x (by simp [hx]))) (fun x hx => hsp x (by simp [hx])),
      trodAll_stays hl hb ts vs ds q (fun t ht => hr t (by simp [ht])) h2 (fun x hx => hlt x (by simp [hx])) (fun x hx => hsp x (by simp [hx])), rfl⟩
  | [], [], _ :: _, _, _, h, _, _ => h.elim
  | [], _ :: _, _, _, _, h, _, _ => h.elim
  | _ :: _, [], _, _, _, h, _, _ => h.elim
  | _ :: _, _ :: _, [], _, _, h, _, _ => h.elim

/-- The row's last step: the result is true, the arguments read as they did, nothing old has turned. -/
theorem post_true {fn : Func} {s : ChangeSpec} {apart fresh handsOn again : Bool} {W W' : World} {args : Array Value} {ds gs : List (DataW H)} {before : List MemPlace} {tb : TypeId}
    (hl : laidOutB P = true) (hr : fn.params.toList.all (fun t => P.readableRec t && decide (t < P.types.size)) = true) (hres : fn.resultTypes = #[tb]) (htb : P.underlying tb = some .bool) (hs : s.vars = [])
    (hW : DataW.Whole enc P fn.params.toList s.vars apart W args.toList ds gs before) (hf : s.fn H (ds ++ gs) = { results := [.lit (.bool true)], args := ds }) (hb : Below W.heap.size W W') :
    s.post enc P fn apart fresh handsOn again W args (.bool true) W' := by
  have hlt : ∀ p ∈ before, p.block < W.heap.size := fun p hp => hW.lt p hp
  have hW' := hW
  obtain ⟨p, q, hA, hV, rfl, hz, hn⟩ := hW
  rw [hs] at hV
  obtain ⟨rfl, rfl⟩ := trodVars_none hV
  rw [List.append_nil] at hf hW' hz hn hlt
  have hr' : ∀ t ∈ fn.params.toList, P.readableRec t = true ∧ t < P.types.size := fun t ht => by
    have := List.all_eq_true.1 hr t ht
    simpa using this
  have hargs : ∀ sp : Nat → Bool, (∀ x ∈ p, sp x.block = true) → DataW.TrodAll enc P W' 0 sp true fn.params.toList args.toList ds p := fun sp hsp => trodAll_stays hl hb _ _ _ _ hr' hA hlt hsp
  have hold : ∀ x ∈ p, (fun b => decide (b < W.heap.size)) x.block = true := fun x hx => by simpa using hlt x hx
  have hout : ∀ (b : Nat) (sp : Nat → Bool) (hd : Bool), DataW.TrodAll enc P W' b sp hd fn.resultTypes.toList ((Value.bool true).resultList fn.resultTypes.size) [.lit (.bool true)] [] := fun b sp hd => by
    rw [hres]; exact trodAll_cons_mk (shut_bool htb _) trodAll_mk0
  refine ⟨ds, [], p, [], p, [], hW', ?_, ?_, ?_, World.keptBut_mono (fun x hx => ⟨hx, ?_⟩) (hb.frame (· ∈ p)), fun _ => ?_⟩
  · rw [List.append_nil, hf]; exact hout _ _ _
  · rw [List.append_nil, hf]; exact hargs _ hold
  · rw [List.append_nil, hf, hs]; rfl
  · exact Or.inr (by simpa using hx)
  · refine ⟨ok_one (t := tb) hres rfl (okWide_bool_mk htb _), _, ([] : List (DataW H)), ([] ++ p) ++ [], ⟨[] ++ p, [], trodAll_append (hargs _ (fun _ _ => rfl)) (hout _ _ _), ?_, rfl, ?_, ?_⟩, ?_⟩
    · rw [hs]; rfl
    · intro b off hp
      have hin : MemPlace.cell b off ∈ p := by simpa using hp
      rw [hb.frozen (hlt _ hin)]
      exact hz b off hin
    · intro ha
      have := hn ha
      simpa using this
    · intro x hx _
      simpa using hx

end
end Go.Proofs.YthdlepalglgmoaaGreatDoor
namespace Go.Proofs.YthdlepalglgmoaaGreatDoor.Rg
open Go Go.Sort Go.RowKit

section
variable {P : Program} {ops : Array Oper}

/-- What w has grown into. -/
abbrev Cls (w : World) : World → Prop := fun w' => ∃ p : Regrown, w' = grow (redrawn w p.d) p.os

theorem cls_of {w W : World} (h : Below w.heap.size w W) : Cls w W := regrown_of_below h
theorem tr {a b c : World} (h : Below a.heap.size a b) (k : Below b.heap.size b c) : Below a.heap.size a c :=
  h.trans (k.mono h.size)

def Bot : Exit → Act → World → Prop := fun _ _ _ => False

theorem upon_bot {o : Oper} {a : Act} {K : Act → World → Prop} {Q : Exit → Act → World → Prop} {r : Result Next} (h : o.upon P a K Bot r) : o.upon P a K Q r := by
  cases r with
  | ok n w' =>
    cases n <;> simp only [Oper.upon] at h ⊢
    case value u => exact h
    case skip => exact h
    case defer d => exact h
    case enter f args =>
      refine Calls.mono h fun e w'' he => ?_
      cases e with
      | returned u => exact he
      | panicked c => exact he.elim
      | outgrown => obtain ⟨_, _, hf⟩ := he; exact hf.elim
    case row row args => exact h
  | halt x w' =>
    cases x <;> simp only [Oper.upon] at h ⊢
    case panic u => exact h.elim

theorem upon_exit {o : Oper} {a : Act} {K : Act → World → Prop} {Q Q' : Exit → Act → World → Prop} (hp : ∀ c a w, Q (.panic c) a w → Q' (.panic c) a w) (ho : LetsOut Q → LetsOut Q') {r : Result Next} (h : o.upon P a K Q r) : o.upon P a K Q' r := by
  cases r with
  | ok n w' =>
    cases n <;> simp only [Oper.upon] at h ⊢
    case value u => exact h
    case skip => exact h
    case defer d => exact h
    case enter f args =>
      refine Calls.mono h fun e w'' he => ?_
      cases e with
      | returned u => exact he
      | panicked c => exact hp _ _ _ he
      | outgrown => exact ho he
    case row row args => exact h
  | halt x w' =>
    cases x <;> simp only [Oper.upon] at h ⊢
    case panic u => exact hp _ _ _ h

theorem wpOp_bot {i : Nat} {K : Act → World → Prop} {Q : Exit → Act → World → Prop} {a : Act} {w : World} (h : wpOp P ops Bot i K a w) : wpOp P ops Q i K a w := by
  unfold wpOp at *
  split
  · rename_i ho; simp only [ho] at h; exact h
  · rename_i o ho
    simp only [ho] at h
    split
    · rename_i hw
      simp only [hw, if_true] at h
      rcases h with h | ⟨_, _, _, hf⟩
      · exact .inl (upon_bot h)
      · exact hf.elim
    · rename_i hw; simp only [hw] at h; exact h

/-- Whatever order is drawn from here on, in whatever the world has grown into. -/
def AnyG (P : Program) (ops : Array Oper) (Q : Act → World → Prop) : Nat → Array Bool → Act → World → Prop
  | 0, listed, a, w => Region.ready .any ops listed = [] ∧ ∀ W, Below w.heap.size w W → Q a W
  | fuel + 1, listed, a, w => ∀ W, Below w.heap.size w W → (Region.ready .any ops listed = [] → Q a W) ∧
      ∀ i ∈ Region.ready .any ops listed, wpOp P ops Bot i (fun a' W' => ∃ w', Below w.heap.size w w' ∧ Below w'.heap.size w' W' ∧ AnyG P ops Q fuel (listed.setIfInBounds i true) a' w') a W

theorem AnyG.sound {Q : Act → World → Prop} {Q' : Exit → Act → World → Prop} (hQ : ∀ a w, Q a w → Q' .normal a w) : ∀ (fuel : Nat) (listed : Array Bool) (a : Act) (w W : World),
    Below w.heap.size w W → AnyG P ops Q fuel listed a w → wpAny P .any ops Q' fuel listed a W
  | 0, _, _, _, _, hb, h => ⟨h.1, hQ _ _ (h.2 _ hb)⟩
  | fuel + 1, _, _, _, W, hb, h => by
    obtain ⟨h0, h1⟩ := h W hb
    refine ⟨fun e => hQ _ _ (h0 e), fun i hi => wpOp_bot (wpOp_mono (fun a' W' h2 => ?_) (h1 i hi))⟩
    obtain ⟨w', _, hb', h3⟩ := h2
    exact AnyG.sound hQ fuel _ a' w' W' hb' h3

/-- The operation yields v in whatever the world has grown into, and turns nothing. -/
def YG (P : Program) (ops : Array Oper) (o : Oper) (v : Value) (a : Act) (w : World) : Prop :=
  (Region.wanted o (yielded ops a.tmps) = true ∧ ∀ W, Below w.heap.size w W → (execOp a.eval o).run P W = .ok (.value v) W) ∨
  (Region.wanted o (yielded ops a.tmps) = false ∧ v = undef)

theorem YG.later {o : Oper} {v : Value} {a : Act} {w w' : World} (h : YG P ops o v a w) (hb : Below w.heap.size w w') : YG P ops o v a w' :=
  h.imp (fun ⟨h1, h2⟩ => ⟨h1, fun W hW => h2 W (tr hb hW)⟩) id

theorem YG.of_same {o : Oper} {v : Value} {a a' : Act} {w : World} (hy : YG P ops o v a w) (he : execOp a'.eval o = execOp a.eval o)
    (hw : Region.wanted o (yielded ops a'.tmps) = Region.wanted o (yielded ops a.tmps)) : YG P ops o v a' w := by
  unfold YG at *
  rw [he, hw]
  exact hy

theorem YG.wpOp {i : Nat} {o : Oper} {v : Value} {a : Act} {w W : World} (hi : ops[i]? = some o) (hy : YG P ops o v a w) (hb : Below w.heap.size w W)
    {K : Act → World → Prop} (h : K (a.put o.dst v) W) : wpOp P ops Bot i K a W := by
  unfold Go.wpOp
  simp only [hi]
  rcases hy with ⟨hw, hv⟩ | ⟨hw, rfl⟩
  · simp only [hw, if_true, Oper.wp, hv W hb, Oper.upon]; exact .inl h
  · simp only [hw, Bool.false_eq_true, if_false]; exact h

theorem wpOp_putG {j : Nat} {oi oj : Oper} {v : Value} (hj : ops[j]? = some oj) (hap : oi.apart ops oj = true)
    (hsi : ∀ cs b, oi.op ≠ .select cs b) (hsj : ∀ cs b, oj.op ≠ .select cs b) {K : Act → World → Prop} {a : Act} {w W : World}
    (hy : YG P ops oi v a w) (h : wpOp P ops Bot j K (a.put oi.dst v) W) :
    wpOp P ops Bot j (fun a' w' => YG P ops oi v a' w ∧ K (a'.put oi.dst v) w') a W := by
  obtain ⟨h1, h2, h3⟩ := Oper.apart_spec hap
  have keep : ∀ (a : Act), YG P ops oi v a w → ∀ u, YG P ops oi v (a.put oj.dst u) w := fun a hy u =>
    hy.of_same (execOp_put oi hsi a oj.dst u h3) (wanted_put oi a oj.dst u h3)
  have keepD : ∀ d, YG P ops oi v { a with defers := d :: a.defers } w := fun d => hy.of_same rfl rfl
  unfold wpOp at *
  simp only [hj] at *
  rw [wanted_put oj a oi.dst v h1] at h
  split
  · rename_i hw
    simp only [hw, if_true] at h
    rcases h with h | ⟨_, _, _, hf⟩
    case inr => exact hf.elim
    refine .inl ?_
    unfold Oper.wp at *
    rw [execOp_put oj hsj a oi.dst v h1] at h
    generalize (execOp a.eval oj).run P W = r at *
    cases r with
    | ok n w' =>
      cases n <;> simp only [Oper.upon] at h ⊢
      case value u => exact ⟨keep a hy u, by rw [← Act.put_comm a v u h2]; exact h⟩
      case skip => exact ⟨keep a hy _, by rw [← Act.put_comm a v undef h2]; exact h⟩
      case defer d =>
        refine ⟨keep _ (keepD d) _, ?_⟩
        rw [← Act.put_comm _ v undef h2, ← Act.put_defers]
        exact h
      case enter f args =>
        refine Calls.mono h fun e w'' he => ?_
        cases e with
        | returned u => exact ⟨keep a hy u, by rw [← Act.put_comm a v u h2]; exact he⟩
        | panicked c => exact he.elim
        | outgrown => obtain ⟨_, _, hf⟩ := he; exact hf.elim
      case row row args => exact Rows.mono h fun u w'' he => ⟨keep a hy u, by rw [← Act.put_comm a v u h2]; exact he⟩
    | halt x w' =>
      cases x <;> simp only [Oper.upon] at h ⊢
      case panic u => exact h.elim
  · rename_i hw
    simp only [hw] at h
    exact ⟨keep a hy _, by rw [← Act.put_comm a v undef h2]; exact h⟩

theorem AnyG.first {Q : Act → World → Prop} {i : Nat} {oi : Oper} {v : Value} (hi : ops[i]? = some oi) (hsel : ∀ (j : Nat) (o : Oper) cs b, ops[j]? = some o → o.op ≠ .select cs b) :
    ∀ (fuel : Nat) (listed : Array Bool) (a : Act) (w : World),
      (∀ j oj, ops[j]? = some oj → j ≠ i → listed.getD j true = false → (∀ e ∈ oj.after, Region.binds .any e = true → e.on ≠ i) → oi.apart ops oj = true) →
      i ∈ Region.ready .any ops listed → YG P ops oi v a w →
      AnyG P ops Q fuel (listed.setIfInBounds i true) (a.put oi.dst v) w → AnyG P ops Q (fuel + 1) listed a w := by
  intro fuel
  induction fuel with
  | zero =>
    intro listed a w _ hr hy H W hW
    refine ⟨fun h => (by rw [h] at hr; cases hr), fun j hj => ?_⟩
    by_cases hji : j = i
    · subst hji; exact hy.wpOp hi hW ⟨w, Below.refl _ _, hW, H⟩
    · have := ready_mono hj hji
      rw [H.1] at this
      cases this
  | succ fuel ih =>
    intro listed a w hfree hr hy H W hW
    refine ⟨fun h => (by rw [h] at hr; cases hr), fun j hj => ?_⟩
    by_cases hji : j = i
    · subst hji; exact hy.wpOp hi hW ⟨w, Below.refl _ _, hW, H⟩
    · have h1 := (H W hW).2 j (ready_mono hj hji)
      obtain ⟨hjun, oj, hoj, hall⟩ := mem_ready.1 hj
      have hnot : ∀ e ∈ oj.after, Region.binds .any e = true → e.on ≠ i := fun e he hb heq => by
        have h1 := hall e he hb
        have h0 := (mem_ready.1 hr).1
        rw [heq] at h1
        rcases Nat.lt_or_ge i listed.size with h' | h'
        · simp [h'] at h0 h1; rw [h0] at h1; cases h1
        · simp [Array.getElem?_eq_none h'] at h1
      have h2 := wpOp_putG hoj (hfree j oj hoj hji hjun hnot) (fun cs b => hsel i oi cs b hi) (fun cs b => hsel j oj cs b hoj) hy h1
      have hfree' : ∀ k ok, ops[k]? = some ok → k ≠ i → (listed.setIfInBounds j true).getD k true = false →
          (∀ e ∈ ok.after, Region.binds .any e = true → e.on ≠ i) → oi.apart ops ok = true := fun k ok hk hki hun hno => by
        refine hfree k ok hk hki ?_ hno
        by_cases hjk : j = k
        · subst hjk; exact hjun
        · rw [getD_set_ne true hjk] at hun; exact hun
      refine wpOp_mono (fun a' W' h3 => ?_) h2
      obtain ⟨hy', w', hb1, hb2, h4⟩ := h3
      refine ⟨w', hb1, hb2, ih (listed.setIfInBounds j true) a' w' hfree' (ready_mono hr (Ne.symm hji)) (hy'.later hb1) ?_⟩
      rw [Array.setIfInBounds_comm _ _ hji]
      exact h4

/-- The operations that may stand in a block of readers: they yield a value and turn nothing. -/
def quietB (o : Oper) : Bool :=
  match o.op with
  | .move _ | .assign _ | .pick .. | .load .. | .nilCheck _ | .binOp .. | .unOp .. | .convert .. | .slice .. | .fieldAddr .. | .field .. | .indexAddr .. | .index .. | .extract .. | .build .. | .makeInterface .. | .lookup .. => true
  | .call { callee := .builtin .len, .. } => true
  | _ => false

theorem run_v {s : Sem Value} {W W' : World} {n : Next} (h : ((do pure (.value (← s))) : Sem Next).run P W = .ok n W') : ∃ x, n = .value x := by
  rw [Sem.run_bind] at h
  generalize s.run P W = r at h
  cases r with
  | ok x w => simp only [Result.andThen, Sem.run_pure] at h; injection h with h _; exact ⟨x, h.symm⟩
  | halt x w => simp only [Result.andThen] at h; cases h

theorem run_nilCheck {x : Operand} {d : Option Tmp} {ty : TypeId} {pos : String} {af : Array Edge} {g : Option (Nat × Bool)} {ρ : Operand → Value} {W W' : World} {n : Next}
    (h : (execOp ρ ⟨d, .nilCheck x, ty, pos, af, g⟩).run P W = .ok n W') : ∃ x, n = .value x := by
  simp only [execOp] at h
  split at h
  · simp [runtimePanic] at h
  · simp [runtimePanic] at h
  · simp [runtimePanic] at h
  · split at h
    · simp [runtimePanic] at h
    · simp only [Sem.run_bind] at h
      generalize (Sem.run P program W) = r0 at h
      cases r0 with
      | halt x w => simp only [Result.andThen] at h; cases h
      | ok p w =>
        simp only [Result.andThen] at h
        split at h
        · rename_i a w1 hr
          split at h
          · simp [unsupported] at h
          · injection h with h _; exact ⟨_, h.symm⟩
        · cases h
    · injection h with h _; exact ⟨_, h.symm⟩
  · injection h with h _; exact ⟨_, h.symm⟩

theorem quietB_value {o : Oper} (hq : quietB o = true) {ρ : Operand → Value} {W W' : World} {n : Next} (h : (execOp ρ o).run P W = .ok n W') : ∃ x, n = .value x := by
  obtain ⟨d, op, ty, pos, af, g⟩ := o
  cases op <;> simp only [quietB, Bool.false_eq_true] at hq
  case move x => injection h with h _; exact ⟨_, h.symm⟩
  case assign x => injection h with h _; exact ⟨_, h.symm⟩
  case pick c a b =>
    simp only [execOp, Sem.run_bind] at h
    generalize (asBool (ρ c)).run P W = r at h
    cases r with
    | ok x w => simp only [Result.andThen, Sem.run_pure] at h; injection h with h _; exact ⟨_, h.symm⟩
    | halt x w => simp only [Result.andThen] at h; cases h
  case call c =>
    obtain ⟨cal, args, ats⟩ := c
    cases cal <;> try (simp at hq; done)
    case builtin b =>
      cases b <;> try (simp at hq; done)
      case len =>
        rw [BigFrame.execOp_builtin, BigFrame.builtin_len] at h
        exact run_v h
  case binOp => exact run_v h
  case nilCheck x => exact run_nilCheck h
  all_goals exact run_v h

/-- A quiet step, as what it yields in whatever the world has grown into. -/
theorem yg_of_quiet {o : Oper} {a : Act} {w : World} {K : Act → Prop} (hq : quietB o = true)
    (h : if Region.wanted o (yielded ops a.tmps) then o.quiet P a (Cls w) K else K (a.put o.dst undef)) : ∃ v, YG P ops o v a w ∧ K (a.put o.dst v) := by
  by_cases hw : Region.wanted o (yielded ops a.tmps) = true
  · rw [if_pos hw] at h
    obtain ⟨v, h1, h2⟩ := h
    refine ⟨v, .inl ⟨hw, fun W hW => ?_⟩, h2⟩
    have h3 := h1 W (cls_of hW)
    unfold Oper.quietAt at h3
    generalize hr : (execOp a.eval o).run P W = r at h3
    cases r with
    | ok n w' =>
      obtain ⟨x, rfl⟩ := quietB_value hq hr
      simp only [Oper.quietUpon] at h3
      obtain ⟨rfl, rfl⟩ := h3
      rfl
    | halt x w' => simp only [Oper.quietUpon] at h3
  · rw [if_neg hw] at h
    exact ⟨undef, .inr ⟨by simpa using hw, rfl⟩, h⟩

/-- Operations by their numbers. -/
def noOper : Oper := ⟨none, .move (.const undef), 0, default, #[], none⟩
def pickOps (ops : Array Oper) (l : List Nat) : List Oper := l.map fun i => (ops[i]?).getD noOper

/-- The plan's walk: true: a block of readers; false: a chain. -/
def wpPlan (P : Program) (ops : Array Oper) (Q : Act → World → Prop) : List (Bool × List Oper) → Act → World → Prop
  | [], a, w => ∀ W, Below w.heap.size w W → Q a W
  | (true, l) :: r, a, w => wpQuiet P ops (Cls w) (fun a' => wpPlan P ops Q r a' w) l a
  | (false, l) :: r, a, w => ∀ W, Below w.heap.size w W → wpList P ops (Exit.then (fun a' W' => Below W.heap.size W W' ∧ wpPlan P ops Q r a' W') Bot) l a W

theorem plan_quiet {Q : Act → World → Prop} {l : List Oper} {r : List (Bool × List Oper)} {a : Act} {w : World} (h : wpQuiet P ops (Cls w) (fun a' => wpPlan P ops Q r a' w) l a) : wpPlan P ops Q ((true, l) :: r) a w := h
theorem plan_chain {Q : Act → World → Prop} {l : List Oper} {r : List (Bool × List Oper)} {a : Act} {w : World}
    (h : ∀ W, Below w.heap.size w W → wpList P ops (Exit.then (fun a' W' => Below W.heap.size W W' ∧ wpPlan P ops Q r a' W') Bot) l a W) : wpPlan P ops Q ((false, l) :: r) a w := h
theorem plan_end {Q : Act → World → Prop} {a : Act} {w : World} (h : ∀ W, Below w.heap.size w W → Q a W) : wpPlan P ops Q [] a w := h

def quietSeq (ops : Array Oper) : List Nat → Array Bool → Option (Array Bool)
  | [], l => some l
  | i :: is, l => if (Region.ready .any ops l).contains i && Region.free .any ops l i && ((ops[i]?).map quietB).getD false then quietSeq ops is (l.setIfInBounds i true) else none
def chainOne (ops : Array Oper) (is : List Nat) (l : Array Bool) : Option (Array Bool) :=
  match is with
  | [i] => if (Region.ready .any ops l == [i]) && (ops[i]?).isSome then some (l.setIfInBounds i true) else none
  | _ => none
def planB (ops : Array Oper) : List (Bool × List Nat) → Array Bool → Bool
  | [], l => (Region.ready .any ops l).isEmpty
  | (true, is) :: r, l => match quietSeq ops is l with | some l' => planB ops r l' | none => false
  | (false, is) :: r, l => match chainOne ops is l with | some l' => planB ops r l' | none => false
def planLen : List (Bool × List Nat) → Nat
  | [] => 0
  | (_, is) :: r => is.length + planLen r
def planOK (ops : Array Oper) (p : List (Bool × List Nat)) : Bool :=
  Region.noSelect ops && planB ops p (Array.replicate ops.size false) && (planLen p == ops.size)

theorem quiet_sound {Q : Act → World → Prop} (hs : Region.noSelect ops = true) {w : World} {K : Act → Prop} {fuel : Nat} {l' : Array Bool} (hK : ∀ a, K a → AnyG P ops Q fuel l' a w) :
    ∀ (is : List Nat) (listed : Array Bool) (a : Act), quietSeq ops is listed = some l' → wpQuiet P ops (Cls w) K (pickOps ops is) a → AnyG P ops Q (is.length + fuel) listed a w
  | [], listed, a, hq, h => by
    simp only [quietSeq, Option.some.injEq] at hq
    subst hq
    simp only [List.length_nil, Nat.zero_add]
    exact hK a h
  | i :: is, listed, a, hq, h => by
    simp only [quietSeq] at hq
    split at hq
    case isFalse => cases hq
    rename_i hc
    simp only [Bool.and_eq_true] at hc
    obtain ⟨⟨hr, hf⟩, hb⟩ := hc
    cases ho : ops[i]? with
    | none => simp [ho] at hb
    | some o =>
      simp only [ho, Option.map_some, Option.getD_some] at hb
      simp only [pickOps, List.map_cons, ho, Option.getD_some] at h
      obtain ⟨v, hy, hn⟩ := yg_of_quiet (K := wpQuiet P ops (Cls w) K (pickOps ops is)) hb h
      have := quiet_sound hs hK is _ _ hq hn
      rw [List.length_cons, Nat.add_right_comm]
      exact AnyG.first ho (Region.noSelect_spec hs) _ listed a w (Region.free_spec ho hf) (by simpa using hr) hy this

theorem plan_sound {Q : Act → World → Prop} (hs : Region.noSelect ops = true) : ∀ (p : List (Bool × List Nat)) (listed : Array Bool) (a : Act) (w : World),
    planB ops p listed = true → wpPlan P ops Q (p.map fun x => (x.1, pickOps ops x.2)) a w → AnyG P ops Q (planLen p) listed a w
  | [], listed, a, w, hB, h => ⟨by simpa [planB] using hB, h⟩
  | (true, is) :: r, listed, a, w, hB, h => by
    simp only [planB] at hB
    cases hq : quietSeq ops is listed with
    | none => simp [hq] at hB
    | some l' =>
      simp only [hq] at hB
      simp only [List.map_cons, wpPlan] at h
      exact quiet_sound hs (fun a' ha' => plan_sound hs r l' a' w hB ha') is listed a hq h
  | (false, is) :: r, listed, a, w, hB, h => by
    simp only [planB] at hB
    cases hq : chainOne ops is listed with
    | none => simp [hq] at hB
    | some l' =>
      simp only [hq] at hB
      simp only [List.map_cons, wpPlan] at h
      unfold chainOne at hq
      split at hq
      case h_2 => cases hq
      rename_i i
      split at hq
      case isFalse => cases hq
      rename_i hc
      simp only [Bool.and_eq_true, beq_iff_eq] at hc
      obtain ⟨hr, ho⟩ := hc
      simp only [Option.some.injEq] at hq
      subst hq
      obtain ⟨o, ho⟩ := Option.isSome_iff_exists.1 ho
      simp only [pickOps, List.map_cons, ho, Option.getD_some, List.map_nil] at h
      show AnyG P ops Q (1 + planLen r) listed a w
      rw [Nat.add_comm]
      intro W hW
      refine ⟨fun h0 => (by rw [hr] at h0; cases h0), fun j hj => ?_⟩
      rw [hr] at hj
      simp only [List.mem_singleton] at hj
      subst hj
      have h1 := h W hW
      unfold wpOp
      simp only [ho]
      have next : ∀ a' W', wpList P ops (Exit.then (fun a' W' => Below W.heap.size W W' ∧ wpPlan P ops Q (r.map fun x => (x.1, pickOps ops x.2)) a' W') Bot) [] a' W' →
          ∃ w', Below w.heap.size w w' ∧ Below w'.heap.size w' W' ∧ AnyG P ops Q (planLen r) (listed.setIfInBounds j true) a' w' := fun a' W' hh =>
        ⟨W', tr hW hh.1, Below.refl _ _, plan_sound hs r _ a' W' hB hh.2⟩
      simp only [wpList] at h1
      split at h1
      · rename_i hw
        rw [if_pos hw]
        rcases h1 with h1 | h1
        · left
          exact upon_exit (fun c a w h => h) (fun h => h) (Oper.wp_mono next h1)
        · obtain ⟨_, hl⟩ := h1
          obtain ⟨_, _, hf⟩ := hl
          exact hf.elim
      · rename_i hw
        rw [if_neg hw]
        exact next _ _ h1

/-- **THE REGION BY ITS PLAN.** -/
theorem wp_region_plan {id : Nat} {Q : Exit → Act → World → Prop} {a : Act} {w : World} {l : List Oper} (p : List (Bool × List Nat)) (p' : List (Bool × List Oper)) (hm : P.follows .mixedOrders = true) (hB : planOK l.toArray p = true)
    (hp : p.map (fun x => (x.1, pickOps l.toArray x.2)) = p')
    (h0 : ∀ K : Act → World → Prop, (∀ a w, Q .normal a w → K a w) → wpPlan P l.toArray K p' a w) : (Code.region id l.toArray true).wp P Q a w := by
  subst hp
  have h := h0 (fun a' w' => Q .normal a' w') (fun _ _ h => h)
  unfold planOK at hB
  simp only [Bool.and_eq_true, beq_iff_eq] at hB
  obtain ⟨⟨h1, h2⟩, h3⟩ := hB
  refine wp_region_any hm ?_
  have := plan_sound (P := P) (Q := fun a' w' => Q .normal a' w') h1 p _ a w h2 h
  rw [h3] at this
  exact AnyG.sound (fun _ _ h => h) _ _ a w _ ((Below.refl _ _).drew) this
end
end Go.Proofs.YthdlepalglgmoaaGreatDoor.Rg
