/- Words that all walks of this seat use: bytes of a string, cells that a slice reads, the library's variables. What every row's last step needs: arguments read as they did, the tables of the library, the witness's world. -/
import Derived.Test.YtffpgandgajihaaGreatDoorRows
import Derived.Test.YtffpgandgajihaaGreatDoorShelf
import Derived.WalkKit
import Derived.ProofKit
import Derived.OpenShut
import Derived.Lib.Hide
import Derived.Deep.QuietTactic
import Derived.BigQuiet
import Derived.Deep.AppendLies
import Derived.Maps.AppendAt
import Derived.Deep.RegionWith
import Derived.Deep.Draws
import Derived.WalkSpells
import Derived.WalkLawsBesides
import Derived.Handy
import Derived.RegionTactic
import Derived.Deep.LoopGhost
import Derived.Test.YtffpgandgajihaaGreatDoorCards
import Derived.Test.YtffpgandgajihaaGreatDoorTie
import Derived.Lib.LaidU8
import Derived.Lib.LaidIn
import Derived.Deep.DeepHandedRow
import Derived.Deep.DeepWitnessRowRef
import Derived.SizedLaws
import Derived.Carry
namespace Go.Proofs.YtffpgandgajihaaGreatDoor
open Go Go.RowKit

/-- The byte at a place of a string, as a number; 0 beyond its end. -/
def bn (s : ByteArray) (i : Nat) : Nat := (s.data.toList.getD i 0).toNat

theorem size_toList (s : ByteArray) : s.data.toList.length = s.size := by cases s; rfl

@[go_sem] theorem get_bn (s : ByteArray) (i : Nat) (h : i < s.size) : (s[i]'h).toNat = bn s i := by
  have hl : i < s.data.toList.length := by rw [size_toList]; exact h
  have : s[i]'h = s.data.toList[i] := by cases s; rfl
  rw [this, bn, List.getD_eq_getElem?_getD, List.getElem?_eq_getElem hl]; rfl

theorem bn_lt (s : ByteArray) (i : Nat) : bn s i < 256 := by
  have := (s.data.toList.getD i 0).toNat_lt
  unfold bn; omega

@[go_sem] theorem wrap64_bn (s : ByteArray) (i : Nat) : wrap64 (bn s i : Int) = (bn s i : Int) :=
  IntWalk.wrap64_in _ ⟨by omega, by have := bn_lt s i; omega⟩

theorem bn_drop (s : ByteArray) (k i : Nat) : ((s.data.toList.drop k).getD i 0).toNat = bn s (k + i) := by
  unfold bn
  simp [List.getD_eq_getElem?_getD, List.getElem?_drop]

theorem extract_toList (s : ByteArray) (a b : Nat) : (s.extract a b).data.toList = (s.data.toList.drop a).take (b - a) := by
  rw [Lib.extract_data]

/-- A slice whose cells start at A reads the cells xs. -/
def Rd (w : World) (A : Option Addr) (xs : List Value) : Prop :=
  xs = [] ∨ ∃ g o, A = some ⟨g, o, none⟩ ∧ ∀ j u, xs[j]? = some u → w.cell? ⟨g, o + j, none⟩ = some u

theorem cell_lt {w : World} {p : Addr} {u : Value} (h : w.cell? p = some u) : p.block < w.heap.size := by
  rcases Nat.lt_or_ge p.block w.heap.size with hlt | hge
  · exact hlt
  · rw [World.cell?, Array.getElem?_eq_none hge] at h; cases h

theorem Rd.nil (w : World) (A : Option Addr) : Rd w A [] := .inl rfl
theorem Rd.at_ {w : World} {A : Option Addr} {xs : List Value} (h : Rd w A xs) {j : Nat} {u : Value} (hu : xs[j]? = some u) :
    ∃ g o, A = some ⟨g, o, none⟩ ∧ w.cell? ⟨g, o + j, none⟩ = some u := by
  rcases h with rfl | ⟨g, o, hA, hc⟩
  · simp at hu
  · exact ⟨g, o, hA, hc j u hu⟩
theorem Rd.below {w w' : World} {A : Option Addr} {xs : List Value} (h : Rd w A xs) {B : Nat} (hb : Below B w w') (hB : w.heap.size ≤ B) : Rd w' A xs := by
  rcases h with rfl | ⟨g, o, hA, hc⟩
  · exact .inl rfl
  · refine .inr ⟨g, o, hA, fun j u hu => ?_⟩
    have h1 := hc j u hu
    have h2 := cell_lt h1
    rw [hb.cell (p := ⟨g, o + j, none⟩) (by simp only at h2 ⊢; omega)]; exact h1
theorem Rd.of_block {w : World} {g : Nat} {cs : Array Value} {t : TypeId} {fr : Nat × Nat} {xs : List Value} (h : w.heap[g]? = some (.cells cs t fr)) (hx : cs.toList = xs) :
    Rd w (some ⟨g, 0, none⟩) xs := by
  refine .inr ⟨g, 0, rfl, fun j u hu => ?_⟩
  simp only [World.cell?, h, Nat.zero_add]
  subst hx
  simpa using hu
theorem Rd.of_own {w : World} {base : Nat} {e : TypeId} {size n c : Nat} {A : Option Addr} {xs : List Value} (h : w.ownsRow base e size (.slice A n c) n xs) : Rd w A xs := by
  rcases xs with _ | ⟨x, r⟩
  · exact .inl rfl
  · obtain ⟨hl, hr⟩ := h
    rcases hr with ⟨hv, hn⟩ | ⟨g, cap, cur, hv, _, hh, _, _, hs, ht⟩
    · subst hn; simp at hl
    · injection hv with hA _ _
      refine .inr ⟨g, 0, hA, fun j u hu => ?_⟩
      simp only [World.cell?, hh, Nat.zero_add]
      rw [← ht] at hu
      rw [List.getElem?_take] at hu
      split at hu
      · simpa using hu
      · cases hu
theorem Rd.take {w : World} {A : Option Addr} {xs : List Value} (h : Rd w A xs) (n : Nat) : Rd w A (xs.take n) := by
  rcases h with rfl | ⟨g, o, hA, hc⟩
  · exact .inl (by simp)
  · refine .inr ⟨g, o, hA, fun j u hu => hc j u ?_⟩
    rw [List.getElem?_take] at hu
    split at hu
    · exact hu
    · cases hu

theorem own_below {w w' : World} {base : Nat} {e : TypeId} {size n : Nat} {v : Value} {xs : List Value} (h : w.ownsRow base e size v n xs) {B : Nat} (hb : Below B w w') (hB : w.heap.size ≤ B) : w'.ownsRow base e size v n xs := by
  refine ⟨h.1, ?_⟩
  rcases h.2 with h0 | ⟨g, cap, cur, hv, hg, hh, r⟩
  · exact .inl h0
  · refine .inr ⟨g, cap, cur, hv, hg, ?_, r⟩
    have hlt : g < w.heap.size := by
      rcases Nat.lt_or_ge g w.heap.size with hlt | hge
      · exact hlt
      · rw [Array.getElem?_eq_none hge] at hh; cases hh
    rw [hb.block g (by omega)]; exact hh

theorem add_zero_spot (g o j : Nat) : (⟨g, o, none⟩ : Addr).add j = ⟨g, o + j, none⟩ := by
  unfold Addr.add; split <;> simp_all

/-- append onto a row of the call's own, from whatever slice. -/
theorem wpList_app {P : Program} {w : World} {ops : Array Oper} {rest : List Oper} {o : Oper} {a : Act} {Q : Exit → Act → World → Prop} {s x : Operand} {t : TypeId}
    (ho : o.op = .call { callee := .builtin .append, args := #[s, x], argTypes := #[t, t] }) (hgd : o.guard = none)
    {e : TypeId} {z : Value} {size bytes : Nat} (ht : P.underlying t = some (.slice e)) (hinfo : (P.info? e).map (fun i => (i.zero, i.size, i.bytes)) = some (some z, size, bytes))
    (hzs : z.cells.size = size) (hsz : 0 < size)
    {base : Nat} {v : Value} {n : Nat} {xs : List Value} (hs : a.eval s = v) (hown : w.ownsRow base e size v n xs)
    {A : Option Addr} {m c : Nat} {news : List Value} (hx : a.eval x = .slice A m c) (hr : Rd w A news) (hl : news.length = m * size) (h1 : ∀ u ∈ news, u.oneCell' = true)
    (hbytes : (n + m) * bytes ≤ 140737488355328) (h63 : n + m ≤ 9223372036854775807) (hbase : base ≤ w.heap.size)
    (h : ∀ v' w', w'.ownsRow base e size v' (n + m) (xs ++ news) → Below base w w' → wpList P ops Q rest (a.put o.dst v') w') : wpList P ops Q (o :: rest) a w := by
  obtain ⟨i, hi, hz, hsize, hby⟩ := info_parts hinfo
  have below : ∀ {w' : World}, w.grownBy w' v.ownBlock → Below base w w' := fun hg => (Below.refl _ _).grown hg hbase fun k hk => (hown.lt k hk).1
  rcases hr with rfl | ⟨g, off, rfl, hc⟩
  · have hm : m = 0 := by
      rcases Nat.eq_zero_or_pos m with h0 | h0
      · exact h0
      · have := Nat.mul_pos h0 hsz
        simp at hl; omega
    subst hm
    rcases A with _ | ad
    · refine wpList_plain hgd fun K hK => ?_
      have hrun : (Builtin.append_ #[t, t] o.type #[v, .slice none 0 c]).run P w = .ok v w := by
        rcases hown.2 with ⟨rfl, rfl⟩ | ⟨g, cap, cur, rfl, _, _, hnc, _⟩
        · simp [Builtin.append_, run_underlying ht, sizeOf, typeInfo, hi, Builtin.lenOf, Builtin.firstCells]
        · simp [Builtin.append_, run_underlying ht, sizeOf, typeInfo, hi, Builtin.lenOf, Builtin.firstCells, hnc, storeCells]
      unfold Oper.wp execOp
      simp only [ho, resolve, invoke, builtin, Sem.run_bind, Sem.run_pure, Result.andThen_ok, List.map_toArray, List.map_cons, List.map_nil, hs, hx, hrun]
      exact hK _ _ (h v w (by simpa using hown) (Below.refl _ _))
    · exact wpList_append_own w hgd s x t ho base e i z size bytes ht hi hz hsize hby hzs hsz v n xs hs hown ad 0 c [] hx hl (by simp) (by simp) h63 hbytes hbase (fun v' w' a b _ => h v' w' a (below b))
  · exact wpList_append_own w hgd s x t ho base e i z size bytes ht hi hz hsize hby hzs hsz v n xs hs hown ⟨g, off, none⟩ m c news hx hl (fun j u hu => by rw [add_zero_spot]; exact hc j u hu) h1 h63 hbytes hbase (fun v' w' a b _ => h v' w' a (below b))

/-- string(b), whatever slice of bytes b. -/
theorem run_conv_bytes {P : Program} {w : World} {A : Option Addr} {n c : Nat} {xs : List Int} (src dst e : TypeId) (hs : P.underlying src = some (.slice e)) (he : P.underlying e = some (.int .u8)) (hd : P.underlying dst = some .string)
    (hr : Rd w A (xs.map (Value.int .u8))) (hn : xs.length = n) : (convert src dst (.slice A n c)).run P w = .ok (.string (strOfNums xs)) w := by
  rcases hr with h0 | ⟨g, o, rfl, hc⟩
  · have hx : xs = [] := by simpa using h0
    subst hx
    simp only [List.length_nil] at hn
    subst hn
    rcases A with _ | ⟨g, o, sp⟩
    · rw [run_convert_bytes_nil w src e hs he 0 c dst hd]; rfl
    · rw [run_convert_bytes_string w src dst e _ 0 c hs he hd, run_bytesToString w _ 0 c [] (by rfl)]
      rfl
  · exact run_convert_bytes_arg w src e hs he g o n c xs hn (fun i hi => by
      have h : i < xs.length := by omega
      exact hc i (.int .u8 (xs.getD i 0)) (by rw [List.getElem?_map, List.getElem?_eq_getElem h]; simp [List.getD_eq_getElem?_getD, h])) dst hd

/-- What the library's variables hold: the tables of utf8, and some number in MaxLen. -/
structure Ctx (w : World) : Prop where
  tabs : Lib.Utf8Tabs 0 1 w
  maxl : ∃ m : Int, w.cell? ⟨2, 0, none⟩ = some (.int .i64 m)

theorem Ctx.step {w w' : World} (h : Ctx w) (hb : Below w.heap.size w w') : Ctx w' := by
  have key : ∀ {p : Addr} {v : Value}, w.cell? p = some v → w'.cell? p = some v := fun hc => by rw [hb.cell (cell_lt hc)]; exact hc
  refine ⟨⟨fun c hc => key (h.tabs.1 c hc), fun i hi => ⟨key (h.tabs.2 i hi).1, key (h.tabs.2 i hi).2⟩⟩, ?_⟩
  obtain ⟨m, hm⟩ := h.maxl
  exact ⟨m, key hm⟩

theorem below_of_eq {w w' : World} (h : w = w') : Below w.heap.size w w' := h ▸ Below.refl _ _

theorem heap_two_1 (w : World) (o1 o2 : Obj) : ((w.alloc o1).alloc o2).heap[w.heap.size]? = some o1 := by
  rw [Below.heap_alloc _ _ _ (by simp)]; exact heap_alloc_new w o1
theorem heap_two_2 (w : World) (o1 o2 : Obj) : ((w.alloc o1).alloc o2).heap[w.heap.size + 1]? = some o2 := by
  have := heap_alloc_new (w.alloc o1) o2
  simpa using this

theorem bcell {B : Nat} {w w1 : World} (hb : Below B w w1) : (∀ b o, b < B → w1.cell? ⟨b, o, none⟩ = w.cell? ⟨b, o, none⟩) ∧ (∀ b o, b < B → w1.frozen? ⟨b, o, none⟩ = w.frozen? ⟨b, o, none⟩) :=
  ⟨fun b o h => hb.cell (p := ⟨b, o, none⟩) h, fun b o h => hb.frozen (p := ⟨b, o, none⟩) h⟩
end Go.Proofs.YtffpgandgajihaaGreatDoor
namespace Go.Proofs.YtffpgandgajihaaGreatDoor
open Go Go.ChangeShapes Go.WideShapes Go.ChangeAt Go.RowKit Go.Lib
open Go.ChangeMaps (open_string shut_string)

section
variable {H : Type} {enc : TypeId × Value → H} {P : Program}

theorem trodAll_stays (hl : laidOutB P = true) {W W' : World} (hb : Below W.heap.size W W') {sp : Nat → Bool} :
    ∀ (ts : List TypeId) (vs : List Value) (ds : List (DataW H)) (ps : List MemPlace), (∀ t ∈ ts, P.readableRec t = true ∧ t < P.types.size) → DataW.TrodAll enc P W 0 (fun _ => true) true ts vs ds ps →
      (∀ x ∈ ps, x.block < W.heap.size) → (∀ x ∈ ps, sp x.block = true) → DataW.TrodAll enc P W' 0 sp true ts vs ds ps
  | [], [], [], _, _, h, _, _ => h
  | t :: ts, v :: vs, d :: ds, ps, hr, h, hlt, hsp => by
    obtain ⟨p, q, h1, h2, rfl⟩ := h
    exact ⟨p, q, WideElems.Trod_stays hl (hr t (by simp)).1 (hr t (by simp)).2 h1 (fun x hx => hb.same (hlt x (by simp [hx]))) (fun x hx => hsp x (by simp [hx])),
      trodAll_stays hl hb ts vs ds q (fun t ht => hr t (by simp [ht])) h2 (fun x hx => hlt x (by simp [hx])) (fun x hx => hsp x (by simp [hx])), rfl⟩
  | [], [], _ :: _, _, _, h, _, _ => h.elim
  | [], _ :: _, _, _, _, h, _, _ => h.elim
  | _ :: _, [], _, _, _, h, _, _ => h.elim
  | _ :: _, _ :: _, [], _, _, h, _, _ => h.elim

/-- The row's last step: the result is true, the arguments read as they did, nothing old has turned. -/
theorem post_true {fn : Func} {s : ChangeSpec} {apart fresh handsOn again : Bool} {W W' : World} {args : Array Value} {ds gs : List (DataW H)} {before : List MemPlace} {tb : TypeId}
    (hl : laidOutB P = true) (hr : fn.params.toList.all (fun t => P.readableRec t && decide (t < P.types.size)) = true) (hres : fn.resultTypes = #[tb]) (htb : P.underlying tb = some .bool) (hs : s.vars = [])
    (hW : DataW.Whole enc P fn.params.toList s.vars apart W args.toList ds gs before) (hf : s.fn H (ds ++ gs) = { results := [.lit (.bool true)], args := ds }) (hb : Below W.heap.size W W') :
    s.post enc P fn apart fresh handsOn again W args (.bool true) W' := by
  have hlt : ∀ p ∈ before, p.block < W.heap.size := fun p hp => hW.lt p hp
  have hW' := hW
  obtain ⟨p, q, hA, hV, rfl, hz, hn⟩ := hW
  rw [hs] at hV
  obtain ⟨rfl, rfl⟩ := trodVars_none hV
  rw [List.append_nil] at hf hW' hz hn hlt
  have hr' : ∀ t ∈ fn.params.toList, P.readableRec t = true ∧ t < P.types.size := fun t ht => by
    have := List.all_eq_true.1 hr t ht
    simpa using this
  have hargs : ∀ sp : Nat → Bool, (∀ x ∈ p, sp x.block = true) → DataW.TrodAll enc P W' 0 sp true fn.params.toList args.toList ds p := fun sp hsp => trodAll_stays hl hb _ _ _ _ hr' hA hlt hsp
  have hold : ∀ x ∈ p, (fun b => decide (b < W.heap.size)) x.block = true := fun x hx => by simpa using hlt x hx
  have hout : ∀ (b : Nat) (sp : Nat → Bool) (hd : Bool), DataW.TrodAll enc P W' b sp hd fn.resultTypes.toList ((Value.bool true).resultList fn.resultTypes.size) [.lit (.bool true)] [] := fun b sp hd => by
    rw [hres]; exact trodAll_cons_mk (shut_bool htb _) trodAll_mk0
  refine ⟨ds, [], p, [], p, [], hW', ?_, ?_, ?_, World.keptBut_mono (fun x hx => ⟨hx, ?_⟩) (hb.frame (· ∈ p)), fun _ => ?_⟩
  · rw [List.append_nil, hf]; exact hout _ _ _
  · rw [List.append_nil, hf]; exact hargs _ hold
  · rw [List.append_nil, hf, hs]; rfl
  · exact Or.inr (by simpa using hx)
  · refine ⟨ok_one (t := tb) hres rfl (okWide_bool_mk htb _), _, ([] : List (DataW H)), ([] ++ p) ++ [], ⟨[] ++ p, [], trodAll_append (hargs _ (fun _ _ => rfl)) (hout _ _ _), ?_, rfl, ?_, ?_⟩, ?_⟩
    · rw [hs]; rfl
    · intro b off hp
      have hin : MemPlace.cell b off ∈ p := by simpa using hp
      rw [hb.frozen (hlt _ hin)]
      exact hz b off hin
    · intro ha
      have := hn ha
      simpa using this
    · intro x hx _
      simpa using hx

/-- A slice of numbers, opened: it reads some list. -/
theorem open_numbers {r : Reach} {b0 : Nat} {w : World} {t e : TypeId} {k : IntKind} {sp : Nat → Bool} {v : Value} {d : DataW H} {ps : List MemPlace} (ht : P.underlying t = some (.slice e)) (he : P.underlying e = some (.int k)) (hc : P.cellsOf e = 1)
    (hv0 : Value.okWide P w r b0 t v) (hd : DataW.Trod enc P w 0 sp true t v d ps) : ∃ (l : List Int) (A : Option Addr) (c : Nat), v = .slice A l.length c ∧ Rd w A (l.map (Value.int k)) ∧ l.length ≤ maxLen := by
  obtain ⟨A0, l0, c0, rfl⟩ := okWide_slice ht hv0
  obtain ⟨fuel, hf⟩ := hd
  rw [show (Value.slice A0 l0 c0).cells.toList = [.slice A0 l0 c0] from rfl] at hf
  rcases open_ints ht he hc hf with ⟨hv, _⟩ | ⟨a, len, cap, zs, hv, _, hle, hmax, hzl, _, hcell, _⟩
  · injection hv with hv
    exact ⟨[], none, 0, hv, Rd.nil _ _, by simp⟩
  · have hlz : len ≤ zs.length := by rw [hzl]; split <;> omega
    refine ⟨zs.take len, some a, cap, ?_, ?_, by simp; omega⟩
    · rw [List.length_take, Nat.min_eq_left hlz]
      injection hv
    · rcases Nat.eq_zero_or_pos zs.length with h0 | h0
      · have : zs = [] := by simpa using h0
        subst this; simpa using Rd.nil w (some a)
      · obtain ⟨b, off, rfl, hcc⟩ := ints_at hcell h0
        refine .inr ⟨b, off, rfl, fun j u hu => ?_⟩
        rw [List.getElem?_map, List.getElem?_take] at hu
        split at hu
        · rename_i hj
          have hjz : j < zs.length := by omega
          rw [hcc j hjz]
          simp [hjz] at hu
          simp [hjz, hu]
        · simp at hu
end
end Go.Proofs.YtffpgandgajihaaGreatDoor
