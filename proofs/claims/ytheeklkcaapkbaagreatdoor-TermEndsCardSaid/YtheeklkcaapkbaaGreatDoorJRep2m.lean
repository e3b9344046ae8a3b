/- append onto a row of the call's own: what else stays; a struct stored into a block that is known whole. The table of signs that are written otherwise, in memory. -/
import Derived.Test.YtheeklkcaapkbaaGreatDoorJMem
import Derived.Laws.Tables
import Derived.Laws.CopyOwn
import Derived.Test.YtheeklkcaapkbaaGreatDoorJRep1
import Derived.Lib.ConvBytes
namespace Go.Proofs.YtheeklkcaapkbaaGreatDoor
open Go Go.RowKit
/-- append onto a row of the call's own, from whatever slice. -/
theorem wpList_appG {P : Program} {w : World} {ops : Array Oper} {rest : List Oper} {o : Oper} {a : Act} {Q : Exit → Act → World → Prop} {s x : Operand} {t : TypeId}
    (ho : o.op = .call { callee := .builtin .append, args := #[s, x], argTypes := #[t, t] }) (hgd : o.guard = none)
    {e : TypeId} {z : Value} {size bytes : Nat} (ht : P.underlying t = some (.slice e)) (hinfo : (P.info? e).map (fun i => (i.zero, i.size, i.bytes)) = some (some z, size, bytes))
    (hzs : z.cells.size = size) (hsz : 0 < size)
    {base : Nat} {v : Value} {n : Nat} {xs : List Value} (hs : a.eval s = v) (hown : w.ownsRow base e size v n xs)
    {A : Option Addr} {m c : Nat} {news : List Value} (hx : a.eval x = .slice A m c) (hr : Rd w A news) (hl : news.length = m * size) (h1 : ∀ u ∈ news, u.oneCell' = true)
    (hbytes : (n + m) * bytes ≤ 140737488355328) (h63 : n + m ≤ 9223372036854775807) (hbase : base ≤ w.heap.size)
    (h : ∀ v' w', w'.ownsRow base e size v' (n + m) (xs ++ news) → Below base w w' → w.grownBy w' v.ownBlock → wpList P ops Q rest (a.put o.dst v') w') : wpList P ops Q (o :: rest) a w := by
  obtain ⟨i, hi, hz, hsize, hby⟩ := info_parts hinfo
  have below : ∀ {w' : World}, w.grownBy w' v.ownBlock → Below base w w' := fun hg => (Below.refl _ _).grown hg hbase fun k hk => (hown.lt k hk).1
  rcases hr with rfl | ⟨g, off, rfl, hc⟩
  · have hm : m = 0 := by
      rcases Nat.eq_zero_or_pos m with h0 | h0
      · exact h0
      · have := Nat.mul_pos h0 hsz
        simp at hl; omega
    subst hm
    rcases A with _ | ad
    · refine wpList_plain hgd fun K hK => ?_
      have hrun : (Builtin.append_ #[t, t] o.type #[v, .slice none 0 c]).run P w = .ok v w := by
        rcases hown.2 with ⟨rfl, rfl⟩ | ⟨g, cap, cur, rfl, _, _, hnc, _⟩
        · simp [Builtin.append_, run_underlying ht, sizeOf, typeInfo, hi, Builtin.lenOf, Builtin.firstCells]
        · simp [Builtin.append_, run_underlying ht, sizeOf, typeInfo, hi, Builtin.lenOf, Builtin.firstCells, hnc, storeCells]
      unfold Oper.wp execOp
      simp only [ho, resolve, invoke, builtin, Sem.run_bind, Sem.run_pure, Result.andThen_ok, List.map_toArray, List.map_cons, List.map_nil, hs, hx, hrun]
      exact hK _ _ (h v w (by simpa using hown) (Below.refl _ _) ⟨rfl, rfl, rfl, Nat.le_refl _, fun _ _ _ => rfl⟩)
    · exact wpList_append_own w hgd s x t ho base e i z size bytes ht hi hz hsize hby hzs hsz v n xs hs hown ad 0 c [] hx hl (by simp) (by simp) h63 hbytes hbase (fun v' w' a b _ => h v' w' a (below b) b)
  · exact wpList_append_own w hgd s x t ho base e i z size bytes ht hi hz hsize hby hzs hsz v n xs hs hown ⟨g, off, none⟩ m c news hx hl (fun j u hu => by rw [add_zero_spot]; exact hc j u hu) h1 h63 hbytes hbase (fun v' w' a b _ => h v' w' a (below b) b)

theorem Rd.grown {w w' : World} {row : Option Nat} {A : Option Addr} {xs : List Value} (h : Rd w A xs) (hg : w.grownBy w' row) (hA : ∀ a, A = some a → some a.block ≠ row) : Rd w' A xs := by
  rcases h with h0 | ⟨b, o, rfl, hx⟩
  · exact .inl h0
  · exact .inr ⟨b, o, rfl, fun j u hu => hg.cell (hx j u hu) (hA ⟨b, o, none⟩ rfl)⟩
theorem run_storeRow {P : Program} {w : World} {t : TypeId} {g : Nat} {ty : TypeId} {cur vs : Array Value} (hi : (P.info? t).map (·.size) = some vs.size) (hg : w.heap[g]? = some (.cells cur ty (0, 0))) (hl : vs.size = cur.size) (h1 : vs.toList.all (·.oneCell') = true) :
    (Instr.storeAt t (.pointer (some ⟨g, 0, none⟩)) (.agg vs)).run P w = .ok () (w.setRow g vs) := by
  obtain ⟨i, hi1, hi2⟩ := Option.map_eq_some_iff.1 hi
  have hs : ∀ w, (sizeOf t).run P w = .ok vs.size w := fun w => by simp [sizeOf, typeInfo, hi1, hi2]
  have h := run_storeCells_from (P := P) g ty vs.toList 0 cur w hg (by simp [hl]) (fun v hv => List.all_eq_true.1 h1 v hv)
  simp only [List.take_zero, List.nil_append, Array.toArray_toList] at h
  unfold Instr.storeAt storeVar
  simp [Instr.sureAddr, hs, Value.cells, Result.andThen, h]
theorem wpList_store_row {P : Program} {w : World} {ops : Array Oper} {rest : List Oper} {o : Oper} {a : Act} {Q : Exit → Act → World → Prop}
    (hgd : o.guard = none) (t : TypeId) (ad x : Operand) (hop : o.op = Op.store t ad x) {g : Nat} {ty : TypeId} {cur vs : Array Value} (had : a.eval ad = .pointer (some ⟨g, 0, none⟩)) (hx : a.eval x = .agg vs)
    (hi : (P.info? t).map (·.size) = some vs.size) (hg : w.heap[g]? = some (.cells cur ty (0, 0))) (hl : vs.size = cur.size) (h1 : vs.toList.all (·.oneCell') = true)
    (hQ : wpList P ops Q rest (a.put o.dst undef) (w.setRow g vs)) : wpList P ops Q (o :: rest) a w := by
  refine wpList_plain hgd fun K hK => ?_
  have hrun := run_storeRow (P := P) (w := w) hi hg hl h1
  unfold Oper.wp
  simp [execOp, hop, had, hx, hrun, Result.andThen]
  exact hK _ _ hQ
/-- Whatever lay in other blocks lies. -/
theorem cell_row {w : World} {g : Nat} {vs : Array Value} {p : Addr} {u : Value} (h : w.cell? p = some u) (hne : p.block ≠ g) : (w.setRow g vs).cell? p = some u := by rw [cell_setRow_other _ _ _ _ hne]; exact h
theorem rd_row {w : World} {g : Nat} {vs : Array Value} {A : Option Addr} {xs : List Value} (h : Rd w A xs) (hA : ∀ a, A = some a → a.block ≠ g) : Rd (w.setRow g vs) A xs := by
  rcases h with h0 | ⟨b, o, rfl, hx⟩
  · exact .inl h0
  · exact .inr ⟨b, o, rfl, fun j u hu => cell_row (hx j u hu) (hA ⟨b, o, none⟩ rfl)⟩
end Go.Proofs.YtheeklkcaapkbaaGreatDoor
namespace Go.Proofs.YtheeklkcaapkbaaGreatDoor
open Go Go.RowKit Um Fm Tx

/-- A sign's bytes: none, or a block of bytes. -/
def RpV (l : List UInt8) (v : Value) (w : World) : Prop :=
  if l = [] then v = .slice none 0 0 else ∃ g c cur fz, v = .slice (some ⟨g, 0, none⟩) 2 c ∧ w.heap[g]? = some (Obj.cells cur 5 fz) ∧ l.length = 2 ∧ ∀ (j : Nat) (x : UInt8), l[j]? = some x → cur[j]? = some (Value.int .u8 (x.toNat : Int))
abbrev rpS (m : Nat) : List Value := (List.range m).map fun i => Value.string ⟨#[rpN i]⟩
/-- The table in block b: k signs are laid, m are named. -/
structure Bsr (B b k m : Nat) (w : World) : Prop where
  ge : B ≤ b
  blk : ∃ cs : Array Value, w.heap[b]? = some (Obj.cells cs 168 (0, 0)) ∧ cs.size = 257 ∧ (∀ j, j < 256 → ∃ v, cs[j]? = some v ∧ RpV (rpT k j) v w) ∧ ∃ v, cs[256]? = some v ∧ w.ownsRow B 9 1 v m (rpS m)
theorem own_block_ne {w : World} {B : Nat} {e : TypeId} {s : Nat} {v : Value} {n : Nat} {xs : List Value} (h : w.ownsRow B e s v n xs) {b : Nat} {cs : Array Value} {T : TypeId} {fz : Nat × Nat}
    (hb : w.heap[b]? = some (Obj.cells cs T fz)) (hT : T ≠ e) : v.ownBlock ≠ some b := by
  intro e1
  rcases h.2 with ⟨rfl, _⟩ | ⟨g, cap, cur, rfl, _, hg, _⟩
  · simp [Value.ownBlock] at e1
  · simp [Value.ownBlock] at e1
    subst e1
    rw [hb] at hg
    injection hg with hg; injection hg with _ hg
    exact hT hg
theorem RpV.keep {l : List UInt8} {v : Value} {w w' : World} (h : RpV l v w) (hk : ∀ (g : Nat) (cur : Array Value) (fz : Nat × Nat), w.heap[g]? = some (Obj.cells cur 5 fz) → w'.heap[g]? = some (Obj.cells cur 5 fz)) : RpV l v w' := by
  unfold RpV at *
  split
  · rename_i hl; rw [if_pos hl] at h; exact h
  · rename_i hl; rw [if_neg hl] at h
    obtain ⟨g, c, cur, fz, h1, h2, h3⟩ := h
    exact ⟨g, c, cur, fz, h1, hk g cur fz h2, h3⟩
theorem Bsr.step {B b k m : Nat} {w w' : World} (h : Bsr B b k m w) (hb : Below w.heap.size w w') : Bsr B b k m w' := by
  obtain ⟨hge, cs, h1, h2, h3, v, h4, h5⟩ := h
  have keep : ∀ {g : Nat} {o : Obj}, w.heap[g]? = some o → w'.heap[g]? = some o := fun hg => by rw [hb.block _ (Array.getElem?_eq_some_iff.1 hg).1]; exact hg
  refine ⟨hge, cs, keep h1, h2, fun j hj => ?_, v, h4, own_below h5 hb (Nat.le_refl _)⟩
  obtain ⟨u, hu, hr⟩ := h3 j hj
  exact ⟨u, hu, hr.keep fun g cur fz hg => keep hg⟩
/-- One sign more is named. -/
theorem Bsr.named {B b k m : Nat} {w w' : World} {v v' : Value} {cs : Array Value} (hge : B ≤ b) (h1 : w.heap[b]? = some (Obj.cells cs 168 (0, 0))) (h2 : cs.size = 257) (h3 : ∀ j, j < 256 → ∃ v, cs[j]? = some v ∧ RpV (rpT k j) v w)
    (own : w.ownsRow B 9 1 v m (rpS m)) (own' : w'.ownsRow B 9 1 v' (m + 1) (rpS (m + 1))) (hg : w.grownBy w' v.ownBlock) :
    Bsr B b k (m + 1) (w'.setCell ⟨b, 256, none⟩ v') := by
  have keep : ∀ {g : Nat} {cur : Array Value} {T : TypeId} {fz : Nat × Nat}, w.heap[g]? = some (.cells cur T fz) → T ≠ 9 → w'.heap[g]? = some (.cells cur T fz) := fun hh hT => by
    rw [hg.block _ (Array.getElem?_eq_some_iff.1 hh).1 (fun e => own_block_ne own hh hT e.symm)]; exact hh
  have hb' := keep h1 (by decide)
  refine ⟨hge, cs.setIfInBounds 256 v', ?_, by simpa using h2, fun j hj => ?_, v', by simp [h2], ?_⟩
  · simp [World.setCell, Array.getElem?_modify, hb']
  · obtain ⟨u, hu, hr⟩ := h3 j hj
    refine ⟨u, ?_, hr.keep fun g cur fz hh => ?_⟩
    · rw [Array.getElem?_setIfInBounds, if_neg (by omega)]; exact hu
    · have h0 := keep hh (by decide)
      rw [Below.heap_setCell _ _ _ _ (show g ≠ b from fun e => ?_)]
      · exact h0
      · subst e; rw [h1] at hh; injection hh with hh; injection hh with _ hh; revert hh; decide
  · have hne := own_block_ne own' hb' (by decide)
    refine ⟨own'.1, own'.2.imp id ?_⟩
    rintro ⟨g, cap, cur, rfl, hB, hh, r⟩
    refine ⟨g, cap, cur, rfl, hB, ?_, r⟩
    rw [Below.heap_setCell _ _ _ _ (show g ≠ b from fun e => hne (by simp [Value.ownBlock, e]))]
    exact hh
/-- One sign more is laid. -/
theorem Bsr.laid {B b k m : Nat} {w : World} (h : Bsr B b k m w) (hk : k < 4) {g c : Nat} {cur : Array Value} {fz : Nat × Nat} (hg : w.heap[g]? = some (Obj.cells cur 5 fz))
    (hx : ∀ (j : Nat) (x : UInt8), (rpX (rpN k).toNat)[j]? = some x → cur[j]? = some (Value.int .u8 (x.toNat : Int))) : Bsr B b (k + 1) m (w.setCell ⟨b, (rpN k).toNat, none⟩ (.slice (some ⟨g, 0, none⟩) 2 c)) := by
  obtain ⟨hge, cs, h1, h2, h3, v, h4, h5⟩ := h
  have hn : (rpN k).toNat < 256 := UInt8.toNat_lt _
  have hl : (rpX (rpN k).toNat).length = 2 := by
    match k, hk with
    | 0, _ => rfl
    | 1, _ => rfl
    | 2, _ => rfl
    | 3, _ => rfl
  have keep : ∀ {g : Nat} {cur : Array Value} {T : TypeId} {fz : Nat × Nat} {b' : Nat} {u : Value}, w.heap[g]? = some (.cells cur T fz) → T ≠ 168 → (w.setCell ⟨b, b', none⟩ u).heap[g]? = some (.cells cur T fz) := fun {g} _ _ _ _ _ hh hT => by
    rw [Below.heap_setCell _ _ _ _ (show g ≠ b from fun e => ?_)]
    · exact hh
    · subst e; rw [h1] at hh; injection hh with hh; injection hh with _ hh; exact hT hh.symm
  refine ⟨hge, cs.setIfInBounds (rpN k).toNat (.slice (some ⟨g, 0, none⟩) 2 c), ?_, by simpa using h2, fun j hj => ?_, v, ?_, ?_⟩
  · simp [World.setCell, Array.getElem?_modify, h1]
  · rw [rpT_succ k j hk]
    by_cases e : j = (rpN k).toNat
    · subst e
      rw [if_pos rfl]
      refine ⟨.slice (some ⟨g, 0, none⟩) 2 c, by rw [Array.getElem?_setIfInBounds, if_pos rfl, if_pos (by omega)], ?_⟩
      unfold RpV
      rw [if_neg (fun e => by rw [e] at hl; cases hl)]
      exact ⟨g, c, cur, fz, rfl, keep hg (by decide), hl, hx⟩
    · rw [if_neg e]
      obtain ⟨u, hu, hr⟩ := h3 j hj
      refine ⟨u, ?_, hr.keep fun g cur fz hh => keep hh (by decide)⟩
      rw [Array.getElem?_setIfInBounds, if_neg (Ne.symm e)]; exact hu
  · rw [Array.getElem?_setIfInBounds, if_neg (by omega)]; exact h4
  · refine ⟨h5.1, h5.2.imp id ?_⟩
    rintro ⟨g', cap, cur', rfl, hB, hh, r⟩
    exact ⟨g', cap, cur', rfl, hB, keep hh (by decide), r⟩
theorem Bsr.low {B b k m : Nat} {w : World} (h : Bsr B b k m w) {j : Nat} (hj : j < 256) : ∃ v, w.cell? ⟨b, j, none⟩ = some v ∧ RpV (rpT k j) v w := by
  obtain ⟨_, cs, h1, _, h3, _⟩ := h
  obtain ⟨v, hv, hr⟩ := h3 j hj
  exact ⟨v, by rw [Lib.cell_of_heap h1]; exact hv, hr⟩
theorem Bsr.row {B b k m : Nat} {w : World} (h : Bsr B b k m w) : ∃ v, w.cell? ⟨b, 256, none⟩ = some v ∧ w.ownsRow B 9 1 v m (rpS m) := by
  obtain ⟨_, cs, h1, _, _, v, hv, ho⟩ := h
  exact ⟨v, by rw [Lib.cell_of_heap h1]; exact hv, ho⟩
theorem Bsr.fz {B b k m : Nat} {w : World} (h : Bsr B b k m w) (j : Nat) : w.frozen? ⟨b, j, none⟩ = false := by
  obtain ⟨_, cs, h1, _⟩ := h
  exact Lib.frozen_of_heap h1 j
theorem rpS_succ (m : Nat) : rpS (m + 1) = rpS m ++ [.string ⟨#[rpN m]⟩] := by simp [rpS, List.range_succ]
end Go.Proofs.YtheeklkcaapkbaaGreatDoor
