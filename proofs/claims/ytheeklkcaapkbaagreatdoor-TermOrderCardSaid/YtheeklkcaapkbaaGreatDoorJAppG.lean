/- append onto a row of the call's own: what else stays; a struct stored into a block that is known whole. -/
import Derived.Test.YtheeklkcaapkbaaGreatDoorJMem
import Derived.Laws.Tables
import Derived.Laws.CopyOwn
namespace Go.Proofs.YtheeklkcaapkbaaGreatDoor
open Go Go.RowKit
/-- append onto a row of the call's own, from whatever slice. -/
theorem wpList_appG {P : Program} {w : World} {ops : Array Oper} {rest : List Oper} {o : Oper} {a : Act} {Q : Exit → Act → World → Prop} {s x : Operand} {t : TypeId}
    (ho : o.op = .call { callee := .builtin .append, args := #[s, x], argTypes := #[t, t] }) (hgd : o.guard = none)
    {e : TypeId} {z : Value} {size bytes : Nat} (ht : P.underlying t = some (.slice e)) (hinfo : (P.info? e).map (fun i => (i.zero, i.size, i.bytes)) = some (some z, size, bytes))
    (hzs : z.cells.size = size) (hsz : 0 < size)
    {base : Nat} {v : Value} {n : Nat} {xs : List Value} (hs : a.eval s = v) (hown : w.ownsRow base e size v n xs)
    {A : Option Addr} {m c : Nat} {news : List Value} (hx : a.eval x = .slice A m c) (hr : Rd w A news) (hl : news.length = m * size) (h1 : ∀ u ∈ news, u.oneCell' = true)
    (hbytes : (n + m) * bytes ≤ 140737488355328) (h63 : n + m ≤ 9223372036854775807) (hbase : base ≤ w.heap.size)
    (h : ∀ v' w', w'.ownsRow base e size v' (n + m) (xs ++ news) → Below base w w' → w.grownBy w' v.ownBlock → wpList P ops Q rest (a.put o.dst v') w') : wpList P ops Q (o :: rest) a w := by
  obtain ⟨i, hi, hz, hsize, hby⟩ := info_parts hinfo
  have below : ∀ {w' : World}, w.grownBy w' v.ownBlock → Below base w w' := fun hg => (Below.refl _ _).grown hg hbase fun k hk => (hown.lt k hk).1
  rcases hr with rfl | ⟨g, off, rfl, hc⟩
  · have hm : m = 0 := by
      rcases Nat.eq_zero_or_pos m with h0 | h0
      · exact h0
      · have := Nat.mul_pos h0 hsz
        simp at hl; omega
    subst hm
    rcases A with _ | ad
    · refine wpList_plain hgd fun K hK => ?_
      have hrun : (Builtin.append_ #[t, t] o.type #[v, .slice none 0 c]).run P w = .ok v w := by
        rcases hown.2 with ⟨rfl, rfl⟩ | ⟨g, cap, cur, rfl, _, _, hnc, _⟩
        · simp [Builtin.append_, run_underlying ht, sizeOf, typeInfo, hi, Builtin.lenOf, Builtin.firstCells]
        · simp [Builtin.append_, run_underlying ht, sizeOf, typeInfo, hi, Builtin.lenOf, Builtin.firstCells, hnc, storeCells]
      unfold Oper.wp execOp
      simp only [ho, resolve, invoke, builtin, Sem.run_bind, Sem.run_pure, Result.andThen_ok, List.map_toArray, List.map_cons, List.map_nil, hs, hx, hrun]
      exact hK _ _ (h v w (by simpa using hown) (Below.refl _ _) ⟨rfl, rfl, rfl, Nat.le_refl _, fun _ _ _ => rfl⟩)
    · exact wpList_append_own w hgd s x t ho base e i z size bytes ht hi hz hsize hby hzs hsz v n xs hs hown ad 0 c [] hx hl (by simp) (by simp) h63 hbytes hbase (fun v' w' a b _ => h v' w' a (below b) b)
  · exact wpList_append_own w hgd s x t ho base e i z size bytes ht hi hz hsize hby hzs hsz v n xs hs hown ⟨g, off, none⟩ m c news hx hl (fun j u hu => by rw [add_zero_spot]; exact hc j u hu) h1 h63 hbytes hbase (fun v' w' a b _ => h v' w' a (below b) b)

theorem Rd.grown {w w' : World} {row : Option Nat} {A : Option Addr} {xs : List Value} (h : Rd w A xs) (hg : w.grownBy w' row) (hA : ∀ a, A = some a → some a.block ≠ row) : Rd w' A xs := by
  rcases h with h0 | ⟨b, o, rfl, hx⟩
  · exact .inl h0
  · exact .inr ⟨b, o, rfl, fun j u hu => hg.cell (hx j u hu) (hA ⟨b, o, none⟩ rfl)⟩
theorem run_storeRow {P : Program} {w : World} {t : TypeId} {g : Nat} {ty : TypeId} {cur vs : Array Value} (hi : (P.info? t).map (·.size) = some vs.size) (hg : w.heap[g]? = some (.cells cur ty (0, 0))) (hl : vs.size = cur.size) (h1 : vs.toList.all (·.oneCell') = true) :
    (Instr.storeAt t (.pointer (some ⟨g, 0, none⟩)) (.agg vs)).run P w = .ok () (w.setRow g vs) := by
  obtain ⟨i, hi1, hi2⟩ := Option.map_eq_some_iff.1 hi
  have hs : ∀ w, (sizeOf t).run P w = .ok vs.size w := fun w => by simp [sizeOf, typeInfo, hi1, hi2]
  have h := run_storeCells_from (P := P) g ty vs.toList 0 cur w hg (by simp [hl]) (fun v hv => List.all_eq_true.1 h1 v hv)
  simp only [List.take_zero, List.nil_append, Array.toArray_toList] at h
  unfold Instr.storeAt storeVar
  simp [Instr.sureAddr, hs, Value.cells, Result.andThen, h]
theorem wpList_store_row {P : Program} {w : World} {ops : Array Oper} {rest : List Oper} {o : Oper} {a : Act} {Q : Exit → Act → World → Prop}
    (hgd : o.guard = none) (t : TypeId) (ad x : Operand) (hop : o.op = Op.store t ad x) {g : Nat} {ty : TypeId} {cur vs : Array Value} (had : a.eval ad = .pointer (some ⟨g, 0, none⟩)) (hx : a.eval x = .agg vs)
    (hi : (P.info? t).map (·.size) = some vs.size) (hg : w.heap[g]? = some (.cells cur ty (0, 0))) (hl : vs.size = cur.size) (h1 : vs.toList.all (·.oneCell') = true)
    (hQ : wpList P ops Q rest (a.put o.dst undef) (w.setRow g vs)) : wpList P ops Q (o :: rest) a w := by
  refine wpList_plain hgd fun K hK => ?_
  have hrun := run_storeRow (P := P) (w := w) hi hg hl h1
  unfold Oper.wp
  simp [execOp, hop, had, hx, hrun, Result.andThen]
  exact hK _ _ hQ
/-- Whatever lay in other blocks lies. -/
theorem cell_row {w : World} {g : Nat} {vs : Array Value} {p : Addr} {u : Value} (h : w.cell? p = some u) (hne : p.block ≠ g) : (w.setRow g vs).cell? p = some u := by rw [cell_setRow_other _ _ _ _ hne]; exact h
theorem rd_row {w : World} {g : Nat} {vs : Array Value} {A : Option Addr} {xs : List Value} (h : Rd w A xs) (hA : ∀ a, A = some a → a.block ≠ g) : Rd (w.setRow g vs) A xs := by
  rcases h with h0 | ⟨b, o, rfl, hx⟩
  · exact .inl h0
  · exact .inr ⟨b, o, rfl, fun j u hu => cell_row (hx j u hu) (hA ⟨b, o, none⟩ rfl)⟩
end Go.Proofs.YtheeklkcaapkbaaGreatDoor
