/- append onto a row of the call's own: where the row lies then. Two conditions, two queries are the same: in plain words. Lists of texts, of patterns, of keys: are two the same? (printed by gen/eqs.py) -/
import Derived.Test.YtfijpdmkdoccjaaGreatDoorJAppG
import Derived.Test.YtfijpdmkdoccjaaGreatDoorJQSize0
import Derived.Test.YtfijpdmkdoccjaaGreatDoorJQRight4
import Derived.Test.YtfijpdmkdoccjaaGreatDoorJChk5
namespace Go.Proofs.YtfijpdmkdoccjaaGreatDoor
open Go Go.RowKit
theorem run_append_ownF {P : Program} (w : World) (base : Nat) (t ty e : TypeId) (i : TypeInfo) (z : Value) (size bytes : Nat) (ht : P.underlying t = some (.slice e)) (hi : P.info? e = some i) (hz : i.zero = some z)
    (hsize : i.size = size) (hby : i.bytes = bytes) (hzs : z.cells.size = size) (hsz : 0 < size)
    (v : Value) (n : Nat) (xs : List Value) (hown : w.ownsRow base e size v n xs)
    (a : Addr) (m c : Nat) (news : List Value) (hl : news.length = m * size) (hnews : ∀ j u, news[j]? = some u → w.cell? (a.add j) = some u) (h1 : ∀ u ∈ news, u.oneCell' = true)
    (h63 : n + m ≤ maxLen) (hbytes : (n + m) * bytes ≤ 140737488355328) (hbase : base ≤ w.heap.size) :
    ∃ v' w', (Builtin.append_ #[t, t] ty #[v, .slice (some a) m c]).run P w = .ok v' w' ∧ w'.ownsRow base e size v' (n + m) (xs ++ news) ∧ w.grownBy w' v.ownBlock ∧
      (v'.ownBlock = v.ownBlock ∨ v'.ownBlock = some w.heap.size) := by
  obtain ⟨v', w', hr, h2, h3, -⟩ := run_append_own (P := P) w base t ty e i z size bytes ht hi hz hsize hby hzs hsz v n xs hown a m c news hl hnews h1 h63 hbytes hbase
  refine ⟨v', w', hr, h2, h3, ?_⟩
  subst hsize
  subst hby
  have hsmall : n + m ≤ 9223372036854775807 := by simp only [maxLen] at h63; omega
  rcases hown.2 with ⟨rfl, rfl⟩ | ⟨g, cap, cur, rfl, hbg, hg, hnc, hcm, hcs, htake⟩
  · by_cases hm : m = 0
    · subst hm
      rcases h2.2 with ⟨rfl, _⟩ | ⟨g, cap, cur, rfl, _⟩
      · exact .inl rfl
      · have hn : news = [] := List.eq_nil_of_length_eq_zero (by simpa using hl)
        subst hn
        have hr' : (Builtin.append_ #[t, t] ty #[.slice none 0 0, .slice (some a) 0 c]).run P w = .ok (.slice none 0 0) w := by
          simp [Builtin.append_, run_underlying ht, sizeOf, typeInfo, hi, Builtin.lenOf, Builtin.firstCells, loadCells, loadCellsFrom]
        rw [hr'] at hr
        cases hr
    · have hr' := run_append_nil (P := P) w t ty e i z ht hi hz a m c news hl hnews (by omega) (by omega) (by have hb := hbytes; simp only [Nat.zero_add] at hb; omega)
      rw [hr'] at hr
      cases hr
      exact .inr rfl
  · by_cases hroom : n + m ≤ cap
    · have hfit : n * i.size + news.length ≤ cur.size := by rw [hl, hcs, ← Nat.add_mul]; exact Nat.mul_le_mul_right _ hroom
      have hr' := run_append_room (P := P) w t ty e i ht hi g n cap cur hg a m c news hl hnews h1 hroom hfit
      rw [hr'] at hr
      cases hr
      exact .inl rfl
    · have holds : ∀ j u, xs[j]? = some u → w.cell? ((⟨g, 0, none⟩ : Addr).add j) = some u := hown.cells (g := g) rfl
      have hr' := run_append_grow (P := P) w t ty e i z ht hi hz ⟨g, 0, none⟩ n cap xs hown.1 holds a m c news hl hnews (by omega) (by omega) (growslice_fits (by omega) hbytes)
      rw [hr'] at hr
      cases hr
      exact .inr rfl
theorem wpList_appF {P : Program} {w : World} {ops : Array Oper} {rest : List Oper} {o : Oper} {a : Act} {Q : Exit → Act → World → Prop} {s x : Operand} {t : TypeId}
    (ho : o.op = .call { callee := .builtin .append, args := #[s, x], argTypes := #[t, t] }) (hgd : o.guard = none)
    {e : TypeId} {z : Value} {size bytes : Nat} (ht : P.underlying t = some (.slice e)) (hinfo : (P.info? e).map (fun i => (i.zero, i.size, i.bytes)) = some (some z, size, bytes))
    (hzs : z.cells.size = size) (hsz : 0 < size)
    {base : Nat} {v : Value} {n : Nat} {xs : List Value} (hs : a.eval s = v) (hown : w.ownsRow base e size v n xs)
    {g off m c : Nat} {news : List Value} (hx : a.eval x = .slice (some ⟨g, off, none⟩) m c) (hr : ∀ j u, news[j]? = some u → w.cell? ⟨g, off + j, none⟩ = some u) (hl : news.length = m * size) (h1 : ∀ u ∈ news, u.oneCell' = true)
    (hbytes : (n + m) * bytes ≤ 140737488355328) (h63 : n + m ≤ 9223372036854775807) (hbase : base ≤ w.heap.size)
    (h : ∀ v' w', w'.ownsRow base e size v' (n + m) (xs ++ news) → Below base w w' → w.grownBy w' v.ownBlock → (v'.ownBlock = v.ownBlock ∨ v'.ownBlock = some w.heap.size) → wpList P ops Q rest (a.put o.dst v') w') : wpList P ops Q (o :: rest) a w := by
  obtain ⟨i, hi, hz, hsize, hby⟩ := info_parts hinfo
  refine wpList_plain hgd fun K hK => ?_
  obtain ⟨v', w', hrun, h2, h3, h4⟩ := run_append_ownF (P := P) w base t o.type e i z size bytes ht hi hz hsize hby hzs hsz v n xs hown ⟨g, off, none⟩ m c news hl (fun j u hu => by rw [add_zero_spot]; exact hr j u hu) h1 (by simp only [maxLen]; omega) hbytes hbase
  unfold Oper.wp execOp
  simp only [ho, resolve, invoke, builtin, Sem.run_bind, Sem.run_pure, Result.andThen_ok, List.map_toArray, List.map_cons, List.map_nil, hs, hx, hrun]
  exact hK _ _ (h v' w' h2 ((Below.refl _ _).grown h3 hbase fun k hk => (hown.lt k hk).1) h3 h4)
/-- Blocks that lay before; these, and the row of a slice. -/
def oldB (S : Nat) : Nat → Obj → Bool := fun b _ => decide (b < S)
def hideR (S : Nat) (v : Value) : Nat → Obj → Bool := fun b _ => decide (b < S) || decide (v.ownBlock = some b)
theorem old_cell {S : Nat} {w : World} {p : Addr} {u : Value} : (wo (oldB S) w).cell? p = some u ↔ (w.cell? p = some u ∧ S ≤ p.block) := by
  unfold oldB; rw [wo_cellN (h := fun b => decide (b < S))]; simp
theorem hide_cell {S : Nat} {v : Value} {w : World} {p : Addr} {u : Value} : (wo (hideR S v) w).cell? p = some u ↔ (w.cell? p = some u ∧ S ≤ p.block ∧ v.ownBlock ≠ some p.block) := by
  unfold hideR; rw [wo_cellN (h := fun b => decide (b < S) || decide (v.ownBlock = some b))]; simp
theorem CM.new_all {S : Nat} {w : World} : CM (wo (oldB S) w) w := fun _ _ h => (old_cell.1 h).1
theorem CM.hide_old {S : Nat} {v : Value} {w : World} : CM (wo (hideR S v) w) (wo (oldB S) w) := fun _ _ h => by
  obtain ⟨h1, h2, _⟩ := hide_cell.1 h
  exact old_cell.2 ⟨h1, h2⟩
/-- A row grew: what lay outside it lies outside it. -/
theorem CM.row {S : Nat} {v v' : Value} {w w1 w' : World} (hb : Below w.heap.size w w1) (hg : w1.grownBy w' v.ownBlock) (hv : v'.ownBlock = v.ownBlock ∨ v'.ownBlock = some w1.heap.size) : CM (wo (hideR S v) w) (wo (hideR S v') w') := fun p u h => by
  obtain ⟨h1, h2, h3⟩ := hide_cell.1 h
  have h4 := cell_on h1 hb
  refine hide_cell.2 ⟨hg.cell h4 (fun e => h3 e.symm), h2, ?_⟩
  rcases hv with e | e
  · rw [e]; exact h3
  · rw [e]
    have := cell_lt h4
    intro h; have h5 := Option.some.inj h; omega
/-- What a call made lies outside a row that lay before. -/
theorem CM.new_row {S T : Nat} {v v' : Value} {w1 w2 w' : World} (hb : Below w1.heap.size w1 w2) (hST : S ≤ T) (hv : ∀ g, v.ownBlock = some g → g < T) (hg : w2.grownBy w' v.ownBlock) (hv' : v'.ownBlock = v.ownBlock ∨ v'.ownBlock = some w2.heap.size) : CM (wo (oldB T) w1) (wo (hideR S v') w') := fun p u h => by
  obtain ⟨h1, h2⟩ := old_cell.1 h
  have h4 := cell_on h1 hb
  have hne : v.ownBlock ≠ some p.block := fun e => by have := hv _ e; omega
  refine hide_cell.2 ⟨hg.cell h4 (fun e => hne e.symm), by omega, ?_⟩
  rcases hv' with e | e
  · rw [e]; exact hne
  · rw [e]
    have := cell_lt h4
    intro h; have h5 := Option.some.inj h; omega
/-- A row of the call's own, read without what lay before. -/
theorem Rd.own_new {w : World} {base : Nat} {e : TypeId} {size n : Nat} {v : Value} {xs : List Value} (h : w.ownsRow base e size v n xs) : (wo (oldB base) w).ownsRow base e size v n xs := by
  refine ⟨h.1, ?_⟩
  rcases h.2 with h0 | ⟨g, cap, cur, hv, hg, hh, r⟩
  · exact .inl h0
  · refine .inr ⟨g, cap, cur, hv, hg, ?_, r⟩
    unfold wo oldB
    simp only [Array.getElem?_mapIdx, hh, Option.map_some]
    rw [if_neg]
    simp; omega
end Go.Proofs.YtfijpdmkdoccjaaGreatDoor
namespace Go.Proofs.YtfijpdmkdoccjaaGreatDoor
open Go Go.RowKit Um Fm

/-- Two lists are, one by one. -/
def eqL {α : Type} (p : α → α → Bool) : List α → List α → Bool
  | [], [] => true
  | a :: l, b :: m => p a b && eqL p l m
  | [], _ :: _ => false
  | _ :: _, [] => false
theorem eqL_iff {α : Type} {p : α → α → Bool} : ∀ {l m : List α}, (∀ a ∈ l, ∀ b, p a b = true ↔ a = b) → (eqL p l m = true ↔ l = m)
  | [], [], _ => by simp [eqL]
  | a :: l, b :: m, h => by
    rw [eqL, Bool.and_eq_true, h a (by simp) b, eqL_iff (fun a ha b => h a (by simp [ha]) b)]
    simp
  | [], _ :: _, _ => by simp [eqL]
  | _ :: _, [], _ => by simp [eqL]
theorem eqL_len {α : Type} {p : α → α → Bool} : ∀ {l m : List α}, l.length ≠ m.length → eqL p l m = false
  | [], [], h => absurd rfl h
  | a :: l, b :: m, h => by rw [eqL, eqL_len (fun e => h (by simp [e])), Bool.and_false]
  | [], _ :: _, _ => rfl
  | _ :: _, [], _ => rfl
theorem eqL_take {α : Type} {p : α → α → Bool} : ∀ {l m : List α} {j : Nat} {a b : α}, l.length = m.length → l[j]? = some a → m[j]? = some b → eqL p l m = (eqL p (l.take j) (m.take j) && (p a b && eqL p (l.drop (j + 1)) (m.drop (j + 1))))
  | [], _, _, _, _, _, h, _ => by simp at h
  | _ :: _, [], _, _, _, h, _, _ => by simp at h
  | x :: l, y :: m, 0, a, b, h, ha, hb => by
    simp at ha hb; subst ha; subst hb
    simp [eqL]
  | x :: l, y :: m, j + 1, a, b, h, ha, hb => by
    simp at ha hb
    have := eqL_take (p := p) (l := l) (m := m) (j := j) (by simpa using h) ha hb
    simp only [List.take_succ_cons, List.drop_succ_cons, eqL]
    rw [this, Bool.and_assoc]
def beqS (a b : ByteArray) : Bool := a.toList == b.toList
theorem beqS_iff {a b : ByteArray} : beqS a b = true ↔ a = b := Lib.bytes_beq_iff a b
theorem sameTm_iff {a b : Tm} : sameTm a b = true ↔ a = b := by
  obtain ⟨k, x, l, y⟩ := a
  obtain ⟨k', x', l', y'⟩ := b
  unfold sameTm
  simp only [Bool.and_eq_true, beq_iff_eq, Tm.mk.injEq, and_assoc]
  rw [← Lib.bytes_beq_iff x x', ← Lib.bytes_beq_iff l l', ← Lib.bytes_beq_iff y y']
  simp
/-- Two conditions are the same. -/
def sameE : (n : Nat) → ExT n → ExT n → Bool
  | 0, _, _ => true
  | n + 1, (k, s, t, ks), (k', s', t', ks') => k == k' && beqS s s' && sameTm t t' && eqL (sameE n) ks ks'
theorem sameE_iff : ∀ {n : Nat} {a b : ExT n}, sameE n a b = true ↔ a = b
  | 0, a, _ => nomatch (show Empty from a)
  | n + 1, (k, s, t, ks), (k', s', t', ks') => by
    rw [sameE]
    simp only [Bool.and_eq_true, beq_iff_eq, beqS_iff, sameTm_iff]
    rw [eqL_iff (fun a _ b => sameE_iff)]
    constructor
    · rintro ⟨⟨⟨rfl, rfl⟩, rfl⟩, rfl⟩; rfl
    · intro h
      have h1 := congrArg Prod.fst h
      have h2 := congrArg (fun x => x.2.1) h
      have h3 := congrArg (fun x => x.2.2.1) h
      have h4 := congrArg (fun x => x.2.2.2) h
      exact ⟨⟨⟨h1, h2⟩, h3⟩, h4⟩
def sameSl (a b : Sl) : Bool := beqS a.v b.v && sameTm a.t b.t
theorem sameSl_iff {a b : Sl} : sameSl a b = true ↔ a = b := by
  obtain ⟨v, t⟩ := a; obtain ⟨v', t'⟩ := b
  unfold sameSl
  simp only [Bool.and_eq_true, beqS_iff, sameTm_iff, Sl.mk.injEq]
def samePat (a b : Pat) : Bool := sameSl a.s b.s && sameSl a.p b.p && sameSl a.o b.o
theorem samePat_iff {a b : Pat} : samePat a b = true ↔ a = b := by
  obtain ⟨v, t, u⟩ := a; obtain ⟨v', t', u'⟩ := b
  unfold samePat
  simp only [Bool.and_eq_true, sameSl_iff, Pat.mk.injEq, and_assoc]
def sameKy (a b : Ky) : Bool := beqS a.v b.v && a.d == b.d
theorem sameKy_iff {a b : Ky} : sameKy a b = true ↔ a = b := by
  obtain ⟨v, t⟩ := a; obtain ⟨v', t'⟩ := b
  unfold sameKy
  simp only [Bool.and_eq_true, beqS_iff, beq_iff_eq, Ky.mk.injEq]
def sameQ {n : Nat} (a b : Qy n) : Bool := a.ask == b.ask && a.dist == b.dist && a.lim == b.lim && a.off == b.off && eqL beqS a.vars b.vars && eqL samePat a.pats b.pats && eqL sameKy a.ord b.ord && eqL (sameE n) a.fils b.fils
theorem sameQ_iff {n : Nat} {a b : Qy n} : sameQ a b = true ↔ a = b := by
  obtain ⟨a1, a2, a3, a4, a5, a6, a7, a8⟩ := a
  obtain ⟨b1, b2, b3, b4, b5, b6, b7, b8⟩ := b
  unfold sameQ
  simp only [Bool.and_eq_true, beq_iff_eq, eqL_iff (fun a _ b => beqS_iff), eqL_iff (fun a _ b => samePat_iff), eqL_iff (fun a _ b => sameKy_iff), eqL_iff (fun a _ b => sameE_iff), Qy.mk.injEq]
  constructor
  · rintro ⟨⟨⟨⟨⟨⟨⟨rfl, rfl⟩, rfl⟩, rfl⟩, rfl⟩, rfl⟩, rfl⟩, rfl⟩; simp
  · rintro ⟨rfl, rfl, rfl, rfl, rfl, rfl, rfl, rfl⟩; simp
end Go.Proofs.YtfijpdmkdoccjaaGreatDoor
namespace Go.Proofs.YtfijpdmkdoccjaaGreatDoor
open Go Go.RowKit Um Fm Mt
theorem below_dN {B : Nat} {a w : World} (h : Below B a w) (n : Nat) : Below B a (w.drewN n) := ⟨h.os, h.tape, h.output, h.size, h.block⟩
theorem eqL_cons {α : Type} {q : α → α → Bool} {l m : List α} {k : Nat} {x y : α} (hx : l[k]? = some x) (hy : m[k]? = some y) : eqL q (l.drop k) (m.drop k) = (q x y && eqL q (l.drop (k + 1)) (m.drop (k + 1))) := by
  rw [drop_cons_of hx, drop_cons_of hy, eqL]
theorem eqL_done {α : Type} {q : α → α → Bool} {l m : List α} {k : Nat} (h : l.length ≤ k) (h2 : m.length ≤ k) : eqL q (l.drop k) (m.drop k) = true := by
  rw [List.drop_eq_nil_of_le h, List.drop_eq_nil_of_le h2]; rfl
end Go.Proofs.YtfijpdmkdoccjaaGreatDoor
