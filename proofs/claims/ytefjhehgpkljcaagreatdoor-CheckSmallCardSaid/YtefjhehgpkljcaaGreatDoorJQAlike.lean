/- Lists of texts, of patterns, of keys: are two the same? (printed by gen/eqs.py) Two conditions are the same: the program's alike, the kit's SameExpr (printed by gen/alike.py). -/
import Derived.Test.YtefjhehgpkljcaaGreatDoorJSameMath
import Derived.Test.YtefjhehgpkljcaaGreatDoorJMet
import Derived.Test.YtefjhehgpkljcaaGreatDoorJQPart2
namespace Go.Proofs.YtefjhehgpkljcaaGreatDoor
open Go Go.RowKit Um Fm Mt
theorem below_dN {B : Nat} {a w : World} (h : Below B a w) (n : Nat) : Below B a (w.drewN n) := ⟨h.os, h.tape, h.output, h.size, h.block⟩
theorem eqL_cons {α : Type} {q : α → α → Bool} {l m : List α} {k : Nat} {x y : α} (hx : l[k]? = some x) (hy : m[k]? = some y) : eqL q (l.drop k) (m.drop k) = (q x y && eqL q (l.drop (k + 1)) (m.drop (k + 1))) := by
  rw [drop_cons_of hx, drop_cons_of hy, eqL]
theorem eqL_done {α : Type} {q : α → α → Bool} {l m : List α} {k : Nat} (h : l.length ≤ k) (h2 : m.length ≤ k) : eqL q (l.drop k) (m.drop k) = true := by
  rw [List.drop_eq_nil_of_le h, List.drop_eq_nil_of_le h2]; rfl
set_option maxRecDepth 100000 in
set_option maxHeartbeats 2000000 in
theorem run_nePat (a b : Pat) (W : World) : (binOp .neq 58 (.agg #[.string a.s.v, .int .i64 a.s.t.k, .string a.s.t.x, .string a.s.t.l, .string a.s.t.y, .string a.p.v, .int .i64 a.p.t.k, .string a.p.t.x, .string a.p.t.l, .string a.p.t.y, .string a.o.v, .int .i64 a.o.t.k, .string a.o.t.x, .string a.o.t.l, .string a.o.t.y]) (.agg #[.string b.s.v, .int .i64 b.s.t.k, .string b.s.t.x, .string b.s.t.l, .string b.s.t.y, .string b.p.v, .int .i64 b.p.t.k, .string b.p.t.x, .string b.p.t.l, .string b.p.t.y, .string b.o.v, .int .i64 b.o.t.k, .string b.o.t.x, .string b.o.t.l, .string b.o.t.y])).run Tryz.prog W = .ok (.bool (!samePat a b)) W := by
  have h1 := Tryz.underlying58
  have h2 := Tryz.underlying9
  have h3 := Tryz.underlying55
  have h4 := Tryz.underlying28
  have h5 := Tryz.underlying26
  simp only [go_sem, h1]
  simp [go_sem, h1, h2, h3, h4, h5]
  unfold samePat
  simp only [sameSl, sameTm, beqS]
  by_cases e0 : a.s.v.toList = b.s.v.toList
  case neg => simp [e0]
  by_cases e1 : a.s.t.k = b.s.t.k
  case neg => simp [e0, e1]
  by_cases e2 : a.s.t.x.toList = b.s.t.x.toList
  case neg => simp [e0, e1, e2]
  by_cases e3 : a.s.t.l.toList = b.s.t.l.toList
  case neg => simp [e0, e1, e2, e3]
  by_cases e4 : a.s.t.y.toList = b.s.t.y.toList
  case neg => simp [e0, e1, e2, e3, e4]
  by_cases e5 : a.p.v.toList = b.p.v.toList
  case neg => simp [e0, e1, e2, e3, e4, e5]
  by_cases e6 : a.p.t.k = b.p.t.k
  case neg => simp [e0, e1, e2, e3, e4, e5, e6]
  by_cases e7 : a.p.t.x.toList = b.p.t.x.toList
  case neg => simp [e0, e1, e2, e3, e4, e5, e6, e7]
  by_cases e8 : a.p.t.l.toList = b.p.t.l.toList
  case neg => simp [e0, e1, e2, e3, e4, e5, e6, e7, e8]
  by_cases e9 : a.p.t.y.toList = b.p.t.y.toList
  case neg => simp [e0, e1, e2, e3, e4, e5, e6, e7, e8, e9]
  by_cases e10 : a.o.v.toList = b.o.v.toList
  case neg => simp [e0, e1, e2, e3, e4, e5, e6, e7, e8, e9, e10]
  by_cases e11 : a.o.t.k = b.o.t.k
  case neg => simp [e0, e1, e2, e3, e4, e5, e6, e7, e8, e9, e10, e11]
  by_cases e12 : a.o.t.x.toList = b.o.t.x.toList
  case neg => simp [e0, e1, e2, e3, e4, e5, e6, e7, e8, e9, e10, e11, e12]
  by_cases e13 : a.o.t.l.toList = b.o.t.l.toList
  case neg => simp [e0, e1, e2, e3, e4, e5, e6, e7, e8, e9, e10, e11, e12, e13]
  by_cases e14 : a.o.t.y.toList = b.o.t.y.toList
  case neg => simp [e0, e1, e2, e3, e4, e5, e6, e7, e8, e9, e10, e11, e12, e13, e14]
  simp [e0, e1, e2, e3, e4, e5, e6, e7, e8, e9, e10, e11, e12, e13, e14]
set_option maxRecDepth 100000 in
set_option maxHeartbeats 2000000 in
theorem run_neKy (a b : Ky) (W : World) : (binOp .neq 60 (.agg #[.string a.v, .bool a.d]) (.agg #[.string b.v, .bool b.d])).run Tryz.prog W = .ok (.bool (!sameKy a b)) W := by
  have h1 := Tryz.underlying60
  have h2 := Tryz.underlying9
  have h3 := Tryz.underlying4
  simp only [go_sem, h1]
  simp [go_sem, h1, h2, h3]
  unfold sameKy
  simp only [beqS]
  by_cases e0 : a.v.toList = b.v.toList
  case neg => simp [e0]
  by_cases e1 : a.d = b.d
  case neg => simp [e0, e1]
  simp [e0, e1]
set_option maxRecDepth 10000 in
set_option maxHeartbeats 2000000 in
theorem kitPats (a b : List Pat) (A B : Option Addr) (c d : Nat) (w : World) (ha : RdPat w A a) (hb : RdPat w B b) (hl : a.length ≤ 281474976710656) (hl2 : b.length ≤ 281474976710656) :
    Calls Tryz.prog 126 #[.slice A a.length c, .slice B b.length d] w fun e w' => e = .returned (.bool (eqL samePat a b)) ∧ Below w.heap.size w w' := by
  by_cases hlen : a.length = b.length
  case neg =>
    have hne : eqL samePat a b = false := eqL_len hlen
    have h1 : ((a.length : Int) != (b.length : Int)) = true := by rw [bne_iff_ne]; omega
    rw [hne]
    clear hne hlen
    go_enter Tryz.func126, Tryz.ntmps126
    go_wp2
    go_ret
    exact ⟨rfl, Below.refl _ _⟩
  have h1 : ((a.length : Int) != (b.length : Int)) = false := by simp; omega
  have hab : a.length ≤ b.length := by omega
  have Hlen := Lib.hid hlen
  clear hlen
  go_enter Tryz.func126, Tryz.ntmps126
  go_wp2
  go_loopw [5] (fun i wr => ∃ k : Nat, k ≤ a.length ∧ i = .int .i64 k ∧ Below w.heap.size w wr ∧ Hid (eqL samePat a b = eqL samePat (a.drop k) (b.drop k))) (fun i _ => a.length - (intOf i).toNat)
  case atStart => exact ⟨0, by omega, rfl, Below.refl _ _, rfl⟩
  case round =>
    obtain ⟨k, hk, rfl, hB, H⟩ := hrel
    by_cases hlt : k < a.length
    · obtain ⟨x, hx⟩ : ∃ x, a[k]? = some x := ⟨_, List.getElem?_eq_getElem hlt⟩
      obtain ⟨y, hy⟩ : ∃ x, b[k]? = some x := ⟨_, List.getElem?_eq_getElem (by omega)⟩
      have H2 : Hid (eqL samePat a b = (samePat x y && eqL samePat (a.drop (k + 1)) (b.drop (k + 1)))) := by show _ = _; rw [H.out, eqL_cons hx hy]
      obtain ⟨g, o, csx, rfl, -, rfl, hcx⟩ := (RdL.mono ha hB (fun _ _ _ h => h)).at_ (by omega) hx
      have c0 : wr.cell? ⟨g, o + k * 15, none⟩ = some (.string x.s.v) := hcx 0 _ rfl
      have c1 : wr.cell? ⟨g, o + k * 15 + 1, none⟩ = some (.int .i64 x.s.t.k) := hcx 1 _ rfl
      have c2 : wr.cell? ⟨g, o + k * 15 + 2, none⟩ = some (.string x.s.t.x) := hcx 2 _ rfl
      have c3 : wr.cell? ⟨g, o + k * 15 + 3, none⟩ = some (.string x.s.t.l) := hcx 3 _ rfl
      have c4 : wr.cell? ⟨g, o + k * 15 + 4, none⟩ = some (.string x.s.t.y) := hcx 4 _ rfl
      have c5 : wr.cell? ⟨g, o + k * 15 + 5, none⟩ = some (.string x.p.v) := hcx 5 _ rfl
      have c6 : wr.cell? ⟨g, o + k * 15 + 6, none⟩ = some (.int .i64 x.p.t.k) := hcx 6 _ rfl
      have c7 : wr.cell? ⟨g, o + k * 15 + 7, none⟩ = some (.string x.p.t.x) := hcx 7 _ rfl
      have c8 : wr.cell? ⟨g, o + k * 15 + 8, none⟩ = some (.string x.p.t.l) := hcx 8 _ rfl
      have c9 : wr.cell? ⟨g, o + k * 15 + 9, none⟩ = some (.string x.p.t.y) := hcx 9 _ rfl
      have c10 : wr.cell? ⟨g, o + k * 15 + 10, none⟩ = some (.string x.o.v) := hcx 10 _ rfl
      have c11 : wr.cell? ⟨g, o + k * 15 + 11, none⟩ = some (.int .i64 x.o.t.k) := hcx 11 _ rfl
      have c12 : wr.cell? ⟨g, o + k * 15 + 12, none⟩ = some (.string x.o.t.x) := hcx 12 _ rfl
      have c13 : wr.cell? ⟨g, o + k * 15 + 13, none⟩ = some (.string x.o.t.l) := hcx 13 _ rfl
      have c14 : wr.cell? ⟨g, o + k * 15 + 14, none⟩ = some (.string x.o.t.y) := hcx 14 _ rfl
      obtain ⟨g', o', csy, rfl, -, rfl, hcy⟩ := (RdL.mono hb hB (fun _ _ _ h => h)).at_ (by omega) hy
      have d0 : wr.cell? ⟨g', o' + k * 15, none⟩ = some (.string y.s.v) := hcy 0 _ rfl
      have d1 : wr.cell? ⟨g', o' + k * 15 + 1, none⟩ = some (.int .i64 y.s.t.k) := hcy 1 _ rfl
      have d2 : wr.cell? ⟨g', o' + k * 15 + 2, none⟩ = some (.string y.s.t.x) := hcy 2 _ rfl
      have d3 : wr.cell? ⟨g', o' + k * 15 + 3, none⟩ = some (.string y.s.t.l) := hcy 3 _ rfl
      have d4 : wr.cell? ⟨g', o' + k * 15 + 4, none⟩ = some (.string y.s.t.y) := hcy 4 _ rfl
      have d5 : wr.cell? ⟨g', o' + k * 15 + 5, none⟩ = some (.string y.p.v) := hcy 5 _ rfl
      have d6 : wr.cell? ⟨g', o' + k * 15 + 6, none⟩ = some (.int .i64 y.p.t.k) := hcy 6 _ rfl
      have d7 : wr.cell? ⟨g', o' + k * 15 + 7, none⟩ = some (.string y.p.t.x) := hcy 7 _ rfl
      have d8 : wr.cell? ⟨g', o' + k * 15 + 8, none⟩ = some (.string y.p.t.l) := hcy 8 _ rfl
      have d9 : wr.cell? ⟨g', o' + k * 15 + 9, none⟩ = some (.string y.p.t.y) := hcy 9 _ rfl
      have d10 : wr.cell? ⟨g', o' + k * 15 + 10, none⟩ = some (.string y.o.v) := hcy 10 _ rfl
      have d11 : wr.cell? ⟨g', o' + k * 15 + 11, none⟩ = some (.int .i64 y.o.t.k) := hcy 11 _ rfl
      have d12 : wr.cell? ⟨g', o' + k * 15 + 12, none⟩ = some (.string y.o.t.x) := hcy 12 _ rfl
      have d13 : wr.cell? ⟨g', o' + k * 15 + 13, none⟩ = some (.string y.o.t.l) := hcy 13 _ rfl
      have d14 : wr.cell? ⟨g', o' + k * 15 + 14, none⟩ = some (.string y.o.t.y) := hcy 14 _ rfl
      have hlt2 : k < b.length := by omega
      have hne := fun W => run_nePat x y W
      cases hq : samePat x y
      · rw [hq] at H2
        rw [hq] at hne
        simp only [Bool.not_false] at hne
        clear hx hy ha hb hcx hcy hq H
        go_wp2
        go_quiet (fail)
        go_wp2
        go_ret
        exact ⟨by rw [H2.out]; rfl, below_dN hB nq⟩
      · rw [hq] at H2
        rw [hq] at hne
        simp only [Bool.not_true] at hne
        clear hx hy ha hb hcx hcy hq H
        go_wp2
        go_quiet (fail)
        go_wp2
        go_roundw
        case rel => exact ⟨k+1, by omega, by go_num, below_dN hB nq, by show _ = _; rw [H2.out]; rfl⟩
        case measure => simp [intOf]; omega
    · have H2 : Hid (eqL samePat a b = true) := by show _ = _; rw [H.out, eqL_done (by omega) (by have := Hlen.out; omega)]
      clear ha hb H
      go_wp2
      go_ret
      exact ⟨by rw [H2.out]; rfl, hB⟩
set_option maxRecDepth 10000 in
set_option maxHeartbeats 2000000 in
theorem kitKeys (a b : List Ky) (A B : Option Addr) (c d : Nat) (w : World) (ha : RdKey w A a) (hb : RdKey w B b) (hl : a.length ≤ 281474976710656) (hl2 : b.length ≤ 281474976710656) :
    Calls Tryz.prog 128 #[.slice A a.length c, .slice B b.length d] w fun e w' => e = .returned (.bool (eqL sameKy a b)) ∧ Below w.heap.size w w' := by
  by_cases hlen : a.length = b.length
  case neg =>
    have hne : eqL sameKy a b = false := eqL_len hlen
    have h1 : ((a.length : Int) != (b.length : Int)) = true := by rw [bne_iff_ne]; omega
    rw [hne]
    clear hne hlen
    go_enter Tryz.func128, Tryz.ntmps128
    go_wp2
    go_ret
    exact ⟨rfl, Below.refl _ _⟩
  have h1 : ((a.length : Int) != (b.length : Int)) = false := by simp; omega
  have hab : a.length ≤ b.length := by omega
  have Hlen := Lib.hid hlen
  clear hlen
  go_enter Tryz.func128, Tryz.ntmps128
  go_wp2
  go_loopw [5] (fun i wr => ∃ k : Nat, k ≤ a.length ∧ i = .int .i64 k ∧ Below w.heap.size w wr ∧ Hid (eqL sameKy a b = eqL sameKy (a.drop k) (b.drop k))) (fun i _ => a.length - (intOf i).toNat)
  case atStart => exact ⟨0, by omega, rfl, Below.refl _ _, rfl⟩
  case round =>
    obtain ⟨k, hk, rfl, hB, H⟩ := hrel
    by_cases hlt : k < a.length
    · obtain ⟨x, hx⟩ : ∃ x, a[k]? = some x := ⟨_, List.getElem?_eq_getElem hlt⟩
      obtain ⟨y, hy⟩ : ∃ x, b[k]? = some x := ⟨_, List.getElem?_eq_getElem (by omega)⟩
      have H2 : Hid (eqL sameKy a b = (sameKy x y && eqL sameKy (a.drop (k + 1)) (b.drop (k + 1)))) := by show _ = _; rw [H.out, eqL_cons hx hy]
      obtain ⟨g, o, csx, rfl, -, rfl, hcx⟩ := (RdL.mono ha hB (fun _ _ _ h => h)).at_ (by omega) hx
      have c0 : wr.cell? ⟨g, o + k * 2, none⟩ = some (.string x.v) := hcx 0 _ rfl
      have c1 : wr.cell? ⟨g, o + k * 2 + 1, none⟩ = some (.bool x.d) := hcx 1 _ rfl
      obtain ⟨g', o', csy, rfl, -, rfl, hcy⟩ := (RdL.mono hb hB (fun _ _ _ h => h)).at_ (by omega) hy
      have d0 : wr.cell? ⟨g', o' + k * 2, none⟩ = some (.string y.v) := hcy 0 _ rfl
      have d1 : wr.cell? ⟨g', o' + k * 2 + 1, none⟩ = some (.bool y.d) := hcy 1 _ rfl
      have hlt2 : k < b.length := by omega
      have hne := fun W => run_neKy x y W
      cases hq : sameKy x y
      · rw [hq] at H2
        rw [hq] at hne
        simp only [Bool.not_false] at hne
        clear hx hy ha hb hcx hcy hq H
        go_wp2
        go_quiet (fail)
        go_wp2
        go_ret
        exact ⟨by rw [H2.out]; rfl, below_dN hB nq⟩
      · rw [hq] at H2
        rw [hq] at hne
        simp only [Bool.not_true] at hne
        clear hx hy ha hb hcx hcy hq H
        go_wp2
        go_quiet (fail)
        go_wp2
        go_roundw
        case rel => exact ⟨k+1, by omega, by go_num, below_dN hB nq, by show _ = _; rw [H2.out]; rfl⟩
        case measure => simp [intOf]; omega
    · have H2 : Hid (eqL sameKy a b = true) := by show _ = _; rw [H.out, eqL_done (by omega) (by have := Hlen.out; omega)]
      clear ha hb H
      go_wp2
      go_ret
      exact ⟨by rw [H2.out]; rfl, hB⟩
end Go.Proofs.YtefjhehgpkljcaaGreatDoor
namespace Go.Proofs.YtefjhehgpkljcaaGreatDoor
open Go Go.RowKit Um Fm Mt
def EqE (F : FuncId) (n : Nat) : Prop := ∀ (x y : ExT n) (cs ds : List Value) (W : World), RdE n W cs x → RdE n W ds y → szE n x → szE n y →
  Calls Tryz.prog F #[.agg cs.toArray, .agg ds.toArray] W fun e w' => e = .returned (.bool (sameE n x y)) ∧ Below W.heap.size W w'
theorem rd_spell2 {n : Nat} {w : World} {cs : List Value} {x : ExT n} (h : RdE n w cs x) : ∃ (k : Int) (s : ByteArray) (t : Tm) (A : Option Addr) (m c : Nat), cs = [.int .i64 k, .string s, .int .i64 t.k, .string t.x, .string t.l, .string t.y, .slice A m c] := by
  match n, x, h with
  | n + 1, (k, s, t, kids), ⟨A, c, h, _⟩ => exact ⟨k, s, t, A, _, c, h⟩
set_option maxRecDepth 10000 in
set_option maxHeartbeats 2000000 in
theorem kitExprs (n : Nat) (hE : EqE 104 n) (a b : List (ExT n)) (A B : Option Addr) (c d : Nat) (w : World) (ha : RdEs n w A a) (hb : RdEs n w B b) (hl : a.length ≤ 1353245080300) (hl2 : b.length ≤ 1353245080300) (hza : ∀ x ∈ a, szE n x) (hzb : ∀ x ∈ b, szE n x) :
    Calls Tryz.prog 127 #[.slice A a.length c, .slice B b.length d] w fun e w' => e = .returned (.bool (eqL (sameE n) a b)) ∧ Below w.heap.size w w' := by
  by_cases hlen : a.length = b.length
  case neg =>
    have hne : eqL (sameE n) a b = false := eqL_len hlen
    have h1 : ((a.length : Int) != (b.length : Int)) = true := by rw [bne_iff_ne]; omega
    rw [hne]
    clear hne hlen
    go_enter Tryz.func127, Tryz.ntmps127
    go_wp2
    go_ret
    exact ⟨rfl, Below.refl _ _⟩
  have h1 : ((a.length : Int) != (b.length : Int)) = false := by simp; omega
  have hab : a.length ≤ b.length := by omega
  have Hlen := Lib.hid hlen
  clear hlen
  go_enter Tryz.func127, Tryz.ntmps127
  go_wp2
  go_loopw [5] (fun i wr => ∃ k : Nat, k ≤ a.length ∧ i = .int .i64 k ∧ Below w.heap.size w wr ∧ Hid (eqL (sameE n) a b = eqL (sameE n) (a.drop k) (b.drop k))) (fun i _ => a.length - (intOf i).toNat)
  case atStart => exact ⟨0, by omega, rfl, Below.refl _ _, rfl⟩
  case round =>
    obtain ⟨k, hk, rfl, hB, H⟩ := hrel
    by_cases hlt : k < a.length
    · obtain ⟨x, hx⟩ : ∃ x, a[k]? = some x := ⟨_, List.getElem?_eq_getElem hlt⟩
      obtain ⟨y, hy⟩ : ∃ x, b[k]? = some x := ⟨_, List.getElem?_eq_getElem (by omega)⟩
      have H2 : Hid (eqL (sameE n) a b = (sameE n x y && eqL (sameE n) (a.drop (k + 1)) (b.drop (k + 1)))) := by show _ = _; rw [H.out, eqL_cons hx hy]
      obtain ⟨g, o, k1, s1, t1, A1, m1, e1, rfl, hR, c0, c1, c2, c3, c4, c5, c6⟩ := (RdEs.later ha hB).atv hx
      obtain ⟨g', o', k2, s2, t2, A2, m2, e2, rfl, hS, d0, d1, d2, d3, d4, d5, d6⟩ := (RdEs.later hb hB).atv hy
      have hzx := hza x (List.mem_of_getElem? hx)
      have hzy := hzb y (List.mem_of_getElem? hy)
      have hlt2 : k < b.length := by omega
      have hc := fun d os => hE x y [.int .i64 k1, .string s1, .int .i64 t1.k, .string t1.x, .string t1.l, .string t1.y, .slice A1 m1 e1] [.int .i64 k2, .string s2, .int .i64 t2.k, .string t2.x, .string t2.l, .string t2.y, .slice A2 m2 e2] (Sort.grow (redrawn wr d) os) (hR.later (below_regrown wr d os)) (hS.later (below_regrown wr d os)) hzx hzy
      have p0 := fun d os => cell_regrown c0 d os
      have q0 := fun d os => cell_regrown d0 d os
      have p1 := fun d os => cell_regrown c1 d os
      have q1 := fun d os => cell_regrown d1 d os
      have p2 := fun d os => cell_regrown c2 d os
      have q2 := fun d os => cell_regrown d2 d os
      have p3 := fun d os => cell_regrown c3 d os
      have q3 := fun d os => cell_regrown d3 d os
      have p4 := fun d os => cell_regrown c4 d os
      have q4 := fun d os => cell_regrown d4 d os
      have p5 := fun d os => cell_regrown c5 d os
      have q5 := fun d os => cell_regrown d5 d os
      have p6 := fun d os => cell_regrown c6 d os
      have q6 := fun d os => cell_regrown d6 d os
      have HB := Lib.hid hB
      generalize sameE n x y = q at *
      clear hx hy ha hb hR hS hza hzb hE H hB c0 c1 c2 c3 c4 c5 c6 d0 d1 d2 d3 d4 d5 d6
      cases q
      · go_wp2
        refine wp_region_quiet_below (by kernel_rfl) (by kernel_rfl) ?_; (repeat (any_goals (go_big_quiet_step ((go_at_call 104; with_reducible exact Calls.regrown_of (hc _ _)))))); all_goals (refine wpQuiet_nil ?_; intro _ hw9; obtain ⟨⟨d9, os9⟩, hw8⟩ := hw9; subst hw8)
        have hB9 := below_regrown wr d9 os9
        clear p0 p1 p2 p3 p4 p5 p6 q0 q1 q2 q3 q4 q5 q6 hc
        go_wp2
        go_ret
        exact ⟨by rw [H2.out]; rfl, below_tr HB.out hB9⟩
      · go_wp2
        refine wp_region_quiet_below (by kernel_rfl) (by kernel_rfl) ?_; (repeat (any_goals (go_big_quiet_step ((go_at_call 104; with_reducible exact Calls.regrown_of (hc _ _)))))); all_goals (refine wpQuiet_nil ?_; intro _ hw9; obtain ⟨⟨d9, os9⟩, hw8⟩ := hw9; subst hw8)
        have hB9 := below_regrown wr d9 os9
        clear p0 p1 p2 p3 p4 p5 p6 q0 q1 q2 q3 q4 q5 q6 hc
        go_wp2
        go_roundw
        case rel => exact ⟨k+1, by omega, by go_num, below_tr HB.out hB9, by show _ = _; rw [H2.out]; rfl⟩
        case measure => simp [intOf]; omega
    · have H2 : Hid (eqL (sameE n) a b = true) := by show _ = _; rw [H.out, eqL_done (by omega) (by have := Hlen.out; omega)]
      clear ha hb H hE
      go_wp2
      go_ret
      exact ⟨by rw [H2.out]; rfl, hB⟩
set_option maxRecDepth 20000 in
set_option maxHeartbeats 2000000 in
theorem kitExpr : ∀ n : Nat, EqE 104 n
  | 0 => fun x _ _ _ _ h _ _ _ => h.elim
  | n + 1 => by
    rintro ⟨k, s, t, ks⟩ ⟨k', s', t', ks'⟩ cs ds W ⟨A, c, rfl, hc1, hr⟩ ⟨B, d, rfl, hd1, hr'⟩ ⟨z1, z2, z3, z4⟩ ⟨y1, y2, y3, y4⟩
    have hB2 : Below W.heap.size W ((W.alloc (.cells #[.int .i64 k, .string s, .int .i64 t.k, .string t.x, .string t.l, .string t.y, .slice A ks.length c] 31)).alloc (.cells #[.int .i64 k', .string s', .int .i64 t'.k, .string t'.x, .string t'.l, .string t'.y, .slice B ks'.length d] 31)) := (by repeat (first | exact Below.refl _ _ | assumption | exact (Below.refl _ _).alloc (Nat.le_refl _) _ | refine below_tr ?_ (by assumption) | refine below_alloc ?_ | refine below_tr ?_ (below_regrown _ _ _)))
    have hL := kitExprs n (kitExpr n) ks ks' A B c d _ (RdEs.later hr hB2) (RdEs.later hr' hB2) z3 y3 z4 y4
    have heq := fun W => run_eqTm t t' W
    obtain ⟨res, hres⟩ : ∃ r, sameE (n + 1) (k, s, t, ks) (k', s', t', ks') = r := ⟨_, rfl⟩
    rw [hres]
    have Hres : Hid (res = (k == k' && (s.toList == s'.toList) && sameTm t t' && eqL (sameE n) ks ks')) := by show _ = _; rw [← hres]; rfl
    have HB := Lib.hid hB2
    generalize eqL (sameE n) ks ks' = q4 at *
    generalize sameTm t t' = q3 at *
    clear hres hr hr' z1 z2 z3 z4 y1 y2 y3 y4 hB2 hc1 hd1
    cases h1 : (k == k')
    · have H0 : Hid (res = false) := by show _ = _; rw [Hres.out, h1]; rfl
      clear hL heq Hres
      go_enter Tryz.func104, Tryz.ntmps104
      go_wp2
      go_ret
      exact ⟨by rw [H0.out]; rfl, HB.out⟩
    · cases h2 : (s.toList == s'.toList)
      · have H0 : Hid (res = false) := by show _ = _; rw [Hres.out, h2]; simp
        clear hL heq Hres
        go_enter Tryz.func104, Tryz.ntmps104
        go_wp2
        go_ret
        exact ⟨by rw [H0.out]; rfl, HB.out⟩
      · cases q3
        · have H0 : Hid (res = false) := by show _ = _; rw [Hres.out]; simp
          clear hL Hres
          go_enter Tryz.func104, Tryz.ntmps104
          go_wp2
          go_ret
          exact ⟨by rw [H0.out]; rfl, HB.out⟩
        · have H0 : Hid (res = q4) := by show _ = _; rw [Hres.out, h1, h2]; simp
          clear Hres
          go_enter Tryz.func104, Tryz.ntmps104
          go_wp2_with (go_at_call 127; refine hL.mono ?_; rintro e w2 ⟨rfl, hb2⟩)
          go_ret
          exact ⟨by rw [H0.out]; rfl, below_tr HB.out hb2⟩
end Go.Proofs.YtefjhehgpkljcaaGreatDoor
