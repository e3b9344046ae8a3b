/- The kit's lists of numbers: the same; lent with marks behind; kept. -/
import Derived.Test.YtdplnlbplgmijaaDoorBase
namespace Go.Proofs.YtdplnlbplgmijaaDoor
open Go Go.RowKit

theorem below_drewN {B : Nat} {a w : World} (h : Below B a w) (n : Nat) : Below B a (w.drewN n) := ⟨h.os, h.tape, h.output, h.size, h.block⟩
theorem intInfo0 : (Tryd.prog.info? 3).map (fun i => (i.zero, i.size, i.bytes)) = some (some (.int .i64 0), 1, 8) := by kernel_rfl

def sameL (a b : List Int) (k : Nat) : Prop := ∀ j, j < k → a[j]? = b[j]?

set_option maxHeartbeats 1000000 in
theorem sameInts (a b : List Int) (A B : Option Addr) (c d : Nat) (w : World) (ha : Rd w A (a.map (Value.int .i64))) (hb : Rd w B (b.map (Value.int .i64))) (hl : a.length ≤ 1000000000) (hl2 : b.length ≤ 1000000000) :
    Calls Tryd.prog 21 #[.slice A a.length c, .slice B b.length d] w fun e w' => e = .returned (.bool (decide (a = b))) ∧ Below w.heap.size w w' := by
  by_cases hlen : a.length = b.length
  case neg =>
    have hne : decide (a = b) = false := by simp; intro h; exact hlen (by rw [h])
    have h1 : ((a.length : Int) != (b.length : Int)) = true := by rw [bne_iff_ne]; omega
    rw [hne]
    clear hne hlen
    go_enter Tryd.func21, Tryd.ntmps21
    go_wp2
    go_ret
    exact ⟨rfl, Below.refl _ _⟩
  have h1 : ((a.length : Int) != (b.length : Int)) = false := by simp; omega
  have hab : a.length ≤ b.length := by omega
  have Hlen := Lib.hid hlen
  clear hlen
  go_enter Tryd.func21, Tryd.ntmps21
  go_wp2
  go_loopw [5] (fun i wr => ∃ k : Nat, k ≤ a.length ∧ i = .int .i64 k ∧ Below w.heap.size w wr ∧ Hid (sameL a b k)) (fun i _ => a.length - (intOf i).toNat)
  case atStart => exact ⟨0, by omega, rfl, Below.refl _ _, fun j h => by omega⟩
  case round =>
    obtain ⟨k, hk, rfl, hB, H⟩ := hrel
    by_cases hlt : k < a.length
    · obtain ⟨x, hx⟩ : ∃ x, a[k]? = some x := ⟨_, List.getElem?_eq_getElem hlt⟩
      obtain ⟨y, hy⟩ : ∃ x, b[k]? = some x := ⟨_, List.getElem?_eq_getElem (by omega)⟩
      obtain ⟨g, o, rfl, hcx⟩ := (ha.below hB (Nat.le_refl _)).at_ (j := k) (u := .int .i64 x) (by simp [hx])
      obtain ⟨g', o', rfl, hcy⟩ := (hb.below hB (Nat.le_refl _)).at_ (j := k) (u := .int .i64 y) (by simp [hy])
      have Hx := Lib.hid hx
      have Hy := Lib.hid hy
      have hlt2 : k < b.length := by omega
      clear hx hy ha hb
      by_cases hxy : x = y
      · have hq : (x != y) = false := by simp [hxy]
        have Hxy := Lib.hid hxy
        clear hxy
        go_wp2
        go_quiet (fail)
        go_wp2
        go_roundw
        case rel => exact ⟨k+1, by omega, by go_num, below_drewN hB nq, fun j hj => by
          rcases Nat.lt_or_ge j k with h | h
          · exact H.out j h
          · have : j = k := by omega
            subst this; rw [Hx.out, Hy.out, Hxy.out]⟩
        case measure => simp [intOf]; omega
      · have hq : (x != y) = true := by simp [hxy]
        have hne : decide (a = b) = false := by
          simp; intro h; subst h
          have := Hx.out.symm.trans Hy.out
          injection this with this; exact hxy this
        have Hne := Lib.hid hne
        clear hxy hne
        go_wp2
        go_quiet (fail)
        go_wp2
        go_ret
        exact ⟨by rw [Hne.out]; rfl, below_drewN hB nq⟩
    · have he : decide (a = b) = true := by
        simp
        apply List.ext_getElem?
        intro j
        rcases Nat.lt_or_ge j k with h | h
        · exact H.out j h
        · rw [List.getElem?_eq_none (by omega), List.getElem?_eq_none (by have := Hlen.out; omega)]
      have He := Lib.hid he
      clear he
      go_wp2
      go_ret
      exact ⟨by rw [He.out]; rfl, hB⟩

/-- the marks behind a list -/
def marks : List Int := (List.range 12).map fun (i : Nat) => 8000024 + (i : Int)
theorem marks_len : marks.length = 12 := rfl

theorem kitMark (i : Int) (w : World) (h0 : 0 ≤ i) (h1 : i ≤ 100) :
    Calls Tryd.prog 26 #[.int .i64 1, .int .i64 i] w fun e w' => e = .returned (.int .i64 (8000024 + i)) ∧ w = w' := by
  go_enter Tryd.func26, Tryd.ntmps26
  go_wp2
  go_ret
  exact ⟨by simp; try omega, rfl⟩

/-- A list lent: in a block of its own, marks behind it. -/
def LentI (w : World) (g : Nat) (l : List Int) : Prop := ∃ cur : Array Value, w.heap[g]? = some (.cells cur 3 (0, 0)) ∧ cur.toList = (l ++ marks).map (Value.int .i64)
theorem LentI.rd {w : World} {g : Nat} {l : List Int} (h : LentI w g l) : Rd w (some ⟨g, 0, none⟩) ((l ++ marks).map (Value.int .i64)) := by
  obtain ⟨cur, h1, h2⟩ := h
  exact Rd.of_block h1 h2
theorem LentI.rd0 {w : World} {g : Nat} {l : List Int} (h : LentI w g l) : Rd w (some ⟨g, 0, none⟩) (l.map (Value.int .i64)) := by
  have := h.rd.take l.length
  rwa [← List.map_take, List.take_left] at this
theorem LentI.below {w w' : World} {g : Nat} {l : List Int} (h : LentI w g l) {B : Nat} (hb : Below B w w') (hB : w.heap.size ≤ B) : LentI w' g l := by
  obtain ⟨cur, h1, h2⟩ := h
  refine ⟨cur, ?_, h2⟩
  have hlt : g < w.heap.size := by
    rcases Nat.lt_or_ge g w.heap.size with hlt | hge
    · exact hlt
    · rw [Array.getElem?_eq_none hge] at h1; cases h1
  rw [hb.block g (by omega)]; exact h1

/-- append within the capacity, from whatever slice -/
theorem wpList_app_fits {P : Program} {w : World} {ops : Array Oper} {rest : List Oper} {o : Oper} {a : Act} {Q : Exit → Act → World → Prop} {s x : Operand} {t : TypeId}
    (ho : o.op = .call { callee := .builtin .append, args := #[s, x], argTypes := #[t, t] }) (hgd : o.guard = none)
    {e : TypeId} {z : Value} {size bytes : Nat} (ht : P.underlying t = some (.slice e)) (hinfo : (P.info? e).map (fun i => (i.zero, i.size, i.bytes)) = some (some z, size, bytes)) (hsz : 0 < size)
    {base g k cap : Nat} {xs : List Value} (hs : a.eval s = .slice (some ⟨g, 0, none⟩) k cap) (hown : w.ownsRow base e size (.slice (some ⟨g, 0, none⟩) k cap) k xs)
    {A : Option Addr} {m c : Nat} {news : List Value} (hx : a.eval x = .slice A m c) (hr : Rd w A news) (hl : news.length = m * size) (h1 : ∀ u ∈ news, u.oneCell' = true) (hfit : k + m ≤ cap)
    (h : ∀ w', w'.ownsRow base e size (.slice (some ⟨g, 0, none⟩) (k + m) cap) (k + m) (xs ++ news) → w.grownBy w' (some g) → wpList P ops Q rest (a.put o.dst (.slice (some ⟨g, 0, none⟩) (k + m) cap)) w') : wpList P ops Q (o :: rest) a w := by
  obtain ⟨i, hi, hz, hsize, hby⟩ := info_parts hinfo
  rcases hr with rfl | ⟨g', off, rfl, hc⟩
  · have hm : m = 0 := by
      rcases Nat.eq_zero_or_pos m with h0 | h0
      · exact h0
      · have := Nat.mul_pos h0 hsz
        simp at hl; omega
    subst hm
    rcases A with _ | ad
    · refine wpList_plain hgd fun K hK => ?_
      have hrun : (Builtin.append_ #[t, t] o.type #[.slice (some ⟨g, 0, none⟩) k cap, .slice none 0 c]).run P w = .ok (.slice (some ⟨g, 0, none⟩) k cap) w := by
        rcases hown.2 with ⟨hv, _⟩ | ⟨g2, cap2, cur, hv, _, _, hnc, _⟩
        · cases hv
        · injection hv with _ _ hcap
          subst hcap
          simp [Builtin.append_, run_underlying ht, sizeOf, typeInfo, hi, Builtin.lenOf, Builtin.firstCells, hnc, storeCells]
      unfold Oper.wp execOp
      simp only [ho, resolve, invoke, builtin, Sem.run_bind, Sem.run_pure, Result.andThen_ok, List.map_toArray, List.map_cons, List.map_nil, hs, hx, hrun]
      exact hK _ _ (h w (by simpa using hown) (World.grownBy.refl _ _))
    · exact wpList_append_fits w hgd s x t ho base e i size ht hi hsize g k cap xs hs hown ad 0 c [] hx hl (by simp) (by simp) hfit h
  · exact wpList_append_fits w hgd s x t ho base e i size ht hi hsize g k cap xs hs hown ⟨g', off, none⟩ m c news hx hl (fun j u hu => by rw [add_zero_spot]; exact hc j u hu) h1 hfit h

theorem Rd.of_below {w w' : World} {A : Option Addr} {xs : List Value} (h : Rd w A xs) (hb : Below w.heap.size w w') : Rd w' A xs := h.below hb (Nat.le_refl _)

set_option maxHeartbeats 1000000 in
theorem lentInts (l : List Int) (A : Option Addr) (c : Nat) (w : World) (hr : Rd w A (l.map (Value.int .i64))) (hl : l.length ≤ 1000000000) :
    Calls Tryd.prog 9 #[.slice A l.length c] w fun e w' => ∃ g, e = .returned (.slice (some ⟨g, 0, none⟩) l.length (l.length + 12)) ∧ LentI w' g l ∧ Below w.heap.size w w' := by
  obtain ⟨i, hi, hz, hsize, hby⟩ := info_parts intInfo0
  have hby2 : i.bytes * (l.length + 12) ≤ 281474976710656 := by rw [hby]; omega
  have Hi := Lib.hid hi
  have Hz := Lib.hid hz
  have Hsize := Lib.hid hsize
  clear hi hz hsize hby
  go_enter Tryd.func9, Tryd.ntmps9
  go_wp2_with (first
    | (at_make; refine wpList_make_own w rfl _ _ 22 rfl w.heap.size 3 i _ 1 Tryd.underlying22 Hi.out Hz.out Hsize.out .i64 .i64 _ (l.length + 12) rfl rfl (by omega) hby2 (by unfold maxLen; omega) (Nat.le_refl _) ?_; intro w1 hown1 hg1; have hb1 : Below w.heap.size w w1 := (Below.refl _ _).grown hg1 (Nat.le_refl _) (by simp))
    | (at_builtin; refine wpList_app_fits rfl rfl Tryd.underlying22 intInfo0 (by omega) rfl hown1 rfl (hr.of_below hb1) (by simp) (ints_oneCell _ _) (by omega) ?_; intro w2 hown2 hg2; have hb2 : Below w.heap.size w w2 := hb1.grown hg2 hb1.size (by intro k hk; injection hk with hk; omega)))
  rw [Nat.zero_add, List.nil_append] at hown2
  have e0 : (0 : Int) = ((0 : Nat) : Int) := rfl
  go_loopw [3, 4] (fun v i wr => ∃ k : Nat, k ≤ 12 ∧ i = .int .i64 k ∧ v = .slice (some ⟨w.heap.size, 0, none⟩) (l.length + k) (l.length + 12) ∧ wr.ownsRow w.heap.size 3 1 (.slice (some ⟨w.heap.size, 0, none⟩) (l.length + k) (l.length + 12)) (l.length + k) ((l ++ marks.take k).map (Value.int .i64)) ∧ Below w.heap.size w wr) (fun _ i _ => 12 - (intOf i).toNat)
  case atStart => exact ⟨0, by omega, rfl, by simp, by simpa using hown2, hb2⟩
  case round =>
    clear hown2 hb2 hown1 hb1 hg1 hg2 hr e0
    obtain ⟨k, hk, rfl, rfl, hown, hB⟩ := hrel
    by_cases hlt : k < 12
    · have hmk := fun W => kitMark k W (by omega) (by omega)
      have hms : marks.take (k+1) = marks.take k ++ [8000024 + (k : Int)] := by
        rw [List.take_succ_eq_append_getElem (by rw [marks_len]; exact hlt)]
        simp [marks]
      have Hms := Lib.hid hms
      clear hms
      go_wp2_with (first
        | (go_at_call 26; refine (hmk _).mono ?_; rintro e w3 ⟨rfl, rfl⟩)
        | (at_builtin; refine wpList_app_fits rfl rfl Tryd.underlying22 intInfo0 (by omega) rfl (hown.alloc _) rfl (Rd.of_block (heap_alloc_new wr _) rfl) rfl (ints_oneCell _ [8000024 + (k : Int)]) (by omega) ?_; intro w2 hown2 hg2))
      have hb2 : Below w.heap.size w w2 := (hB.alloc hB.size _).grown hg2 (by have := hB.size; simp; omega) (by intro k hk; injection hk with hk; omega)
      go_roundw
      case rel =>
        refine ⟨k+1, by omega, by go_num, rfl, ?_, hb2⟩
        rw [Hms.out, ← List.append_assoc, List.map_append]
        exact hown2
      case measure => simp [intOf]; omega
    · have hk12 : k = 12 := by omega
      subst hk12
      have hfin : LentI wr w.heap.size l := by
        rcases hown.2 with ⟨hv, _⟩ | ⟨g2, cap2, cur, hv, _, hh, _, _, hcs, ht⟩
        · cases hv
        · injection hv with hA _ hcap
          injection hA with hA
          injection hA with hA
          subst hA
          refine ⟨cur, hh, ?_⟩
          rw [show marks.take 12 = marks from rfl] at ht
          rw [← ht, List.take_of_length_le]
          simp only [Array.length_toList]; omega
      have Hfin := Lib.hid hfin
      clear hfin hown
      go_wp2
      go_ret
      exact ⟨_, by simp, Hfin.out, hB⟩
end Go.Proofs.YtdplnlbplgmijaaDoor
