/- The kit's flat lists, lent: printed by gen/lent.py. -/
import Derived.Test.YtfijpdmkdoccjaaGreatDoorJLent1
import Derived.Test.YtfijpdmkdoccjaaGreatDoorJCopy
namespace Go.Proofs.YtfijpdmkdoccjaaGreatDoor
open Go Go.RowKit Um Fm Mt
theorem termInfoL : (Tryz.prog.info? 28).map (fun i => (i.zero, i.size, i.bytes)) = some (some (.agg #[.int .i64 0, .string ⟨#[]⟩, .string ⟨#[]⟩, .string ⟨#[]⟩]), 4, 56) := by kernel_rfl
theorem terms1L (l : List Tm) : ∀ u ∈ l.flatMap tmC, u.oneCell' = true := by
  intro u hu
  obtain ⟨t, _, ht⟩ := List.mem_flatMap.1 hu
  simp only [tmC, List.mem_cons, List.not_mem_nil, or_false] at ht
  rcases ht with rfl | rfl | rfl | rfl <;> rfl
theorem terms_lenL (l : List Tm) : (l.flatMap tmC).length = l.length * 4 := by
  induction l with
  | nil => rfl
  | cons a r ih => simp [List.flatMap_cons, ih, tmC, Nat.add_mul]
def mkPt (i : Int) : Pat := ⟨⟨⟨#[]⟩, mkTm i⟩, ⟨⟨#[]⟩, zTm⟩, ⟨⟨#[]⟩, zTm⟩⟩
def mkKy (i : Int) : Ky := ⟨mkT 1 i, false⟩
def marksOf {α : Type} (f : Int → α) : List α := (List.range 12).map fun (j : Nat) => f (j : Int)
/-- A list lent: in a block of its own, marks behind it. -/
def LentB (T : TypeId) (w : World) (g : Nat) (xs : List Value) : Prop := ∃ cur : Array Value, w.heap[g]? = some (.cells cur T (0, 0)) ∧ cur.toList = xs
theorem LentB.rd {T : TypeId} {w : World} {g : Nat} {xs : List Value} (h : LentB T w g xs) : Rd w (some ⟨g, 0, none⟩) xs := by
  obtain ⟨cur, h1, h2⟩ := h
  exact Rd.of_block h1 h2
theorem LentB.lt {T : TypeId} {w : World} {g : Nat} {xs : List Value} (h : LentB T w g xs) : g < w.heap.size := by
  obtain ⟨cur, h1, h2⟩ := h
  rcases Nat.lt_or_ge g w.heap.size with hlt | hge
  · exact hlt
  · rw [Array.getElem?_eq_none hge] at h1; cases h1
theorem LentB.below {T : TypeId} {w w' : World} {g : Nat} {xs : List Value} (h : LentB T w g xs) {B : Nat} (hb : Below B w w') (hB : g < B) : LentB T w' g xs := by
  have hlt := h.lt
  obtain ⟨cur, h1, h2⟩ := h
  exact ⟨cur, by rw [hb.block g hB]; exact h1, h2⟩
theorem Rd.of_belowL {w w' : World} {A : Option Addr} {xs : List Value} (h : Rd w A xs) (hb : Below w.heap.size w w') : Rd w' A xs := h.below hb (Nat.le_refl _)
theorem LentB.of_own {w : World} {base g : Nat} {e : TypeId} {size n : Nat} {xs : List Value} (h : w.ownsRow base e size (.slice (some ⟨g, 0, none⟩) n n) n xs) : LentB e w g xs := by
  rcases h.2 with ⟨hv, _⟩ | ⟨g2, cap2, cur, hv, _, hh, _, _, hcs, ht⟩
  · cases hv
  · injection hv with hA _ hcap
    injection hA with hA
    injection hA with hA
    subst hA
    subst hcap
    refine ⟨cur, hh, ?_⟩
    rw [← ht, List.take_of_length_le]
    simp only [Array.length_toList]; omega
/-- append within the capacity, from whatever slice -/
theorem wpList_app_fits {P : Program} {w : World} {ops : Array Oper} {rest : List Oper} {o : Oper} {a : Act} {Q : Exit → Act → World → Prop} {s x : Operand} {t : TypeId}
    (ho : o.op = .call { callee := .builtin .append, args := #[s, x], argTypes := #[t, t] }) (hgd : o.guard = none)
    {e : TypeId} {z : Value} {size bytes : Nat} (ht : P.underlying t = some (.slice e)) (hinfo : (P.info? e).map (fun i => (i.zero, i.size, i.bytes)) = some (some z, size, bytes)) (hsz : 0 < size)
    {base g k cap : Nat} {xs : List Value} (hs : a.eval s = .slice (some ⟨g, 0, none⟩) k cap) (hown : w.ownsRow base e size (.slice (some ⟨g, 0, none⟩) k cap) k xs)
    {A : Option Addr} {m c : Nat} {news : List Value} (hx : a.eval x = .slice A m c) (hr : Rd w A news) (hl : news.length = m * size) (h1 : ∀ u ∈ news, u.oneCell' = true) (hfit : k + m ≤ cap)
    (h : ∀ w', w'.ownsRow base e size (.slice (some ⟨g, 0, none⟩) (k + m) cap) (k + m) (xs ++ news) → w.grownBy w' (some g) → wpList P ops Q rest (a.put o.dst (.slice (some ⟨g, 0, none⟩) (k + m) cap)) w') : wpList P ops Q (o :: rest) a w := by
  obtain ⟨i, hi, hz, hsize, hby⟩ := info_parts hinfo
  rcases hr with rfl | ⟨g', off, rfl, hc⟩
  · have hm : m = 0 := by
      rcases Nat.eq_zero_or_pos m with h0 | h0
      · exact h0
      · have := Nat.mul_pos h0 hsz
        simp at hl; omega
    subst hm
    rcases A with _ | ad
    · refine wpList_plain hgd fun K hK => ?_
      have hrun : (Builtin.append_ #[t, t] o.type #[.slice (some ⟨g, 0, none⟩) k cap, .slice none 0 c]).run P w = .ok (.slice (some ⟨g, 0, none⟩) k cap) w := by
        rcases hown.2 with ⟨hv, _⟩ | ⟨g2, cap2, cur, hv, _, _, hnc, _⟩
        · cases hv
        · injection hv with _ _ hcap
          subst hcap
          simp [Builtin.append_, run_underlying ht, sizeOf, typeInfo, hi, Builtin.lenOf, Builtin.firstCells, hnc, storeCells]
      unfold Oper.wp execOp
      simp only [ho, resolve, invoke, builtin, Sem.run_bind, Sem.run_pure, Result.andThen_ok, List.map_toArray, List.map_cons, List.map_nil, hs, hx, hrun]
      exact hK _ _ (h w (by simpa using hown) (World.grownBy.refl _ _))
    · exact wpList_append_fits w hgd s x t ho base e i size ht hi hsize g k cap xs hs hown ad 0 c [] hx hl (by simp) (by simp) hfit h
  · exact wpList_append_fits w hgd s x t ho base e i size ht hi hsize g k cap xs hs hown ⟨g', off, none⟩ m c news hx hl (fun j u hu => by rw [add_zero_spot]; exact hc j u hu) h1 hfit h


def LentITexts (l : List ByteArray) (w : World) (v i : Value) (wr : World) : Prop := ∃ k : Nat, k ≤ 12 ∧ i = .int .i64 k ∧ v = .slice (some ⟨w.heap.size, 0, none⟩) (l.length + k) (l.length + 12) ∧ wr.ownsRow w.heap.size 9 1 (.slice (some ⟨w.heap.size, 0, none⟩) (l.length + k) (l.length + 12)) (l.length + k) ((l ++ (List.range k).map (fun j => (fun i => mkT 1 i) ((j : Nat) : Int))).map Value.string) ∧ Below w.heap.size w wr

set_option maxRecDepth 10000 in
set_option maxHeartbeats 2000000 in
theorem lentTexts (l : List ByteArray) (A : Option Addr) (c : Nat) (w : World) (hr : Rd w A (l.map Value.string)) (hl : l.length ≤ 1048576) :
    Calls Tryz.prog 29 #[.slice A l.length c] w fun e w' => e = .returned (.slice (some ⟨w.heap.size, 0, none⟩) l.length (l.length + 12)) ∧ LentB 9 w' w.heap.size ((l ++ marksOf (fun i => mkT 1 i)).map Value.string) ∧ Below w.heap.size w w' := by
  obtain ⟨i, hi, hz, hsize, hby⟩ := info_parts stringInfo'
  have hby2 : i.bytes * (l.length + 12) ≤ 281474976710656 := by rw [hby]; omega
  have hn : (l.map Value.string).length = l.length * 1 := (by simp)
  have Hi := Lib.hid hi
  have Hz := Lib.hid hz
  have Hsize := Lib.hid hsize
  clear hi hz hsize hby
  go_enter Tryz.func29, Tryz.ntmps29
  go_wp2_with (first
    | (at_make; refine wpList_make_own w rfl _ _ 24 rfl w.heap.size 9 i _ 1 Tryz.underlying24 Hi.out Hz.out Hsize.out .i64 .i64 _ (l.length + 12) rfl rfl (by omega) hby2 (by unfold maxLen; omega) (Nat.le_refl _) ?_; intro w1 hown1 hg1; have hb1 : Below w.heap.size w w1 := (Below.refl _ _).grown hg1 (Nat.le_refl _) (by simp))
    | (at_builtin; refine wpList_app_fits rfl rfl Tryz.underlying24 stringInfo' (by omega) rfl hown1 rfl (hr.of_belowL hb1) hn (strs1C _) (by omega) ?_; intro w2 hown2 hg2; have hb2 : Below w.heap.size w w2 := hb1.grown hg2 hb1.size (by intro k hk; injection hk with hk; omega)))
  rw [Nat.zero_add, List.nil_append] at hown2
  go_loopw [3, 4] (LentITexts l w) (fun _ i _ => 12 - (intOf i).toNat)
  case atStart => exact ⟨0, by omega, rfl, by simp, by simpa using hown2, hb2⟩
  case round =>
    clear hown2 hb2 hown1 hb1 hg1 hg2 hr hn
    obtain ⟨k, hk, rfl, rfl, hown, hB⟩ := hrel
    by_cases hlt : k < 12
    · have hmk := fun W => markTxt 1 (k : Int) W (by omega) (by omega) (by omega) (by omega)
      have hms : (l ++ (List.range k).map (fun j => (fun i => mkT 1 i) ((j : Nat) : Int))).map Value.string ++ [Value.string (mkT 1 (k : Int))] = (l ++ (List.range (k+1)).map (fun j => (fun i => mkT 1 i) ((j : Nat) : Int))).map Value.string := by
        rw [List.range_succ]; simp [List.map_append]
      have Hms := Lib.hid hms
      clear hms
      generalize mkT 1 (k : Int) = s at *
      go_wp2_with fail
      refine (hmk _).mono ?_
      rintro e w3 ⟨rfl, hb3⟩
      have hz : w.heap.size ≤ w3.heap.size := Nat.le_trans hB.size hb3.size
      have hown3 := (own_below hown hb3 (Nat.le_refl _)).alloc (.cells #[.string s] 9)
      go_wp2_with (at_builtin; refine wpList_app_fits rfl rfl Tryz.underlying24 stringInfo' (by omega) rfl hown3 rfl (Rd.of_block (heap_alloc_new w3 _) rfl) rfl (by intro u hu; simp only [List.mem_cons, List.not_mem_nil, or_false] at hu; rcases hu with rfl <;> rfl) (by omega) ?_; intro w4 hown4 hg4)
      have hb4 : Below w.heap.size w w4 := ((hB.trans (hb3.mono hB.size)).alloc hz _).grown hg4 (by simp; omega) (by intro k hk; injection hk with hk; omega)
      go_roundw
      case rel => exact ⟨k+1, by omega, by go_num, rfl, by rw [← Hms.out]; exact hown4, hb4⟩
      case measure => simp [intOf]; omega
    · have hk12 : k = 12 := by omega
      subst hk12
      have hfin := LentB.of_own hown
      have Hfin := Lib.hid hfin
      clear hfin hown
      go_wp2
      go_ret
      exact ⟨by simp, by first | exact Hfin.out | simpa [List.map_append, List.flatMap_append, marksOf] using Hfin.out, hB⟩

def LentITerms (l : List Tm) (w : World) (v i : Value) (wr : World) : Prop := ∃ k : Nat, k ≤ 12 ∧ i = .int .i64 k ∧ v = .slice (some ⟨w.heap.size, 0, none⟩) (l.length + k) (l.length + 12) ∧ wr.ownsRow w.heap.size 28 4 (.slice (some ⟨w.heap.size, 0, none⟩) (l.length + k) (l.length + 12)) (l.length + k) ((l ++ (List.range k).map (fun j => (mkTm) ((j : Nat) : Int))).flatMap tmC) ∧ Below w.heap.size w wr

set_option maxRecDepth 10000 in
set_option maxHeartbeats 2000000 in
theorem lentTerms (l : List Tm) (A : Option Addr) (c : Nat) (w : World) (hr : Rd w A (l.flatMap tmC)) (hl : l.length ≤ 1048576) :
    Calls Tryz.prog 30 #[.slice A l.length c] w fun e w' => e = .returned (.slice (some ⟨w.heap.size, 0, none⟩) l.length (l.length + 12)) ∧ LentB 28 w' w.heap.size ((l ++ marksOf (mkTm)).flatMap tmC) ∧ Below w.heap.size w w' := by
  obtain ⟨i, hi, hz, hsize, hby⟩ := info_parts termInfoL
  have hby2 : i.bytes * (l.length + 12) ≤ 281474976710656 := by rw [hby]; omega
  have hn : (l.flatMap tmC).length = l.length * 4 := (terms_lenL _)
  have Hi := Lib.hid hi
  have Hz := Lib.hid hz
  have Hsize := Lib.hid hsize
  clear hi hz hsize hby
  go_enter Tryz.func30, Tryz.ntmps30
  go_wp2_with (first
    | (at_make; refine wpList_make_own w rfl _ _ 22 rfl w.heap.size 28 i _ 4 Tryz.underlying22 Hi.out Hz.out Hsize.out .i64 .i64 _ (l.length + 12) rfl rfl (by omega) hby2 (by unfold maxLen; omega) (Nat.le_refl _) ?_; intro w1 hown1 hg1; have hb1 : Below w.heap.size w w1 := (Below.refl _ _).grown hg1 (Nat.le_refl _) (by simp))
    | (at_builtin; refine wpList_app_fits rfl rfl Tryz.underlying22 termInfoL (by omega) rfl hown1 rfl (hr.of_belowL hb1) hn (terms1L _) (by omega) ?_; intro w2 hown2 hg2; have hb2 : Below w.heap.size w w2 := hb1.grown hg2 hb1.size (by intro k hk; injection hk with hk; omega)))
  rw [Nat.zero_add, List.nil_append] at hown2
  go_loopw [3, 4] (LentITerms l w) (fun _ i _ => 12 - (intOf i).toNat)
  case atStart => exact ⟨0, by omega, rfl, by simp, by simpa using hown2, hb2⟩
  case round =>
    clear hown2 hb2 hown1 hb1 hg1 hg2 hr hn
    obtain ⟨k, hk, rfl, rfl, hown, hB⟩ := hrel
    by_cases hlt : k < 12
    · have hmk := fun W => markTm (k : Int) W (by omega) (by omega)
      have hms : (l ++ (List.range k).map (fun j => (mkTm) ((j : Nat) : Int))).flatMap tmC ++ [.int .i64 (8000024 + (k : Int)), .string ⟨#[]⟩, .string ⟨#[]⟩, .string ⟨#[]⟩] = (l ++ (List.range (k+1)).map (fun j => (mkTm) ((j : Nat) : Int))).flatMap tmC := by
        rw [List.range_succ]; simp [List.map_append, List.flatMap_append, tmC, mkTm]
      have Hms := Lib.hid hms
      clear hms
      generalize 8000024 + (k : Int) = s at *
      go_wp2_with fail
      refine (hmk _).mono ?_
      rintro e w3 ⟨rfl, hb3⟩
      have hz : w.heap.size ≤ w3.heap.size := Nat.le_trans hB.size hb3.size
      have hown3 := (own_below hown hb3 (Nat.le_refl _)).alloc (.cells #[.int .i64 s, .string ⟨#[]⟩, .string ⟨#[]⟩, .string ⟨#[]⟩] 28)
      go_wp2_with (at_builtin; refine wpList_app_fits rfl rfl Tryz.underlying22 termInfoL (by omega) rfl hown3 rfl (Rd.of_block (heap_alloc_new w3 _) rfl) rfl (by intro u hu; simp only [List.mem_cons, List.not_mem_nil, or_false] at hu; rcases hu with rfl | rfl | rfl | rfl <;> rfl) (by omega) ?_; intro w4 hown4 hg4)
      have hb4 : Below w.heap.size w w4 := ((hB.trans (hb3.mono hB.size)).alloc hz _).grown hg4 (by simp; omega) (by intro k hk; injection hk with hk; omega)
      go_roundw
      case rel => exact ⟨k+1, by omega, by go_num, rfl, by rw [← Hms.out]; exact hown4, hb4⟩
      case measure => simp [intOf]; omega
    · have hk12 : k = 12 := by omega
      subst hk12
      have hfin := LentB.of_own hown
      have Hfin := Lib.hid hfin
      clear hfin hown
      go_wp2
      go_ret
      exact ⟨by simp, by first | exact Hfin.out | simpa [List.map_append, List.flatMap_append, marksOf] using Hfin.out, hB⟩

end Go.Proofs.YtfijpdmkdoccjaaGreatDoor
