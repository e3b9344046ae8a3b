/- The law's awake and size of layer 08. The law's size of layer 08; how the order of terms and triples is asked. -/
import Derived.Test.YtheeklkcaapkbaaGreatDoorJR8d
import Derived.Test.YtheeklkcaapkbaaGreatDoorJTx1
namespace Go.Proofs.YtheeklkcaapkbaaGreatDoor
open Go Go.RowKit Um Fm Tx

theorem smallT_of {t : Tm} (h : t.x.size + t.l.size + t.y.size ≤ 1000000) : smallT t := by unfold smallT; omega
theorem termIri (s : ByteArray) (w : World) : Calls Tryz.prog 27 #[.string s] w fun e w' => e = .returned (tA ⟨1, s, ⟨#[]⟩, ⟨#[]⟩⟩) ∧ Below w.heap.size w w' := by
  go_enter Tryz.func27, Tryz.ntmps27
  go_wp2
  refine bodyPost_ret (v := tA ⟨1, s, ⟨#[]⟩, ⟨#[]⟩⟩) (by simp [results, Tryz.results27, go_sem]) rfl ⟨rfl, (by repeat (first | exact Below.refl _ _ | assumption | exact (Below.refl _ _).alloc (Nat.le_refl _) _ | refine below_tr ?_ (by assumption) | refine below_alloc ?_ | refine below_tr ?_ (below_regrown _ _ _)))⟩
theorem lit_ab : lowS ⟨#[69, 110]⟩ = ⟨#[101, 110]⟩ := by decide
theorem showIri : showP ⟨1, ⟨#[97, 32, 98]⟩, ⟨#[]⟩, ⟨#[]⟩⟩ = (⟨#[60, 97, 92, 117, 48, 48, 50, 48, 98, 62]⟩, 0) := by kernel_rfl
theorem showTag : showP ⟨3, ⟨#[97, 34, 98]⟩, ⟨#[101, 110]⟩, ⟨#[]⟩⟩ = (⟨#[34, 97, 92, 34, 98, 34, 64, 101, 110]⟩, 0) := by kernel_rfl
set_option maxHeartbeats 1000000 in
set_option maxRecDepth 20000 in
theorem lawAwake (w : World) (hC : CtxT w) : Calls Tryz.prog 9 #[] w fun e w' => e = .returned (.bool true) ∧ Below w.heap.size w w' := by
  have h1 := termIri ⟨#[97, 32, 98]⟩ w
  have h2 := fun W (hB : Below w.heap.size w W) => termShow ⟨1, ⟨#[97, 32, 98]⟩, ⟨#[]⟩, ⟨#[]⟩⟩ W (hC.step hB) (smallT_of (by decide))
  have h3 := fun W => termTagged ⟨#[97, 34, 98]⟩ ⟨#[69, 110]⟩ W (by decide)
  have h4 := fun W (hB : Below w.heap.size w W) => termShow ⟨3, ⟨#[97, 34, 98]⟩, ⟨#[101, 110]⟩, ⟨#[]⟩⟩ W (hC.step hB) (smallT_of (by decide))
  rw [showIri] at h2
  rw [showTag] at h4
  rw [lit_ab] at h3
  go_enter Tryz.func9, Tryz.ntmps9
  go_wp2_with (first | (go_at_call 27; with_reducible refine h1.mono ?_; rintro e w1 ⟨rfl, b1⟩) | (go_at_call 23; with_reducible refine (h3 _).mono ?_; rintro e w3 ⟨rfl, b3⟩) | (go_at_call 19; with_reducible refine (h2 _ (by assumption)).mono ?_; rintro e w2 ⟨rfl, b2⟩; have c2 := below_tr b1 b2) | (go_at_call 19; with_reducible refine (h4 _ (below_tr c2 b3)).mono ?_; rintro e w4 ⟨rfl, b4⟩))
  go_ret
  exact ⟨rfl, below_tr (below_tr c2 b3) b4⟩
end Go.Proofs.YtheeklkcaapkbaaGreatDoor
namespace Go.Proofs.YtheeklkcaapkbaaGreatDoor
open Go Go.RowKit Um Fm Tx

abbrev tC (t : Tm) : Array Value := #[.int .i64 t.k, .string t.x, .string t.l, .string t.y]
def hugeT (t : Tm) : Prop := t.x.size ≤ 281474976710656 ∧ t.l.size ≤ 281474976710656 ∧ t.y.size ≤ 281474976710656
def szT (t : Tm) : Nat := t.x.size + t.l.size + t.y.size
def szL (l : List Tm) : Nat := (l.map szT).sum
theorem szL_snoc (l : List Tm) (k : Nat) (t : Tm) (h : l[k]? = some t) : szL (l.take (k + 1)) = szL (l.take k) + szT t := by
  unfold szL
  rw [List.take_add_one, h, Option.toList_some, List.map_append, List.sum_append]
  simp
theorem szL_le (l : List Tm) (hz : ∀ t ∈ l, hugeT t) : ∀ k, k ≤ l.length → szL (l.take k) ≤ k * 844424930131968
  | 0, _ => by simp [szL]
  | k + 1, hk => by
    have hx := List.getElem?_eq_getElem (show k < l.length by omega)
    rw [szL_snoc l k _ hx]
    have h1 := szL_le l hz k (by omega)
    have h2 := hz _ (List.getElem_mem (show k < l.length by omega))
    unfold hugeT at h2
    unfold szT
    rw [Nat.succ_mul]; omega
theorem flat_at (l : List Tm) (k i : Nat) (t : Tm) (hk : l[k]? = some t) (hi : i < 4) : (l.flatMap fun t => (tC t).toList)[k * 4 + i]? = (tC t)[i]? := by
  induction l generalizing k with
  | nil => simp at hk
  | cons s r ih =>
    rw [List.flatMap_cons]
    cases k with
    | zero =>
      simp only [List.getElem?_cons_zero, Option.some.injEq] at hk
      subst hk
      rw [List.getElem?_append_left (by simp; omega)]
      simp
    | succ k =>
      simp only [List.getElem?_cons_succ] at hk
      have e : ((tC s).toList).length = 4 := rfl
      rw [List.getElem?_append_right (by rw [e]; omega), e, show (k + 1) * 4 + i - 4 = k * 4 + i by omega]
      exact ih k hk
set_option maxHeartbeats 1000000 in
set_option maxRecDepth 20000 in
theorem lawSize (l : List Tm) (g n c : Nat) (w : World) (hn : l.length = n) {cs : Array Value} (hb : w.heap[g]? = some (Obj.cells cs 24 (0, 0))) (hz : ∀ t ∈ l, hugeT t) (hcs : cs.toList = l.flatMap fun t => (tC t).toList) (hl : l.length ≤ 1000 := by decide) :
    Calls Tryz.prog 10 #[.slice (some ⟨g, 0, none⟩) n c] w fun e w' => e = .returned (.int .i64 (szL l : Nat)) ∧ Below w.heap.size w w' := by
  subst hn
  have hcell : ∀ (k i : Nat) (t : Tm) (v : Value), l[k]? = some t → i < 4 → (tC t)[i]? = some v → w.cell? ⟨g, k * 4 + i, none⟩ = some v := by
    intro k i t v hk hi hv
    rw [Lib.cell_of_heap hb, ← Array.getElem?_toList, hcs, flat_at l k i t hk hi]
    exact hv
  clear hb hcs
  have Hc := Lib.hid hcell
  clear hcell
  go_enter Tryz.func10, Tryz.ntmps10
  go_wp2
  go_loopw [3, 4] (fun s i wr => ∃ k q : Nat, k ≤ l.length ∧ i = .int .i64 k ∧ s = .int .i64 (szL (l.take k) : Nat) ∧ wr = w.drewN q) (fun _ i _ => l.length - (intOf i).toNat)
  case atStart => exact ⟨0, 0, by omega, rfl, rfl, rfl⟩
  case round =>
    obtain ⟨k, q, hk, rfl, rfl, rfl⟩ := hrel
    by_cases hlt : k < l.length
    · obtain ⟨t, ht⟩ : ∃ t, l[k]? = some t := ⟨_, List.getElem?_eq_getElem hlt⟩
      have e1 := Hc.out k 1 t _ ht (by omega) rfl
      have e2 := Hc.out k 2 t _ ht (by omega) rfl
      have e3 := Hc.out k 3 t _ ht (by omega) rfl
      have hsn := Lib.hid (szL_snoc l k t ht)
      have hle := szL_le l hz k (by omega)
      have hzt := hz _ (List.mem_of_getElem? ht)
      unfold hugeT at hzt
      obtain ⟨z1, z2, z3⟩ := hzt
      have hk8 : k * 844424930131968 ≤ 1000 * 844424930131968 := Nat.mul_le_mul_right _ (by omega)
      clear ht hz
      generalize szL (l.take k) = m at *
      go_wp2
      go_quiet (fail)
      go_wp2
      exact ⟨⟨k + 1, q + nq, by omega, by go_num, by rw [hsn.out, szT]; go_num, rfl⟩, by simp [intOf]; omega⟩
    · have e : szL (l.take k) = szL l := by rw [List.take_of_length_le (by omega)]
      rw [e]
      go_wp2
      go_ret
      exact ⟨rfl, below_drewN' (Below.refl _ _) q⟩
theorem lawRank (t : Tm) (w : World) : Calls Tryz.prog 13 #[tA t] w fun e w' => e = .returned (.int .i64 (rankT t)) ∧ Below w.heap.size w w' := by
  unfold rankT
  by_cases h1 : t.k = 1
  · go_enter Tryz.func13, Tryz.ntmps13
    go_wp2
    go_ret
    exact ⟨by simp, (by repeat (first | exact Below.refl _ _ | assumption | exact (Below.refl _ _).alloc (Nat.le_refl _) _ | refine below_tr ?_ (by assumption) | refine below_alloc ?_ | refine below_tr ?_ (below_regrown _ _ _)))⟩
  · by_cases h2 : t.k = 2
    · go_enter Tryz.func13, Tryz.ntmps13
      go_wp2
      go_ret
      exact ⟨by simp, (by repeat (first | exact Below.refl _ _ | assumption | exact (Below.refl _ _).alloc (Nat.le_refl _) _ | refine below_tr ?_ (by assumption) | refine below_alloc ?_ | refine below_tr ?_ (below_regrown _ _ _)))⟩
    · go_enter Tryz.func13, Tryz.ntmps13
      go_wp2
      go_ret
      exact ⟨by simp, (by repeat (first | exact Below.refl _ _ | assumption | exact (Below.refl _ _).alloc (Nat.le_refl _) _ | refine below_tr ?_ (by assumption) | refine below_alloc ?_ | refine below_tr ?_ (below_regrown _ _ _)))⟩
theorem lawFirst (n m : Int) (w : World) : Calls Tryz.prog 15 #[.int .i64 n, .int .i64 m] w fun e w' => e = .returned (.int .i64 (orZ n m)) ∧ w = w' := by
  unfold orZ
  by_cases h1 : n = 0
  · go_enter Tryz.func15, Tryz.ntmps15
    go_wp2
    go_ret
    exact ⟨by simp, rfl⟩
  · go_enter Tryz.func15, Tryz.ntmps15
    go_wp2
    go_ret
    exact ⟨by simp, rfl⟩
theorem tp_law1 (a b c : Tm) : cmpTp ⟨a, b, c⟩ ⟨a, c, b⟩ = cmpTm b c := by
  unfold cmpTp
  simp only
  rw [ordF_Tm.self a, orZ_zero, ordF_Tm.neg b c]
  unfold orZ; split <;> omega
theorem tp_law3 (a b c : Tm) : cmpTp ⟨b, a, a⟩ ⟨a, c, c⟩ = orZ (-cmpTm a b) (cmpTm a c) := by
  unfold cmpTp
  simp only
  rw [ordF_Tm.neg a b]
  unfold orZ; split <;> (try split) <;> omega
theorem cmp_eq (a b : Tm) : cmpTm a b = 0 ↔ a = b := ⟨ordF_Tm.zero a b, fun h => by rw [h]; exact ordF_Tm.self b⟩
end Go.Proofs.YtheeklkcaapkbaaGreatDoor
