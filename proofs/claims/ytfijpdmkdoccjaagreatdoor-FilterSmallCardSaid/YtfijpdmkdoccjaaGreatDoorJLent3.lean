/- The kit's conditions, lent. -/
import Derived.Test.YtfijpdmkdoccjaaGreatDoorJLent2
import Derived.Test.YtfijpdmkdoccjaaGreatDoorJCopy2
namespace Go.Proofs.YtfijpdmkdoccjaaGreatDoor
open Go Go.RowKit Um Fm Mt
/-- What lies from B on stays. -/
def Stays (B : Nat) (w w' : World) : Prop := ∀ (g : Nat) (o : Obj), B ≤ g → w.heap[g]? = some o → w'.heap[g]? = some o
theorem Stays.refl (B : Nat) (w : World) : Stays B w w := fun _ _ _ h => h
theorem Stays.trans {B : Nat} {a b c : World} (h : Stays B a b) (k : Stays B b c) : Stays B a c := fun g o hg x => k g o hg (h g o hg x)
theorem Stays.below {B : Nat} {w w' : World} (h : Below w.heap.size w w') : Stays B w w' := fun g o _ x => by
  have : g < w.heap.size := by
    rcases Nat.lt_or_ge g w.heap.size with hlt | hge
    · exact hlt
    · rw [Array.getElem?_eq_none hge] at x; cases x
  rw [h.block g this]; exact x
theorem Stays.row {B r : Nat} {w w' : World} (h : w.grownBy w' (some r)) (hr : r < B) : Stays B w w' := fun g o hg x => by
  have : g < w.heap.size := by
    rcases Nat.lt_or_ge g w.heap.size with hlt | hge
    · exact hlt
    · rw [Array.getElem?_eq_none hge] at x; cases x
  rw [h.block g this (by intro e; injection e with e; omega)]; exact x
theorem Stays.set {B b i : Nat} {v : Value} {w : World} (hb : b < B) : Stays B w (w.setCell ⟨b, i, none⟩ v) := fun g o hg x => by
  rw [heap_setCell_other _ _ _ _ (by simp; omega)]; exact x
theorem Stays.setRow {B b : Nat} {vs : Array Value} {w : World} (hb : b < B) : Stays B w (w.setRow b vs) := fun g o hg x => by
  rw [setRow_other _ _ _ _ (by omega)]; exact x
def marksE : List Value := (List.range 12).flatMap fun (j : Nat) => mkE (j : Int)
/-- What a condition lent reads as: its lists lie each in a block of its own from B on, marks behind. -/
def RdLn : (n : Nat) → Nat → World → List Value → ExT n → Prop
  | 0, _, _, _, _ => False
  | n + 1, B, w, cs, (k, s, t, kids) => ∃ (g : Nat) (xs : List Value), cs = [.int .i64 k, .string s, .int .i64 t.k, .string t.x, .string t.l, .string t.y, .slice (some ⟨g, 0, none⟩) kids.length (kids.length + 12)] ∧ B ≤ g ∧ LentB 31 w g (xs ++ marksE) ∧ All 7 (RdLn n B w) xs kids
theorem LentB.stays {T : TypeId} {B : Nat} {w w' : World} {g : Nat} {xs : List Value} (h : LentB T w g xs) (hs : Stays B w w') (hB : B ≤ g) : LentB T w' g xs := by
  obtain ⟨cur, h1, h2⟩ := h
  exact ⟨cur, hs g _ hB h1, h2⟩
theorem RdLn.step : ∀ {n B : Nat} {w w' : World} {cs : List Value} {e : ExT n}, RdLn n B w cs e → Stays B w w' → RdLn n B w' cs e
  | 0, _, _, _, _, _, h, _ => h.elim
  | _n + 1, _B, _w, _w', _cs, (_k, _s, _t, _kids), ⟨g, xs, h1, h2, h3, h4⟩, hs => ⟨g, xs, h1, h2, h3.stays hs h2, h4.mono fun _ _ _ h => h.step hs⟩
theorem RdLn.lower : ∀ {n B B' : Nat} {w : World} {cs : List Value} {e : ExT n}, RdLn n B w cs e → B' ≤ B → RdLn n B' w cs e
  | 0, _, _, _, _, _, h, _ => h.elim
  | _n + 1, _B, _B', _w, _cs, (_k, _s, _t, _kids), ⟨g, xs, h1, h2, h3, h4⟩, hs => ⟨g, xs, h1, Nat.le_trans hs h2, h3, h4.mono fun _ _ _ h => h.lower hs⟩
theorem LentB.rd1 {T : TypeId} {w : World} {g : Nat} {xs ys : List Value} (h : LentB T w g (xs ++ ys)) : Rd w (some ⟨g, 0, none⟩) xs := by
  have := h.rd.take xs.length
  rwa [List.take_left] at this
theorem RdLn.rdE : ∀ {n B : Nat} {w : World} {cs : List Value} {e : ExT n}, RdLn n B w cs e → RdE n w cs e
  | 0, _, _, _, _, h => h.elim
  | _n + 1, _B, _w, _cs, (_k, _s, _t, _kids), ⟨_g, xs, h1, _h2, h3, h4⟩ => ⟨_, _, h1, Nat.le_add_right _ _, xs, h3.rd1, h4.mono fun _ _ _ h => h.rdE⟩
theorem exprs_own {w : World} {base : Nat} {g k cap : Nat} {xs : List Value} (h : w.ownsRow base 31 7 (.slice (some ⟨g, 0, none⟩) k cap) k xs) : xs.length = k * 7 := h.1
def LnE (n : Nat) : Prop := ∀ (x : ExT n) (cs : List Value) (W : World), RdE n W cs x → szE n x → Calls Tryz.prog 54 #[.agg cs.toArray] W fun e w' => ∃ ds : List Value, e = .returned (.agg ds.toArray) ∧ RdLn n W.heap.size w' ds x ∧ Below W.heap.size W w'
def LnI (n : Nat) (l : List (ExT n)) (w : World) (v i : Value) (wr : World) : Prop := ∃ (k : Nat) (xs : List Value), k ≤ l.length ∧ i = .int .i64 k ∧ v = .slice (some ⟨w.heap.size, 0, none⟩) k (l.length + 12) ∧ wr.ownsRow w.heap.size 31 7 (.slice (some ⟨w.heap.size, 0, none⟩) k (l.length + 12)) k xs ∧ Below w.heap.size w wr ∧ w.heap.size + 1 ≤ wr.heap.size ∧ All 7 (RdLn n (w.heap.size + 1) wr) xs (l.take k)
def LnJ (n : Nat) (l : List (ExT n)) (w : World) (v i : Value) (wr : World) : Prop := ∃ (k : Nat) (xs : List Value), k ≤ 12 ∧ i = .int .i64 k ∧ v = .slice (some ⟨w.heap.size, 0, none⟩) (l.length + k) (l.length + 12) ∧ wr.ownsRow w.heap.size 31 7 (.slice (some ⟨w.heap.size, 0, none⟩) (l.length + k) (l.length + 12)) (l.length + k) (xs ++ (List.range k).flatMap fun (j : Nat) => mkE (j : Int)) ∧ Below w.heap.size w wr ∧ w.heap.size + 1 ≤ wr.heap.size ∧ All 7 (RdLn n (w.heap.size + 1) wr) xs l
/-- What a list of conditions lent says. -/
def LnRs (n : Nat) (l : List (ExT n)) (w : World) (e : Ending) (w' : World) : Prop := ∃ xs : List Value, e = .returned (.slice (some ⟨w.heap.size, 0, none⟩) l.length (l.length + 12)) ∧ LentB 31 w' w.heap.size (xs ++ marksE) ∧ All 7 (RdLn n (w.heap.size + 1) w') xs l ∧ Below w.heap.size w w'
set_option maxRecDepth 10000 in
set_option maxHeartbeats 2000000 in
theorem lentExprs (n : Nat) (hE : LnE n) (l : List (ExT n)) (A : Option Addr) (c : Nat) (w : World) (hr : RdEs n w A l) (hl : l.length ≤ 1353245080300) (hz : ∀ x ∈ l, szE n x) :
    Calls Tryz.prog 28 #[.slice A l.length c] w (LnRs n l w) := by
  obtain ⟨i, hi, hzz, hsize, hby⟩ := info_parts exprInfoC
  have hby2 : i.bytes * (l.length + 12) ≤ 281474976710656 := by rw [hby]; omega
  have Hi := Lib.hid hi
  have Hz := Lib.hid hzz
  have Hsize := Lib.hid hsize
  clear hi hzz hsize hby
  go_enter Tryz.func28, Tryz.ntmps28
  go_wp2_with (at_make; refine wpList_make_own w rfl _ _ 29 rfl w.heap.size 31 i _ 7 Tryz.underlying29 Hi.out Hz.out Hsize.out .i64 .i64 _ (l.length + 12) rfl rfl (by omega) hby2 (by unfold maxLen; omega) (Nat.le_refl _) ?_; intro w1 hown1 hg1)
  have hb1 : Below w.heap.size w w1 := (Below.refl _ _).grown hg1 (Nat.le_refl _) (by simp)
  have hs1 : w.heap.size + 1 ≤ w1.heap.size := (hown1.lt _ rfl).2
  go_loopw [3, 4] (LnI n l w) (fun _ i _ => l.length - (intOf i).toNat)
  case atStart => exact ⟨0, [], by omega, rfl, rfl, hown1, hb1, hs1, rfl⟩
  case round =>
    clear hown1 hb1 hg1 hs1
    obtain ⟨k, xs, hk, rfl, rfl, own, hB, hS, hA⟩ := hrel
    by_cases hlt : k < l.length
    · obtain ⟨x, hx⟩ : ∃ x, l[k]? = some x := ⟨_, List.getElem?_eq_getElem hlt⟩
      obtain ⟨g, o, k1, s1, t1, A1, m1, e1, rfl, hR, c0, c1, c2, c3, c4, c5, c6⟩ := (RdEs.later hr hB).atv hx
      have hc := hE x _ wr hR (hz x (List.mem_of_getElem? hx))
      have HA := Lib.hid hA
      have Hx := Lib.hid hx
      clear hr hR hz hE hA hx
      go_wp2_with fail
      refine hc.mono ?_
      rintro e w1 ⟨ds, rfl, hd, hb1⟩
      obtain ⟨k2, s2, t2, A2, m2, e2, rfl⟩ := rd_spell2 hd.rdE
      clear c0 c1 c2 c3 c4 c5 c6 hc
      have hb3 : Below w1.heap.size w1 ((w1.alloc (.cells #[.int .i64 k2, .string s2, .int .i64 t2.k, .string t2.x, .string t2.l, .string t2.y, .slice A2 m2 e2] 31)).alloc (.cells #[.int .i64 k2, .string s2, .int .i64 t2.k, .string t2.x, .string t2.l, .string t2.y, .slice A2 m2 e2] 31)) := (by repeat (first | exact Below.refl _ _ | assumption | exact (Below.refl _ _).alloc (Nat.le_refl _) _ | refine below_tr ?_ (by assumption) | refine below_alloc ?_ | refine below_tr ?_ (below_regrown _ _ _)))
      have own3 := own_below own (below_tr hb1 hb3) (Nat.le_refl _)
      have R3 : Rd ((w1.alloc (.cells #[.int .i64 k2, .string s2, .int .i64 t2.k, .string t2.x, .string t2.l, .string t2.y, .slice A2 m2 e2] 31)).alloc (.cells #[.int .i64 k2, .string s2, .int .i64 t2.k, .string t2.x, .string t2.l, .string t2.y, .slice A2 m2 e2] 31)) (some ⟨w1.heap.size + 1, 0, none⟩) [.int .i64 k2, .string s2, .int .i64 t2.k, .string t2.x, .string t2.l, .string t2.y, .slice A2 m2 e2] := Rd.of_block (heap_two_2 w1 _ _) rfl
      have hz3 : w.heap.size + 1 ≤ w1.heap.size := Nat.le_trans hS hb1.size
      have Hs := Lib.hid (⟨hd, hb1⟩ : _ ∧ _)
      clear hd
      go_wp2_with (at_builtin; refine wpList_app_fits rfl rfl Tryz.underlying29 exprInfoC (by omega) rfl own3 rfl R3 rfl (by intro u hu; simp only [List.mem_cons, List.not_mem_nil, or_false] at hu; rcases hu with rfl | rfl | rfl | rfl | rfl | rfl | rfl <;> rfl) (by omega) ?_; intro w4 own4 hg4)
      obtain ⟨hd, hb1'⟩ := Hs.out
      have hst : Stays (w.heap.size + 1) wr w4 := ((Stays.below hb1').trans (Stays.below hb3)).trans (Stays.row hg4 (Nat.lt_succ_self _))
      go_roundw
      case rel =>
        refine ⟨k+1, _, by omega, by go_num, rfl, own4, ((hB.trans ((below_tr hb1' hb3).mono hB.size))).grown hg4 (by have := hb3.size; omega) (by intro k hk; injection hk with hk; omega), by have := hb3.size; have := hg4.size; omega, ?_⟩
        rw [take_snoc_of Hx.out]
        exact All.append (HA.out.mono fun cs e _ h => h.step hst) (All.one rfl ((hd.lower hS).step ((Stays.below hb3).trans (Stays.row hg4 (Nat.lt_succ_self _)))))
      case measure => simp [intOf]; omega
    · obtain rfl : k = l.length := by omega
      rw [List.take_length] at hA
      go_wp2
      go_loopw [3, 6] (LnJ n l w) (fun _ i _ => 12 - (intOf i).toNat)
      case atStart => exact ⟨0, xs, by omega, rfl, by simp, by simpa using own, hB, hS, hA⟩
      case round =>
        clear own hB hS hA hr hE hz
        obtain ⟨k, xs, hk, rfl, rfl, own, hB, hS, hA⟩ := hrel
        by_cases hlt : k < 12
        · have hmk := fun W => markEx (k : Int) W (by omega) (by omega)
          have hms : (xs ++ (List.range k).flatMap fun (j : Nat) => mkE (j : Int)) ++ [.int .i64 (8000024 + (k : Int)), .string ⟨#[]⟩, .int .i64 0, .string ⟨#[]⟩, .string ⟨#[]⟩, .string ⟨#[]⟩, .slice none 0 0] = xs ++ (List.range (k + 1)).flatMap fun (j : Nat) => mkE (j : Int) := by
            rw [List.range_succ]; simp [List.flatMap_append, mkE]
          have Hms := Lib.hid hms
          have HA := Lib.hid hA
          clear hms hA
          simp only [mkE] at hmk
          generalize 8000024 + (k : Int) = s at *
          go_wp2_with fail
          refine (hmk _).mono ?_
          rintro e w3 ⟨rfl, hb3⟩
          have hz : w.heap.size ≤ w3.heap.size := Nat.le_trans hB.size hb3.size
          have hz3 : w.heap.size + 1 ≤ w3.heap.size := Nat.le_trans hS hb3.size
          have own3 := (own_below own hb3 (Nat.le_refl _)).alloc (.cells #[.int .i64 s, .string ⟨#[]⟩, .int .i64 0, .string ⟨#[]⟩, .string ⟨#[]⟩, .string ⟨#[]⟩, .slice none 0 0] 31)
          go_wp2_with (at_builtin; refine wpList_app_fits rfl rfl Tryz.underlying29 exprInfoC (by omega) rfl own3 rfl (Rd.of_block (heap_alloc_new w3 _) rfl) rfl (by intro u hu; simp only [List.mem_cons, List.not_mem_nil, or_false] at hu; rcases hu with rfl | rfl | rfl | rfl | rfl | rfl | rfl <;> rfl) (by omega) ?_; intro w4 own4 hg4)
          have hb4 : Below w.heap.size w w4 := ((hB.trans (hb3.mono hB.size)).alloc hz _).grown hg4 (by simp; omega) (by intro k hk; injection hk with hk; omega)
          have hst : Stays (w.heap.size + 1) wr w4 := ((Stays.below hb3).trans (Stays.below ((Below.refl _ _).alloc (Nat.le_refl _) _))).trans (Stays.row hg4 (Nat.lt_succ_self _))
          go_roundw
          case rel => exact ⟨k+1, xs, by omega, by go_num, rfl, by rw [← Hms.out]; exact own4, hb4, by have := hg4.size; simp at this; omega, HA.out.mono fun cs e _ h => h.step hst⟩
          case measure => simp [intOf]; omega
        · have hk12 : k = 12 := by omega
          subst hk12
          have hfin := LentB.of_own own
          have Hfin := Lib.hid (⟨hfin, hA⟩ : _ ∧ _)
          clear hfin own hA
          go_wp2
          go_ret
          exact ⟨xs, by simp, Hfin.out.1, Hfin.out.2, hB⟩
end Go.Proofs.YtfijpdmkdoccjaaGreatDoor
