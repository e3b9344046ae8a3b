/- Words on signs' bytes that the walks of the program and of the document share. The program's package utf, walked: spans, letters. -/
import Derived.Test.YtheeklkcaapkbaaGreatDoorJClose
import Derived.Test.YtheeklkcaapkbaaGreatDoorJUtfMath
import Derived.Test.YtheeklkcaapkbaaGreatDoorJRegion
namespace Go.Proofs.YtheeklkcaapkbaaGreatDoor
open Go Go.RowKit Um

def badS : ByteArray := ⟨#[60, 62, 34, 123, 125, 124, 94, 96, 92]⟩
/-- The bytes that stand from a place on. -/
abbrev from_ (s : ByteArray) (k : Nat) : List UInt8 := s.data.toList.drop k

theorem from_length (s : ByteArray) (k : Nat) : (from_ s k).length = s.size - k := by simp [from_]

theorem own_form {w : World} {base : Nat} {e : TypeId} {size n : Nat} {v : Value} {xs : List Value} (h : w.ownsRow base e size v n xs) : ∃ A c, v = .slice A n c := by
  rcases h.2 with ⟨hv, hn⟩ | ⟨g', cap, cur, hv, _⟩
  · subst hn; exact ⟨none, 0, hv⟩
  · exact ⟨_, cap, hv⟩

theorem nx_step (s : ByteArray) (k : Nat) (h : (nx (from_ s k)).2 ≠ 0) : k + (nx (from_ s k)).2 ≤ s.size ∧ (nx (from_ s k)).2 ≤ 4 ∧ (nx (from_ s k)).1 ≤ 1114111 := by
  have h1 := nx_enc (from_ s k) h
  rw [from_length] at h1
  have h2 := h1.1
  rw [isB_iff] at h2
  omega

theorem bn_getD (s : ByteArray) (k : Nat) : (s.data.toList.getD k 0).toNat = bn s k := rfl
end Go.Proofs.YtheeklkcaapkbaaGreatDoor
namespace Go.Proofs.YtheeklkcaapkbaaGreatDoor
open Go Go.RowKit Um

theorem spanHas (a b r : Int) (w : World) :
    Calls Tryz.prog 120 #[.agg #[.int .i32 a, .int .i32 b], .int .i32 r] w fun e w' => e = .returned (.bool (decide (a ≤ r) && decide (r ≤ b))) ∧ Below w.heap.size w w' := by
  go_enter Tryz.func120, Tryz.ntmps120
  go_wp2
  all_goals
    go_ret
    refine ⟨by congr 2; simp [*]; try omega, ?_⟩
    repeat (first | exact Below.refl _ _ | apply Below.drew | refine Below.alloc ?_ (Nat.le_refl _) _)

theorem among1 (a b r : Int) (p : Addr) (w : World) (hp : w.cell? p = some (.int .i32 r)) :
    Calls Tryz.prog 119 #[.agg #[.int .i32 a, .int .i32 b], .pointer (some p)] w fun e w' => e = .returned (.bool (decide (a ≤ r) && decide (r ≤ b))) ∧ Below w.heap.size w w' := by
  have hs := fun W => spanHas a b r W
  have hlt := cell_lt hp
  have hp2 : ∀ o, (w.alloc o).cell? p = some (.int .i32 r) := fun o => by rw [World.cell?_alloc_lt w o p hlt]; exact hp
  clear hp hlt
  generalize (decide (a ≤ r) && decide (r ≤ b)) = q at hs
  go_enter Tryz.func119, Tryz.ntmps119
  go_wp2_with (go_at_call 120; refine (hs _).mono ?_; rintro e w1 ⟨rfl, hb⟩)
  go_ret
  exact ⟨rfl, ((Below.refl _ _).alloc (Nat.le_refl _) _).trans (hb.mono (by simp))⟩

theorem inB_hit (n : Int) (l : List Int) (k : Nat) (x y : Int) (hx : l[2*k]? = some x) (hy : l[2*k+1]? = some y) (h : (decide (x ≤ n) && decide (n ≤ y)) = true) (H : inB n (l.drop (2*k)) = inB n l) : inB n l = true := by
  rw [← H, inB_drop n x y l (2*k) hx hy, h]; rfl
theorem inB_miss (n : Int) (l : List Int) (k : Nat) (x y : Int) (hx : l[2*k]? = some x) (hy : l[2*k+1]? = some y) (h : (decide (x ≤ n) && decide (n ≤ y)) = false) (H : inB n (l.drop (2*k)) = inB n l) : inB n (l.drop (2*(k+1))) = inB n l := by
  rw [← H, inB_drop n x y l (2*k) hx hy, h]; rfl

set_option maxHeartbeats 1000000 in
theorem indexSpan (r : Int) (p : Addr) (l : List Int) (m : Nat) (A : Option Addr) (c : Nat) (w : World) (hm : l.length = 2 * m) (hl : m ≤ 1000000) (hr : Rd w A (l.map (Value.int .i32))) (hp : w.cell? p = some (.int .i32 r)) :
    Calls Tryz.prog 144 #[.slice A m c, .func (.func 119) #[] #[.pointer (some p)]] w fun e w' => ∃ i : Int, e = .returned (.int .i64 i) ∧ decide (0 ≤ i) = inB r l ∧ Below w.heap.size w w' := by
  have Hm := Lib.hid hm
  clear hm
  go_enter Tryz.func144, Tryz.ntmps144
  go_wp2
  go_loopw [8] (fun i wr => ∃ k : Nat, k ≤ m ∧ i = .int .i64 k ∧ Below w.heap.size w wr ∧ Hid (inB r (l.drop (2 * k)) = inB r l)) (fun i _ => m - (intOf i).toNat)
  case atStart => exact ⟨0, by omega, rfl, Below.refl _ _, by show _ = _; simp⟩
  case round =>
    obtain ⟨k, hk, rfl, hB, H⟩ := hrel
    by_cases hlt : k < m
    · have hll := Hm.out
      obtain ⟨x, hx⟩ : ∃ x, l[2*k]? = some x := ⟨_, List.getElem?_eq_getElem (by omega)⟩
      obtain ⟨y, hy⟩ : ∃ x, l[2*k+1]? = some x := ⟨_, List.getElem?_eq_getElem (by omega)⟩
      clear hll
      have hrr := hr.below hB (Nat.le_refl _)
      obtain ⟨g, o, rfl, hcc⟩ := hrr.resolve_left (by intro h; simp at h; subst h; simp at hx)
      have h0 := hcc (2*k) (.int .i32 x) (by simp [hx])
      have h1 := hcc (2*k+1) (.int .i32 y) (by simp [hy])
      have hpw : wr.cell? p = some (.int .i32 r) := by rw [hB.cell (cell_lt hp)]; exact hp
      have ham := fun W h => among1 x y r p W h
      have hit := inB_hit r l k x y hx hy
      have miss := inB_miss r l k x y hx hy
      have Hit : ∀ q, (decide (x ≤ r) && decide (r ≤ y)) = q → Hid (q = true → inB r l = true) := fun q e => by subst e; exact fun h => hit h H.out
      have Miss : ∀ q, (decide (x ≤ r) && decide (r ≤ y)) = q → Hid (q = false → inB r (l.drop (2*(k+1))) = inB r l) := fun q e => by subst e; exact fun h => miss h H.out
      clear hit miss hx hy hcc hrr hr
      rw [show o + 2 * k = o + k * 2 from by omega] at h0
      rw [show o + (2 * k + 1) = o + k * 2 + 1 from by omega] at h1
      replace Hit := Hit _ rfl
      replace Miss := Miss _ rfl
      generalize (decide (x ≤ r) && decide (r ≤ y)) = q at ham Hit Miss
      cases q
      · have miss := Lib.hid (Miss.out rfl)
        clear Miss Hit
        go_wp2_with (go_at_call 119; refine (ham _ ?_).mono ?_; exact hpw; rintro e w1 ⟨rfl, hb⟩)
        go_roundw
        case rel => exact ⟨k+1, by omega, by go_num, hB.trans (hb.mono hB.size), miss⟩
        case measure => simp [intOf]; omega
      · have hit := Lib.hid (Hit.out rfl)
        go_wp2_with (go_at_call 119; refine (ham _ ?_).mono ?_; exact hpw; rintro e w1 ⟨rfl, hb⟩)
        go_ret
        exact ⟨k, rfl, by rw [hit.out]; simp, hB.trans (hb.mono hB.size)⟩
    · have he : inB r l = false := by
        rw [← H.out]
        exact inB_end r l (2*k) (by have := Hm.out; omega)
      have He := Lib.hid he
      clear he
      go_wp2
      go_ret
      exact ⟨-1, rfl, by rw [He.out]; rfl, hB⟩

theorem containsSpan (r : Int) (p : Addr) (l : List Int) (m : Nat) (A : Option Addr) (c : Nat) (w : World) (hm : l.length = 2 * m) (hl : m ≤ 1000000) (hr : Rd w A (l.map (Value.int .i32))) (hp : w.cell? p = some (.int .i32 r)) :
    Calls Tryz.prog 118 #[.slice A m c, .func (.func 119) #[] #[.pointer (some p)]] w fun e w' => e = .returned (.bool (inB r l)) ∧ Below w.heap.size w w' := by
  have hi := indexSpan r p l m A c w hm hl hr hp
  clear hm hr hp
  go_enter Tryz.func118, Tryz.ntmps118
  go_wp2_with (go_at_call 144; refine hi.mono ?_; rintro e w1 ⟨i, rfl, hd, hb⟩; have Hd := Lib.hid hd; clear hd)
  go_ret
  exact ⟨by rw [← Hd.out]; rfl, hb⟩

theorem among (r : Int) (l : List Int) (m : Nat) (A : Option Addr) (c : Nat) (w : World) (hm : l.length = 2 * m) (hl : m ≤ 1000000) (hr : Rd w A (l.map (Value.int .i32))) :
    Calls Tryz.prog 89 #[.int .i32 r, .slice A m c] w fun e w' => e = .returned (.bool (inB r l)) ∧ Below w.heap.size w w' := by
  have hc := containsSpan r ⟨w.heap.size, 0, none⟩ l m A c (w.alloc (.cells #[.int .i32 r] 21)) hm hl (hr.below ((Below.refl _ _).alloc (Nat.le_refl _) _) (Nat.le_refl _)) (World.cell?_alloc_new _ _ _ 0)
  clear hm hr
  go_enter Tryz.func89, Tryz.ntmps89
  go_wp2_with (go_at_call 118; refine hc.mono ?_; rintro e w1 ⟨rfl, hb⟩)
  go_ret
  exact ⟨rfl, ((Below.refl _ _).alloc (Nat.le_refl _) _).trans (hb.mono (by simp))⟩
def lowL : List Int := [65, 90, 97, 122, 192, 214, 216, 246, 248, 767, 880, 893, 895, 8191]
def highL : List Int := [8204, 8205, 8304, 8591, 11264, 12271, 12289, 55295, 63744, 64975, 65008, 65533, 65536, 983039]
theorem firstB_low (r : Int) : firstB r = (inB r lowL || inB r highL) := by
  simp only [firstB, firstL, lowL, highL, inB, Bool.or_false, Bool.or_assoc]

set_option maxHeartbeats 1000000 in
theorem utfFirst (r : Int) (w : World) :
    Calls Tryz.prog 116 #[.int .i32 r] w fun e w' => e = .returned (.bool (firstB r)) ∧ Below w.heap.size w w' := by
  have ha := fun (l : List Int) (hl : l.length = 14) (g : Nat) (W : World) h => among r l 7 (some ⟨g, 0, none⟩) 7 W hl (by decide) h
  rw [firstB_low]
  go_enter Tryz.func116, Tryz.ntmps116
  have h1 := ha lowL rfl
  have h2 := ha highL rfl
  clear ha
  generalize inB r lowL = q1 at h1
  generalize inB r highL = q2 at h2
  cases q1
  · go_wp2_with fail
    refine (h1 w.heap.size _ ?_).mono ?_
    exact Rd.of_block (heap_two_1 w _ _) rfl
    rintro e w1 ⟨rfl, hb⟩
    go_wp2_with fail
    refine (h2 (w.heap.size + 1) _ ?_).mono ?_
    exact (Rd.of_block (heap_two_2 w _ _) rfl).below hb (Nat.le_refl _)
    rintro e w2 ⟨rfl, hb2⟩
    go_wp2_with fail
    go_ret
    refine ⟨by simp, ?_⟩
    exact ((((Below.refl _ _).alloc (Nat.le_refl _) _).alloc (by simp) _).trans (hb.mono (by simp; omega))).trans (hb2.mono (by have := hb.size; simp at this; omega))
  · go_wp2_with fail
    refine (h1 w.heap.size _ ?_).mono ?_
    exact Rd.of_block (heap_two_1 w _ _) rfl
    rintro e w1 ⟨rfl, hb⟩
    go_wp2_with fail
    go_ret
    refine ⟨by simp, ?_⟩
    exact ((((Below.refl _ _).alloc (Nat.le_refl _) _).alloc (by simp) _).trans (hb.mono (by simp; omega)))

theorem utfDigit (r : Int) (w : World) :
    Calls Tryz.prog 92 #[.int .i32 r] w fun e w' => e = .returned (.bool (digitB r)) ∧ Below w.heap.size w w' := by
  have hs := fun W => spanHas 48 57 r W
  unfold digitB
  generalize (decide (48 ≤ r) && decide (r ≤ 57)) = q at hs
  go_enter Tryz.func92, Tryz.ntmps92
  go_wp2_with (go_at_call 120; refine (hs _).mono ?_; rintro e w1 ⟨rfl, hb⟩)
  go_ret
  exact ⟨rfl, hb⟩
end Go.Proofs.YtheeklkcaapkbaaGreatDoor
