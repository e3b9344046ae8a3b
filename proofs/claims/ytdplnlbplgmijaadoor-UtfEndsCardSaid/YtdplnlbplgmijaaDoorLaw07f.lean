/- The law's walk: UtfEnds. -/
import Derived.Test.YtdplnlbplgmijaaDoorLaw07e
namespace Go.Proofs.YtdplnlbplgmijaaDoor
open Go Go.RowKit Um

section
variable {w : World} (hC : Ctx w)
include hC
omit hC in
theorem conv_new (xs : List Int) (n : Nat) (hn : xs.length = n) (W : World) (o : Obj) (c : Nat) (hr : Rd (W.alloc o) (some ⟨W.heap.size, 0, none⟩) (xs.map (Value.int .u8))) :
    (convert 38 9 (.slice (some ⟨W.heap.size, 0, none⟩) n c)).run Tryd.prog (W.alloc o) = .ok (.string (strOfNums xs)) (W.alloc o) :=
  run_conv_bytes 38 9 5 Tryd.underlying38 Tryd.underlying5 Tryd.underlying9 hr hn
theorem writes_ok (l : List Int) (n : Nat) (hn : n = l.length) (W : World) (o : Obj) (hB : Below w.heap.size w W) (hr : Rd (W.alloc o) (some ⟨W.heap.size, 0, none⟩) (l.map (Value.int .i64))) (hl : l.length ≤ 100) (c : Nat) :
    Calls Tryd.prog 3 #[.slice (some ⟨W.heap.size, 0, none⟩) n c] (W.alloc o) fun e w' => e = .returned (.bool true) ∧ Below w.heap.size w w' := by
  subst hn
  have hB1 := hB.alloc hB.size o
  exact (lawUtfWrites l _ c (W.alloc o) (hC.step hB1) (by unfold maxLen; omega) hr).mono fun _ _ ⟨he, hb⟩ => ⟨he, hB1.trans (hb.mono hB1.size)⟩
omit hC in
theorem textof_ok (y : Int) (a : ByteArray) (e1 : Int) (hT : textR [y] = .tuple #[.string a, .int .i64 e1]) (W : World) (o : Obj) (hB : Below w.heap.size w W) (hr : Rd (W.alloc o) (some ⟨W.heap.size, 0, none⟩) ([y].map (Value.int .i64))) (c : Nat) :
    Calls Tryd.prog 11 #[.slice (some ⟨W.heap.size, 0, none⟩) 1 c] (W.alloc o) fun e w' => e = .returned (.tuple #[.string a, .int .i64 e1]) ∧ Below w.heap.size w w' := by
  have hB1 := hB.alloc hB.size o
  rw [← hT]
  exact (refText [y] _ c (W.alloc o) (by simp) hr).mono fun _ _ ⟨he, hb⟩ => ⟨he, hB1.trans (hb.mono hB1.size)⟩
theorem reads_ok (s : ByteArray) (W : World) (hB : Below w.heap.size w W) (hs : s.size ≤ 1000) :
    Calls Tryd.prog 5 #[.string s] W fun e w' => e = .returned (.bool true) ∧ Below w.heap.size w w' :=
  (lawUtfReads s W (hC.step hB) (by omega)).mono fun _ _ ⟨he, hb⟩ => ⟨he, hB.trans (hb.mono hB.size)⟩
theorem small_ok (s : ByteArray) (W : World) (hB : Below w.heap.size w W) (hs : s.size ≤ 1000) :
    Calls Tryd.prog 24 #[.string s] W fun e w' => e = .returned (.bool true) ∧ Below w.heap.size w w' :=
  (lawreads s W (hC.step hB) (by omega)).mono fun _ _ ⟨he, hb⟩ => ⟨he, hB.trans (hb.mono hB.size)⟩
theorem small_alloc (s : ByteArray) (W : World) (o : Obj) (hB : Below w.heap.size w W) (hs : s.size ≤ 1000) :
    Calls Tryd.prog 24 #[.string s] (W.alloc o) fun e w' => e = .returned (.bool true) ∧ Below w.heap.size w w' :=
  small_ok hC s (W.alloc o) (hB.alloc hB.size o) hs
theorem awake_ok (W : World) (hB : Below w.heap.size w W) :
    Calls Tryd.prog 8 #[] W fun e w' => e = .returned (.bool true) ∧ Below w.heap.size w w' :=
  (awake W (hC.step hB)).mono fun _ _ ⟨he, hb⟩ => ⟨he, hB.trans (hb.mono hB.size)⟩
end

theorem hcv1 (W : World) (x : Int) : (convert 38 9 (.slice (some ⟨W.heap.size, 0, none⟩) 1 1)).run Tryd.prog (W.alloc (.cells #[.int .u8 x] 5)) = .ok (.string (strOfNums [x])) (W.alloc (.cells #[.int .u8 x] 5)) :=
  conv_new [x] 1 rfl W _ 1 (Rd.of_block (heap_alloc_new W _) rfl)
theorem hcv2 (W : World) (x y : Int) : (convert 38 9 (.slice (some ⟨W.heap.size, 0, none⟩) 2 2)).run Tryd.prog (W.alloc (.cells #[.int .u8 x, .int .u8 y] 5)) = .ok (.string (strOfNums [x, y])) (W.alloc (.cells #[.int .u8 x, .int .u8 y] 5)) :=
  conv_new [x, y] 2 rfl W _ 2 (Rd.of_block (heap_alloc_new W _) rfl)
theorem hcv3 (W : World) (x y z : Int) : (convert 38 9 (.slice (some ⟨W.heap.size, 0, none⟩) 3 3)).run Tryd.prog (W.alloc (.cells #[.int .u8 x, .int .u8 y, .int .u8 z] 5)) = .ok (.string (strOfNums [x, y, z])) (W.alloc (.cells #[.int .u8 x, .int .u8 y, .int .u8 z] 5)) :=
  conv_new [x, y, z] 3 rfl W _ 3 (Rd.of_block (heap_alloc_new W _) rfl)
theorem hcv4 (W : World) (x y z u : Int) : (convert 38 9 (.slice (some ⟨W.heap.size, 0, none⟩) 4 4)).run Tryd.prog (W.alloc (.cells #[.int .u8 x, .int .u8 y, .int .u8 z, .int .u8 u] 5)) = .ok (.string (strOfNums [x, y, z, u])) (W.alloc (.cells #[.int .u8 x, .int .u8 y, .int .u8 z, .int .u8 u] 5)) :=
  conv_new [x, y, z, u] 4 rfl W _ 4 (Rd.of_block (heap_alloc_new W _) rfl)
theorem strOfNums_size (xs : List Int) : (strOfNums xs).size = xs.length := by
  rw [← size_toList]
  simp [strOfNums]
theorem text_one (y : Int) : 1 ≤ (textS [y]).size ∧ (textS [y]).size ≤ 4 := by
  have h1 := encL_length [y]
  have h2 := encZ_pos y
  have e : (textS [y]).size = (encL [y]).length := by rw [← size_toList]; simp [textS]
  have e2 : encL [y] = Lib.encodeRuneZ y := by simp [encL]
  rw [e, e2]
  rw [e2] at h1
  simp at h1
  omega

def endsL : List Int := [-9223372036854775808, -1, 0, 32, 45, 46, 48, 58, 65, 90, 95, 97, 122, 127, 128, 183, 192, 214, 216, 246, 248, 767, 768, 879, 880, 893, 895, 2047, 2048, 8191, 8204, 8205, 8255, 8256, 8304, 8591, 11264, 12271, 12289, 55295, 57343, 63744, 64975, 65008, 65533, 65535, 65536, 983039, 1114111, 1114112, 9223372036854775807]
theorem endsL_len : endsL.length = 51 := rfl

/-- How far a counter is from its end. -/
def upTo (B : Nat) (v : Value) : Nat := B - (intOf v).toNat
theorem upTo_lt (B n : Nat) (x : Int) (h : n < B) (hx : x = (n : Int) + 1) : upTo B (.int .i64 x) < upTo B (.int .i64 (n : Int)) := by
  subst hx
  simp [upTo, intOf]; omega
set_option maxRecDepth 100000 in
set_option maxHeartbeats 20000000 in
theorem lawUtfEnds (w : World) (hC : Ctx w) :
    Calls Tryd.prog 6 #[] w fun e w' => e = .returned (.bool true) ∧ Below w.heap.size w w' := by
  go_enter Tryd.func6, Tryd.ntmps6
  go_wp2
  have hB0 : Below w.heap.size w (w.alloc (.cells (endsL.map (Value.int .i64)).toArray 3)) := (Below.refl _ _).alloc (Nat.le_refl _) _
  have hrd : Rd (w.alloc (.cells (endsL.map (Value.int .i64)).toArray 3)) (some ⟨w.heap.size, 0, none⟩) (endsL.map (Value.int .i64)) := Rd.of_block (heap_alloc_new w _) rfl
  have hcells : ∀ c d, World.alloc w (.cells #[.int .i64 (-9223372036854775808), .int .i64 (-1), .int .i64 0, .int .i64 32, .int .i64 45, .int .i64 46, .int .i64 48, .int .i64 58, .int .i64 65, .int .i64 90, .int .i64 95, .int .i64 97, .int .i64 122, .int .i64 127, .int .i64 128, .int .i64 183, .int .i64 192, .int .i64 214, .int .i64 216, .int .i64 246, .int .i64 248, .int .i64 767, .int .i64 768, .int .i64 879, .int .i64 880, .int .i64 893, .int .i64 895, .int .i64 2047, .int .i64 2048, .int .i64 8191, .int .i64 8204, .int .i64 8205, .int .i64 8255, .int .i64 8256, .int .i64 8304, .int .i64 8591, .int .i64 11264, .int .i64 12271, .int .i64 12289, .int .i64 55295, .int .i64 57343, .int .i64 63744, .int .i64 64975, .int .i64 65008, .int .i64 65533, .int .i64 65535, .int .i64 65536, .int .i64 983039, .int .i64 1114111, .int .i64 1114112, .int .i64 9223372036854775807] c d) = World.alloc w (.cells (endsL.map (Value.int .i64)).toArray c d) := fun _ _ => rfl
  rw [hcells]
  have hC1 := hC.step hB0
  clear hcells
  generalize World.alloc w (.cells (endsL.map (Value.int .i64)).toArray 3) = w1 at *
  go_loopw [2] (fun i wr => ∃ k : Nat, k ≤ 51 ∧ i = .int .i64 k ∧ Below w1.heap.size w1 wr) (fun i _ => 51 - (intOf i).toNat)
  case atStart => exact ⟨0, by omega, rfl, Below.refl _ _⟩
  case round => as_aux_lemma =>
    obtain ⟨k, hk, rfl, hB⟩ := hrel
    by_cases hlt : k < 51
    · obtain ⟨x, hx⟩ : ∃ x, endsL[k]? = some x := ⟨_, List.getElem?_eq_getElem (by rw [endsL_len]; exact hlt)⟩
      have d1 : decide (k < 51) = true := by simp [hlt]
      have d2 : decide ((k : Int) < 51) = true := by simp; omega
      go_wp2
      go_loopw [3] (fun i wr => ∃ j : Nat, j ≤ 3 ∧ i = .int .i64 ((j : Int) - 1) ∧ Below w1.heap.size w1 wr) (fun i _ => 3 - (intOf i + 1).toNat)
      case atStart => exact ⟨0, by omega, rfl, hB⟩
      case round => as_aux_lemma =>
        clear hB
        obtain ⟨j, hj, rfl, hB⟩ := hrel
        obtain ⟨g0, o0, he, hcx⟩ := (hrd.of_below hB).at_ (j := k) (u := .int .i64 x) (by simp only [List.getElem?_map, hx, Option.map_some])
        injection he with he; injection he with h2 h3; subst h2; subst h3
        rw [Nat.zero_add] at hcx
        by_cases hj3 : j < 3
        · go_wp2_with (fail)
          generalize wrap64 (x + ((j : Int) - 1)) = y
          obtain ⟨a, e1, hT, hE⟩ := text_parts [y]
          clear hx hcx
          go_at_call 3
          refine (writes_ok hC1 [y] 1 rfl wr _ hB (Rd.of_block (heap_alloc_new wr _) rfl) (by simp) _).mono ?_
          rintro e w2 ⟨rfl, hB2⟩
          go_wp2_with (fail)
          go_at_call 3
          refine (writes_ok hC1 [97, y, 98] 3 rfl w2 _ hB2 (Rd.of_block (heap_alloc_new w2 _) rfl) (by simp) _).mono ?_
          rintro e w3 ⟨rfl, hB3⟩
          go_wp2_with (fail)
          go_at_call 11
          refine (textof_ok y a e1 hT w3 _ hB3 (Rd.of_block (heap_alloc_new w3 _) rfl) _).mono ?_
          rintro e w4 ⟨rfl, hB4⟩
          clear hB2 hB3 hT
          have s1 := (text_one y).1
          have s2 := (text_one y).2
          rcases hE with ⟨rfl, hall, rfl⟩ | rfl
          · generalize textS [y] = a at *
            clear hall
            have s3 : (a.size : Int) - 1 = ((a.size - 1 : Nat) : Int) := by omega
            have z1 : (ByteArray.mk #[97]).size = 1 := rfl
            have z2 : (ByteArray.mk #[97, 46]).size = 2 := rfl
            have z3 : (ByteArray.mk #[46]).size = 1 := rfl
            have z4 : (ByteArray.mk #[98, 46, 99]).size = 3 := rfl
            have H1 := Lib.hid (And.intro z1 (And.intro z2 (And.intro z3 z4)))
            clear z1 z2 z3 z4
            go_wp2_with (fail)
            go_at_call 5
            refine (reads_ok hC1 _ _ hB4 (by omega)).mono ?_
            rintro e w5 ⟨rfl, hB5⟩
            clear hB4
            go_wp2_with (fail)
            go_at_call 5
            refine (reads_ok hC1 _ _ hB5 (by obtain ⟨z1, z2, z3, z4⟩ := H1.out; rw [ByteArray.size_append]; omega)).mono ?_
            rintro e w6 ⟨rfl, hB6⟩
            clear hB5
            go_wp2_with (fail)
            go_at_call 5
            refine (reads_ok hC1 _ _ hB6 (by obtain ⟨z1, z2, z3, z4⟩ := H1.out; rw [ByteArray.size_append, ByteArray.size_append]; omega)).mono ?_
            rintro e w7 ⟨rfl, hB7⟩
            clear hB6
            go_wp2_with (fail)
            go_at_call 5
            refine (reads_ok hC1 _ _ hB7 (by obtain ⟨z1, z2, z3, z4⟩ := H1.out; rw [ByteArray.size_append]; omega)).mono ?_
            rintro e w8 ⟨rfl, hB8⟩
            clear hB7
            go_wp2_with (fail)
            go_at_call 5
            refine (reads_ok hC1 _ _ hB8 (by obtain ⟨z1, z2, z3, z4⟩ := H1.out; rw [ByteArray.size_append, ByteArray.size_extract]; omega)).mono ?_
            rintro e w9 ⟨rfl, hB9⟩
            clear hB8
            go_wp2
            go_roundw
            case rel => exact ⟨j+1, by omega, by go_num, hB9⟩
            case measure => simp [intOf]; omega
          · go_wp2
            go_roundw
            case rel => exact ⟨j+1, by omega, by go_num, hB4⟩
            case measure => simp [intOf]; omega
        · go_wp2
          go_roundw
          case rel => exact ⟨k+1, by omega, by go_num, hB⟩
          case measure => simp [intOf]; omega
    · clear hrd
      go_wp2
      go_loopw [7] (fun i wr => ∃ k : Nat, k ≤ 65536 ∧ i = .int .i64 k ∧ Below w1.heap.size w1 wr) (fun i _ => upTo 65536 i)
      case atStart => exact ⟨0, by omega, rfl, hB⟩
      case round => as_aux_lemma =>
        clear hB
        obtain ⟨n, hn, rfl, hB⟩ := hrel
        by_cases hlt : n < 65536
        · have d1 : decide ((n : Int) < 65536) = true := by simp; omega
          have d2 : decide (n < 65536) = true := by simp [hlt]
          have hw : wrap64 ((n : Int) + 1) = (n : Int) + 1 := IntWalk.wrap64_in _ (by omega)
          have Hlt := Lib.hid (And.intro hlt hn)
          clear hlt hn
          obtain ⟨a, ha⟩ : ∃ a, (n : Int) / 256 % 256 = a := ⟨_, rfl⟩
          obtain ⟨b, hb⟩ : ∃ b, (n : Int) % 256 = b := ⟨_, rfl⟩
          obtain ⟨c, hc⟩ : ∃ c, (n : Int) % 7 = c := ⟨_, rfl⟩
          by_cases p1 : a < 128
          · have q1 : decide (a < 128) = true := by simp [p1]
            by_cases p2 : b < 128
            · have q2 : decide (b < 128) = true := by simp [p2]
              by_cases p3 : 0 < c
              · as_aux_lemma =>
                have q3 : decide (0 < c) = true := by simp [p3]
                go_wp2_with (fail)
                go_roundw
                case rel => exact ⟨n+1, by have := Hlt.out; omega, by have := Hlt.out; go_num, hB⟩
                case measure => exact upTo_lt _ _ _ Hlt.out.1 (by first | rfl | (have := Hlt.out.1; exact IntWalk.wrap64_in _ (by omega)))
              · as_aux_lemma =>
                have q3 : decide (0 < c) = false := by simp; omega
                go_wp2_with (fail)
                rw [hcv2]
                go_wp2_with (fail)
                go_at_call 24
                refine (small_alloc hC1 _ wr _ hB (by rw [strOfNums_size]; simp)).mono ?_
                rintro e w2 ⟨rfl, hB2⟩
                go_wp2_with (fail)
                rw [hcv3]
                go_wp2_with (fail)
                go_at_call 24
                refine (small_alloc hC1 _ w2 _ hB2 (by rw [strOfNums_size]; simp)).mono ?_
                rintro e w3 ⟨rfl, hB3⟩
                go_wp2_with (fail)
                rw [hcv4]
                go_wp2_with (fail)
                go_at_call 24
                refine (small_alloc hC1 _ w3 _ hB3 (by rw [strOfNums_size]; simp)).mono ?_
                rintro e w4 ⟨rfl, hB4⟩
                go_wp2_with (fail)
                rw [hcv3]
                go_wp2_with (fail)
                go_at_call 24
                refine (small_alloc hC1 _ w4 _ hB4 (by rw [strOfNums_size]; simp)).mono ?_
                rintro e w5 ⟨rfl, hB5⟩
                go_wp2
                go_roundw
                case rel => exact ⟨n+1, by have := Hlt.out; omega, by have := Hlt.out; go_num, hB5⟩
                case measure => exact upTo_lt _ _ _ Hlt.out.1 (by first | rfl | (have := Hlt.out.1; exact IntWalk.wrap64_in _ (by omega)))
            · as_aux_lemma =>
              have q2 : decide (b < 128) = false := by simp; omega
              go_wp2_with (fail)
              rw [hcv2]
              go_wp2_with (fail)
              go_at_call 24
              refine (small_alloc hC1 _ wr _ hB (by rw [strOfNums_size]; simp)).mono ?_
              rintro e w2 ⟨rfl, hB2⟩
              go_wp2_with (fail)
              rw [hcv3]
              go_wp2_with (fail)
              go_at_call 24
              refine (small_alloc hC1 _ w2 _ hB2 (by rw [strOfNums_size]; simp)).mono ?_
              rintro e w3 ⟨rfl, hB3⟩
              go_wp2_with (fail)
              rw [hcv4]
              go_wp2_with (fail)
              go_at_call 24
              refine (small_alloc hC1 _ w3 _ hB3 (by rw [strOfNums_size]; simp)).mono ?_
              rintro e w4 ⟨rfl, hB4⟩
              go_wp2_with (fail)
              rw [hcv3]
              go_wp2_with (fail)
              go_at_call 24
              refine (small_alloc hC1 _ w4 _ hB4 (by rw [strOfNums_size]; simp)).mono ?_
              rintro e w5 ⟨rfl, hB5⟩
              go_wp2
              go_roundw
              case rel => exact ⟨n+1, by have := Hlt.out; omega, by have := Hlt.out; go_num, hB5⟩
              case measure => exact upTo_lt _ _ _ Hlt.out.1 (by first | rfl | (have := Hlt.out.1; exact IntWalk.wrap64_in _ (by omega)))
          · as_aux_lemma =>
            have q1 : decide (a < 128) = false := by simp; omega
            go_wp2_with (fail)
            rw [hcv2]
            go_wp2_with (fail)
            go_at_call 24
            refine (small_alloc hC1 _ wr _ hB (by rw [strOfNums_size]; simp)).mono ?_
            rintro e w2 ⟨rfl, hB2⟩
            go_wp2_with (fail)
            rw [hcv3]
            go_wp2_with (fail)
            go_at_call 24
            refine (small_alloc hC1 _ w2 _ hB2 (by rw [strOfNums_size]; simp)).mono ?_
            rintro e w3 ⟨rfl, hB3⟩
            go_wp2_with (fail)
            rw [hcv4]
            go_wp2_with (fail)
            go_at_call 24
            refine (small_alloc hC1 _ w3 _ hB3 (by rw [strOfNums_size]; simp)).mono ?_
            rintro e w4 ⟨rfl, hB4⟩
            go_wp2_with (fail)
            rw [hcv3]
            go_wp2_with (fail)
            go_at_call 24
            refine (small_alloc hC1 _ w4 _ hB4 (by rw [strOfNums_size]; simp)).mono ?_
            rintro e w5 ⟨rfl, hB5⟩
            go_wp2
            go_roundw
            case rel => exact ⟨n+1, by have := Hlt.out; omega, by have := Hlt.out; go_num, hB5⟩
            case measure => exact upTo_lt _ _ _ Hlt.out.1 (by first | rfl | (have := Hlt.out.1; exact IntWalk.wrap64_in _ (by omega)))
        · have hB00 := hB0
          have d1 : decide ((n : Int) < 65536) = false := by simp; omega
          have d2 : decide (n < 65536) = false := by simp; omega
          clear hB0 hlt hn
          go_wp2_with (fail)
          go_loopw [10] (fun i wr => ∃ k : Nat, k ≤ 256 ∧ i = .int .i64 k ∧ Below w1.heap.size w1 wr) (fun i _ => upTo 256 i)
          case atStart => exact ⟨0, by omega, rfl, hB⟩
          case round => as_aux_lemma =>
            clear hB
            obtain ⟨m, hm, rfl, hB⟩ := hrel
            by_cases hlt2 : m < 256
            · as_aux_lemma =>
              have d1 : decide ((m : Int) < 256) = true := by simp; omega
              have d2 : decide (m < 256) = true := by simp [hlt2]
              have hw : wrap64 ((m : Int) + 1) = (m : Int) + 1 := IntWalk.wrap64_in _ (by omega)
              have hy : (m : Int) % 256 = (m : Int) := by omega
              have Hlt := Lib.hid (And.intro hlt2 hm)
              have z1 : (ByteArray.mk #[97]).size = 1 := rfl
              have z2 : (ByteArray.mk #[97, 45]).size = 2 := rfl
              have z3 : (ByteArray.mk #[97, 45, 49]).size = 3 := rfl
              have z4 : (ByteArray.mk #[98]).size = 1 := rfl
              have z5 : (ByteArray.mk #[65, 45]).size = 2 := rfl
              have z6 : (ByteArray.mk #[45, 122]).size = 2 := rfl
              have H1 := Lib.hid (And.intro z1 (And.intro z2 (And.intro z3 (And.intro z4 (And.intro z5 z6)))))
              clear hlt2 hm z1 z2 z3 z4 z5 z6
              go_wp2_with (fail)
              rw [hcv1]
              have ht : (strOfNums [(m : Int)]).size = 1 := by rw [strOfNums_size]; rfl
              have Ht := Lib.hid ht
              clear ht
              generalize strOfNums [(m : Int)] = t at Ht ⊢
              have t1 : 1 ≤ t.size := by have := Ht.out; omega
              have t2 : t.size ≤ 4 := by have := Ht.out; omega
              have hBa := hB.alloc hB.size (.cells #[.int .u8 (m : Int)] 5)
              go_wp2_with (fail)
              go_at_call 5
              refine (reads_ok hC1 _ _ hBa (by have := Ht.out; omega)).mono ?_
              rintro e w2 ⟨rfl, hB2⟩
              clear hBa
              go_wp2_with (fail)
              go_at_call 5
              refine (reads_ok hC1 _ _ hB2 (by have := Ht.out; obtain ⟨z1, z2, z3, z4, z5, z6⟩ := H1.out; rw [ByteArray.size_append]; omega)).mono ?_
              rintro e w3 ⟨rfl, hB3⟩
              clear hB2
              go_wp2_with (fail)
              go_at_call 5
              refine (reads_ok hC1 _ _ hB3 (by have := Ht.out; obtain ⟨z1, z2, z3, z4, z5, z6⟩ := H1.out; rw [ByteArray.size_append]; omega)).mono ?_
              rintro e w4 ⟨rfl, hB4⟩
              clear hB3
              go_wp2_with (fail)
              go_at_call 5
              refine (reads_ok hC1 _ _ hB4 (by have := Ht.out; obtain ⟨z1, z2, z3, z4, z5, z6⟩ := H1.out; rw [ByteArray.size_append, ByteArray.size_append]; omega)).mono ?_
              rintro e w5 ⟨rfl, hB5⟩
              clear hB4
              go_wp2_with (fail)
              go_at_call 5
              refine (reads_ok hC1 _ _ hB5 (by have := Ht.out; obtain ⟨z1, z2, z3, z4, z5, z6⟩ := H1.out; rw [ByteArray.size_append, ByteArray.size_append]; omega)).mono ?_
              rintro e w6 ⟨rfl, hB6⟩
              clear hB5
              go_wp2_with (fail)
              go_at_call 3
              refine (writes_ok hC1 [(m : Int)] 1 rfl w6 _ hB6 (Rd.of_block (heap_alloc_new w6 _) rfl) (by simp) _).mono ?_
              rintro e w7 ⟨rfl, hB7⟩
              clear hB6
              go_wp2
              go_roundw
              case rel => exact ⟨m+1, by have := Hlt.out; omega, by have := Hlt.out; go_num, hB7⟩
              case measure => exact upTo_lt _ _ _ Hlt.out.1 (by first | rfl | (have := Hlt.out.1; exact IntWalk.wrap64_in _ (by omega)))
            · as_aux_lemma =>
              have d1 : decide ((m : Int) < 256) = false := by simp; omega
              have d2 : decide (m < 256) = false := by simp; omega
              clear hlt2 hm
              go_wp2_with (fail)
              go_at_call 5
              refine (reads_ok hC1 _ _ hB (by decide)).mono ?_
              rintro e w2 ⟨rfl, hB2⟩
              go_wp2_with (fail)
              go_at_call 8
              refine (awake_ok hC1 _ hB2).mono ?_
              rintro e w3 ⟨rfl, hB3⟩
              go_wp2
              go_ret
              exact ⟨rfl, hB00.trans (hB3.mono hB00.size)⟩
end Go.Proofs.YtdplnlbplgmijaaDoor
