/- Layer 9's laws, walked: LexEnds. -/
import Derived.Test.YtjigcembbigbnaaDoorJLaw09b
import Derived.Laws.BytesArg
namespace Go.Proofs.YtjigcembbigbnaaDoor
open Go Go.RowKit Um Lx

/-- The texts put so far. -/
def EndsI (w : World) (n : Nat) (v : Value) (wr : World) : Prop := ∃ L : List ByteArray, L.length = n ∧ (∀ s ∈ L, s.size ≤ 1000) ∧ wr.ownsRow w.heap.size 9 1 v n (L.map Value.string) ∧ Below w.heap.size w wr
def ends16 : List ByteArray := [⟨#[194, 183]⟩, ⟨#[195, 169]⟩, ⟨#[226, 130, 172]⟩, ⟨#[240, 159, 152, 128]⟩, ⟨#[237, 160, 128]⟩, ⟨#[195, 151]⟩, ⟨#[94, 94]⟩, ⟨#[95, 58]⟩, ⟨#[95, 58, 98]⟩, ⟨#[64, 101, 110, 45]⟩, ⟨#[64, 101, 110, 45, 49]⟩, ⟨#[60, 98, 62]⟩, ⟨#[34, 98, 34]⟩, ⟨#[35]⟩, ⟨#[92, 117, 48, 48, 52, 49]⟩, ⟨#[92, 110]⟩]
def digs13 : List ByteArray := [⟨#[48, 48, 48, 48]⟩, ⟨#[48, 48, 52, 49]⟩, ⟨#[48, 48, 101, 57]⟩, ⟨#[48, 48, 69, 57]⟩, ⟨#[100, 55, 102, 102]⟩, ⟨#[68, 56, 48, 48]⟩, ⟨#[100, 102, 102, 102]⟩, ⟨#[69, 48, 48, 48]⟩, ⟨#[102, 102, 102, 102]⟩, ⟨#[48, 48, 48, 103]⟩, ⟨#[45, 48, 52, 49]⟩, ⟨#[43, 48, 52, 49]⟩, ⟨#[48, 95, 52, 49]⟩]
theorem strInfo9 : (Tryd.prog.info? 9).map (fun i => (i.zero, i.size, i.bytes)) = some (some (.string ⟨#[]⟩), 1, 16) := by kernel_rfl
theorem ends16_sz : ∀ s ∈ ends16, s.size ≤ 1000 := by decide
theorem digs13_sz : ∀ s ∈ digs13, s.size = 4 := by decide
theorem strs1 (l : List ByteArray) : ∀ u ∈ l.map Value.string, u.oneCell' = true := by
  intro u hu
  obtain ⟨s, _, rfl⟩ := List.mem_map.1 hu
  rfl
theorem sz2 (x s : ByteArray) (hx : x.size ≤ 1000) (hs : s.size ≤ 1000) : (x ++ s).size ≤ 1000000 := by rw [ByteArray.size_append]; omega
theorem sz3 (x s y : ByteArray) (hx : x.size ≤ 1000) (hs : s.size ≤ 1000) (hy : y.size ≤ 1000) : (x ++ s ++ y).size ≤ 1000000 := by rw [ByteArray.size_append, ByteArray.size_append]; omega
theorem sz4 (x s d y : ByteArray) (hx : x.size ≤ 1000) (hs : s.size ≤ 1000) (hd : d.size ≤ 1000) (hy : y.size ≤ 1000) : (x ++ s ++ d ++ y).size ≤ 1000000 := by rw [ByteArray.size_append, ByteArray.size_append, ByteArray.size_append]; omega
theorem ext_sz (s : ByteArray) (a b : Nat) : (s.extract a b).size ≤ s.size := by rw [ByteArray.size_extract]; omega
theorem conv1 (wr : World) (k : Nat) : (convert 25 9 (.slice (some ⟨wr.heap.size, 0, none⟩) 1 1)).run Tryd.prog (wr.alloc (.cells #[.int .u8 k] 5)) = .ok (.string (strOfNums [(k : Int)])) (wr.alloc (.cells #[.int .u8 k] 5)) :=
  run_convert_bytes_arg _ _ 5 Tryd.underlying25 Tryd.underlying5 wr.heap.size 0 1 1 [(k : Int)] rfl (by
    intro i hi
    obtain rfl : i = 0 := by omega
    show (wr.alloc _).cell? ⟨wr.heap.size, 0 + 0, none⟩ = _
    rw [World.cell?, heap_alloc_new]
    rfl) _ Tryd.underlying9
theorem rd_new (w : World) (cs : Array Value) (T : TypeId) (xs : List Value) (h : cs.toList = xs) : Rd (w.alloc (.cells cs T)) (some ⟨w.heap.size, 0, none⟩) xs := Rd.of_block (heap_alloc_new w _) h
set_option maxRecDepth 10000 in
set_option maxHeartbeats 16000000 in
theorem lawLexEnds (w : World) (hC : CtxL w) : Calls Tryd.prog 4 #[] w fun e w' => e = .returned (.bool true) ∧ Below w.heap.size w w' := by
  have HC := Lib.hid hC
  clear hC
  go_enter Tryd.func4, Tryd.ntmps4
  go_wp2
  go_loopw [1, 2] (fun v i wr => ∃ k : Nat, k ≤ 256 ∧ i = .int .i64 k ∧ ∃ A c, v = .slice A k c ∧ EndsI w k v wr) (fun _ i _ => 256 - (intOf i).toNat)
  case atStart => exact ⟨0, by omega, rfl, none, 0, rfl, [], rfl, by simp, World.ownsRow_nil _ _ _ _, Below.refl _ _⟩
  case round =>
    obtain ⟨k, hk, rfl, A, c, rfl, L, hL, hLs, hown, hB⟩ := hrel
    by_cases hlt : k < 256
    · have hd1 : decide (k < 256) = true := by simp; omega
      have HL := Lib.hid (And.intro hL (And.intro hLs (And.intro hown hB)))
      have hcv := conv1 wr k
      have Hown : Hid (((wr.alloc (.cells #[.int .u8 k] 5)).alloc (.cells #[.string (strOfNums [(k : Int)])] 9)).ownsRow w.heap.size 9 1 (.slice A k c) k (L.map Value.string)) := (hown.alloc _).alloc _
      have HBN : Hid (Below w.heap.size w ((wr.alloc (.cells #[.int .u8 k] 5)).alloc (.cells #[.string (strOfNums [(k : Int)])] 9))) := (hB.alloc hB.size _).alloc (by have := hB.size; simp; omega) _
      have hz := hB.size
      clear hL hLs hown hB
      go_wp2_with (at_builtin; refine wpList_app (m := 1) rfl rfl Tryd.underlying24 strInfo9 rfl (by omega) rfl Hown.out rfl (rd_two' _ _ #[.string (strOfNums [(k : Int)])] _ ([strOfNums [(k : Int)]].map Value.string) rfl) rfl (strs1 _) (by omega) (by omega) (by simp; omega) ?_; intro v5 w5 own5 hb5; obtain ⟨A5, c5, rfl, _, _⟩ := own_slice own5; have Own5 := Lib.hid own5; have HB5 := Lib.hid (HBN.out.trans hb5); clear own5 hb5)
      go_roundw
      case rel =>
        refine ⟨k + 1, by omega, by go_num, A5, c5, rfl, L ++ [strOfNums [(k : Int)]], by rw [List.length_append, HL.out.1]; rfl, ?_, by rw [List.map_append]; exact Own5.out, HB5.out⟩
        intro s hs
        rcases List.mem_append.1 hs with h | h
        · exact HL.out.2.1 s h
        · obtain rfl := List.mem_singleton.1 h
          exact (by simp [strOfNums, ByteArray.size] : (strOfNums [(k : Int)]).size ≤ 1000)
      case measure => simp [intOf]; omega
    · obtain rfl : k = 256 := by omega
      have HL := Lib.hid (And.intro hL (And.intro hLs (And.intro hown hB)))
      have Hown : Hid ((wr.alloc (.cells #[.string ⟨#[194, 183]⟩, .string ⟨#[195, 169]⟩, .string ⟨#[226, 130, 172]⟩, .string ⟨#[240, 159, 152, 128]⟩, .string ⟨#[237, 160, 128]⟩, .string ⟨#[195, 151]⟩, .string ⟨#[94, 94]⟩, .string ⟨#[95, 58]⟩, .string ⟨#[95, 58, 98]⟩, .string ⟨#[64, 101, 110, 45]⟩, .string ⟨#[64, 101, 110, 45, 49]⟩, .string ⟨#[60, 98, 62]⟩, .string ⟨#[34, 98, 34]⟩, .string ⟨#[35]⟩, .string ⟨#[92, 117, 48, 48, 52, 49]⟩, .string ⟨#[92, 110]⟩] 9)).ownsRow w.heap.size 9 1 (.slice A 256 c) 256 (L.map Value.string)) := hown.alloc _
      have HBN : Hid (Below w.heap.size w (wr.alloc (.cells #[.string ⟨#[194, 183]⟩, .string ⟨#[195, 169]⟩, .string ⟨#[226, 130, 172]⟩, .string ⟨#[240, 159, 152, 128]⟩, .string ⟨#[237, 160, 128]⟩, .string ⟨#[195, 151]⟩, .string ⟨#[94, 94]⟩, .string ⟨#[95, 58]⟩, .string ⟨#[95, 58, 98]⟩, .string ⟨#[64, 101, 110, 45]⟩, .string ⟨#[64, 101, 110, 45, 49]⟩, .string ⟨#[60, 98, 62]⟩, .string ⟨#[34, 98, 34]⟩, .string ⟨#[35]⟩, .string ⟨#[92, 117, 48, 48, 52, 49]⟩, .string ⟨#[92, 110]⟩] 9))) := hB.alloc hB.size _
      have hz := hB.size
      clear hL hLs hown hB hlt hk
      go_wp2_with (at_builtin; refine wpList_app (m := 16) rfl rfl Tryd.underlying24 strInfo9 rfl (by omega) rfl Hown.out rfl (rd_new _ _ _ (ends16.map Value.string) rfl) rfl (strs1 _) (by omega) (by omega) (by simp; omega) ?_; intro v5 w5 own5 hb5; obtain ⟨A5, c5, rfl, _, hr5⟩ := own_slice own5; have HR5 := Lib.hid hr5; have HB5 := Lib.hid (HBN.out.trans hb5); clear own5 hb5 hr5)
      have HLs : Hid (∃ M : List ByteArray, M.length = 272 ∧ (∀ s ∈ M, s.size ≤ 1000) ∧ Rd w5 A5 (M.map Value.string)) := by
        refine ⟨L ++ ends16, by rw [List.length_append, HL.out.1]; rfl, ?_, by rw [List.map_append]; exact HR5.out⟩
        intro s hs
        rcases List.mem_append.1 hs with h | h
        · exact HL.out.2.1 s h
        · exact ends16_sz s h
      obtain ⟨M, hM, hMs, hMr⟩ := HLs.out
      have HM := Lib.hid (And.intro hM (And.intro hMs hMr))
      have HC5 := Lib.hid (HC.out.step HB5.out)
      clear hM hMs hMr HLs HR5 HL Hown HBN hz
      go_loopw [3] (fun i wr => ∃ j : Nat, j ≤ 272 ∧ i = .int .i64 j ∧ Below w5.heap.size w5 wr) (fun i _ => 272 - (intOf i).toNat)
      case atStart => exact ⟨0, by omega, rfl, Below.refl _ _⟩
      case round =>
        obtain ⟨j, hj, rfl, hB⟩ := hrel
        by_cases hlt : j < 272
        · have hd1 : decide (j < 272) = true := by simp; omega
          obtain ⟨s, hs⟩ : ∃ s, M[j]? = some s := ⟨_, List.getElem?_eq_getElem (by rw [HM.out.1]; exact hlt)⟩
          have hsz : s.size ≤ 1000 := HM.out.2.1 s (List.mem_of_getElem? hs)
          obtain ⟨g, o, rfl, a1⟩ := (HM.out.2.2.later hB).at_ (u := .string s) (j := j) (by rw [List.getElem?_map, hs]; rfl)
          have HX := Lib.hid (And.intro (HC5.out.step hB) hB)
          clear hs hB
          go_wp2_with (go_at_call 8; refine (lawTells _ _ HX.out.1 (by first | exact sz3 _ _ _ (by decide) hsz (by decide) | exact sz2 _ _ (by decide) hsz | exact Nat.le_trans hsz (by decide))).mono ?_; rintro e wn ⟨rfl, hbn⟩; have hx := And.intro (HX.out.1.step hbn) (below_tr HX.out.2 hbn); clear HX; have HX := Lib.hid hx; clear hx hbn)
          go_roundw
          case rel => exact ⟨j + 1, by omega, by go_num, HX.out.2⟩
          case measure => simp [intOf]; omega
        · obtain rfl : j = 272 := by omega
          rw [show ((272 : Nat) : Int) = 272 from rfl]
          have HX := Lib.hid (And.intro (HC5.out.step hB) hB)
          have hrd : Rd (wr.alloc (.cells #[.string ⟨#[48, 48, 48, 48]⟩, .string ⟨#[48, 48, 52, 49]⟩, .string ⟨#[48, 48, 101, 57]⟩, .string ⟨#[48, 48, 69, 57]⟩, .string ⟨#[100, 55, 102, 102]⟩, .string ⟨#[68, 56, 48, 48]⟩, .string ⟨#[100, 102, 102, 102]⟩, .string ⟨#[69, 48, 48, 48]⟩, .string ⟨#[102, 102, 102, 102]⟩, .string ⟨#[48, 48, 48, 103]⟩, .string ⟨#[45, 48, 52, 49]⟩, .string ⟨#[43, 48, 52, 49]⟩, .string ⟨#[48, 95, 52, 49]⟩] 9)) (some ⟨wr.heap.size, 0, none⟩) (digs13.map Value.string) := rd_new _ _ _ _ rfl
          have hBa : Below w5.heap.size w5 (wr.alloc (.cells #[.string ⟨#[48, 48, 48, 48]⟩, .string ⟨#[48, 48, 52, 49]⟩, .string ⟨#[48, 48, 101, 57]⟩, .string ⟨#[48, 48, 69, 57]⟩, .string ⟨#[100, 55, 102, 102]⟩, .string ⟨#[68, 56, 48, 48]⟩, .string ⟨#[100, 102, 102, 102]⟩, .string ⟨#[69, 48, 48, 48]⟩, .string ⟨#[102, 102, 102, 102]⟩, .string ⟨#[48, 48, 48, 103]⟩, .string ⟨#[45, 48, 52, 49]⟩, .string ⟨#[43, 48, 52, 49]⟩, .string ⟨#[48, 95, 52, 49]⟩] 9)) := hB.alloc hB.size _
          obtain ⟨W3, hW3⟩ : ∃ W, wr.alloc (.cells #[.string ⟨#[48, 48, 48, 48]⟩, .string ⟨#[48, 48, 52, 49]⟩, .string ⟨#[48, 48, 101, 57]⟩, .string ⟨#[48, 48, 69, 57]⟩, .string ⟨#[100, 55, 102, 102]⟩, .string ⟨#[68, 56, 48, 48]⟩, .string ⟨#[100, 102, 102, 102]⟩, .string ⟨#[69, 48, 48, 48]⟩, .string ⟨#[102, 102, 102, 102]⟩, .string ⟨#[48, 48, 48, 103]⟩, .string ⟨#[45, 48, 52, 49]⟩, .string ⟨#[43, 48, 52, 49]⟩, .string ⟨#[48, 95, 52, 49]⟩] 9) = W := ⟨_, rfl⟩
          rw [hW3] at hrd hBa
          have HD := Lib.hid hrd
          have HX3 := Lib.hid (And.intro (HC5.out.step hBa) hBa)
          clear hrd hBa hB hj hlt
          go_wp2_with fail
          have HW3 := Lib.hid hW3
          clear hW3
          go_loopw [6] (fun i wr => ∃ j : Nat, j ≤ 13 ∧ i = .int .i64 j ∧ Below W3.heap.size W3 wr) (fun i _ => 13 - (intOf i).toNat)
          case atStart => exact ⟨0, by omega, rfl, Below.refl _ _⟩
          case round =>
            obtain ⟨j, hj, rfl, hB⟩ := hrel
            by_cases hlt : j < 13
            · have hd1 : decide ((j : Int) < 13) = true := by simp; omega
              obtain ⟨wj, rfl⟩ : ∃ wj, wj = wr := ⟨_, rfl⟩
              obtain ⟨s, hs⟩ : ∃ s, digs13[j]? = some s := ⟨_, List.getElem?_eq_getElem (by show j < 13; exact hlt)⟩
              have hsz : s.size = 4 := digs13_sz s (List.mem_of_getElem? hs)
              have HRD : Hid (Rd W3 (some ⟨wr.heap.size, 0, none⟩) (digs13.map Value.string)) := HD.out
              have HS : Hid (digs13[j]? = some s) := hs
              have HBj := Lib.hid hB
              clear hs hB
              go_wp2
              clear hd1
              go_loopw [7] (fun i wx => ∃ k : Nat, k ≤ 5 ∧ i = .int .i64 k ∧ Below W3.heap.size W3 wx) (fun i _ => 5 - (intOf i).toNat)
              case atStart => exact ⟨0, by omega, rfl, HBj.out⟩
              case round =>
                obtain ⟨k, hk, rfl, hB⟩ := hrel
                by_cases hlk : k < 5
                · have hd2 : decide (k < 5) = true := by simp; omega
                  obtain ⟨wk, rfl⟩ : ∃ wk, wk = wr := ⟨_, rfl⟩
                  obtain ⟨g, o, he, a1⟩ := (HRD.out.later hB).at_ (u := .string s) (j := j) (by rw [List.getElem?_map, HS.out]; rfl)
                  cases he
                  rw [Nat.zero_add] at a1
                  have HX := Lib.hid (And.intro (HX3.out.1.step hB) hB)
                  obtain ⟨d, hd⟩ : ∃ d, s.extract 0 (max (4 - (k : Int)) 0).toNat = d := ⟨_, rfl⟩
                  have hdz : d.size ≤ 1000 := by rw [← hd, ByteArray.size_extract]; omega
                  clear hB
                  go_wp2_with (go_at_call 8; refine (lawTells _ _ HX.out.1 (by first | exact sz3 _ _ _ (by decide) hdz (by decide) | exact sz4 _ _ _ _ (by decide) hdz (by omega) (by decide))).mono ?_; rintro e wn ⟨rfl, hbn⟩; have hx := And.intro (HX.out.1.step hbn) (below_tr HX.out.2 hbn); clear HX; clear a1; obtain ⟨g, o, he, a1⟩ := (HRD.out.later hx.2).at_ (u := .string s) (j := j) (by rw [List.getElem?_map, HS.out]; rfl); cases he; rw [Nat.zero_add] at a1; have HX := Lib.hid hx; clear hx hbn)
                  go_roundw
                  case rel => exact ⟨k + 1, by omega, by go_num, HX.out.2⟩
                  case measure => simp [intOf]; omega
                · obtain rfl : k = 5 := by omega
                  have HBk := Lib.hid hB
                  clear hB hlk hk
                  go_wp2
                  go_roundw
                  case rel => exact ⟨j + 1, by omega, by go_num, HBk.out⟩
                  case measure => simp [intOf]; omega
            · obtain rfl : j = 13 := by omega
              rw [show ((13 : Nat) : Int) = 13 from rfl]
              obtain ⟨wq, rfl⟩ : ∃ wq, wq = wr := ⟨_, rfl⟩
              have HX4 := Lib.hid (And.intro (HX3.out.1.step hB) (below_tr HX3.out.2 hB))
              clear hB hlt hj
              go_wp2
              go_loopw [10] (fun i wr => ∃ j : Nat, j ≤ 40 ∧ i = .int .i64 j ∧ Below wq.heap.size wq wr) (fun i _ => 40 - (intOf i).toNat)
              case atStart => exact ⟨0, by omega, rfl, Below.refl _ _⟩
              case round =>
                obtain ⟨j, hj, rfl, hB⟩ := hrel
                have HX := Lib.hid (And.intro (HX4.out.1.step hB) hB)
                clear hB
                by_cases hlt : j < 40
                · have hd1 : decide (j ≤ 39) = true := by simp; omega
                  have hj2 : j ≤ 39 := by omega
                  go_wp2_with (go_at_call 8; refine (lawTells _ _ HX.out.1 (by exact Nat.le_trans (ext_sz _ _ _) (by decide))).mono ?_; rintro e wn ⟨rfl, hbn⟩; have hx := And.intro (HX.out.1.step hbn) (below_tr HX.out.2 hbn); clear HX; have HX := Lib.hid hx; clear hx hbn)
                  go_roundw
                  case rel => exact ⟨j + 1, by omega, by go_num, HX.out.2⟩
                  case measure => simp [intOf]; omega
                · obtain rfl : j = 40 := by omega
                  clear hlt hj
                  go_wp2_with (go_at_call 7; refine (lawAwake9 _ HX.out.1).mono ?_; rintro e wn ⟨rfl, hbn⟩)
                  go_ret
                  exact ⟨rfl, below_tr HB5.out (below_tr HX4.out.2 (below_tr HX.out.2 hbn))⟩
end Go.Proofs.YtjigcembbigbnaaDoor
