/- The program's package utf, walked: at, next, Signs, Text. -/
import Derived.Test.YtjigcembbigbnaaDoorJUtfProg3
import Derived.Test.YtjigcembbigbnaaDoorJUtfProg2b
import Derived.Test.YtjigcembbigbnaaDoorJUtfRef2
namespace Go.Proofs.YtjigcembbigbnaaDoor
open Go Go.RowKit Um
set_option maxHeartbeats 2000000 in
theorem utfSigns (s : ByteArray) (w : World) (hC : Ctx w) (hs : s.size ≤ 1000000) :
    Calls Tryd.prog 10 #[.string s] w fun e w' => ∃ v n, e = .returned (.tuple #[v, .int .i64 (sigR s.data.toList).2.1, .int .i64 (sigR s.data.toList).2.2]) ∧
      w'.ownsRow w.heap.size 3 1 v n ((sigR s.data.toList).1.map (Value.int .i64)) ∧ Below w.heap.size w w' := by
  go_enter Tryd.func10, Tryd.ntmps10
  go_wp2
  go_loopw [2] (fun v wr => ∃ k n : Nat, ∃ acc : List Int, k ≤ s.size ∧ n ≤ k ∧ CurAt wr w.heap.size s k ∧ wr.ownsRow (w.heap.size + 1) 3 1 v n (acc.map (Value.int .i64)) ∧ Below w.heap.size w wr ∧ w.heap.size + 1 ≤ wr.heap.size ∧ Hid (sgRest s.data.toList k acc)) (fun _ wr => s.size - (intOf ((wr.cell? ⟨w.heap.size, 1, none⟩).getD undef)).toNat)
  case atStart => exact ⟨0, 0, [], by omega, by omega, heap_alloc_new w _, by simpa using World.ownsRow_nil _ _ _ _, (Below.refl _ _).alloc (Nat.le_refl _) _, by simp, sgRest_start _⟩
  case round =>
    obtain ⟨k, n, acc, hk, hnk, hcu, hown, hB, hsz1, H⟩ := hrel
    have hsz : s.data.toList.length = s.size := size_toList s
    have f0 := hcu.c0
    have f1 := hcu.c1
    by_cases hlt : k < s.size
    · have hnx := fun W h1 h2 => curNext s k w.heap.size W h1 h2 hk (Nat.le_trans hs (by decide))
      have hCr := hC.step hB
      by_cases h0 : (nx (from_ s k)).2 = 0
      · have hres := Lib.hid (sgRest_bad H.out (by rw [hsz]; exact hlt) h0)
        rw [h0] at hnx
        clear hsz
        generalize (nx (from_ s k)).1 = x at hnx
        go_wp2_with (go_at_call 17; refine (hnx _ ?_ ?_).mono ?_; exact hCr; exact hcu; rintro e w1 ⟨rfl, hg1, hc1⟩)
        have f2 := hc1.c1
        have f3 := hc1.c0
        have hB1 := below_grown hB hg1 (by omega) (Nat.le_refl _)
        go_quiet (fail)
        go_wp2
        go_ret3
        refine ⟨_, 0, by rw [hres.out]; rfl, ?_, hB1.trans ⟨rfl, rfl, rfl, Nat.le_refl _, fun _ _ => rfl⟩⟩
        rw [hres.out]
        simpa using World.ownsRow_nil _ _ _ _
      · have hres := Lib.hid (sgRest_go H.out (by rw [hsz]; exact hlt) h0)
        obtain ⟨h1, h2, h3⟩ := nx_step s k h0
        clear hsz
        have hpos : decide (0 < (nx (from_ s k)).2) = true := by simp; omega
        rw [hpos] at hnx
        clear hpos
        generalize (nx (from_ s k)).1 = x at hnx h3 hres
        generalize (nx (from_ s k)).2 = d at hnx h0 h1 h2 hres
        go_wp2_with (first
          | (go_at_call 17; refine (hnx _ ?_ ?_).mono ?_; exact hCr; exact hcu; rintro e w1 ⟨rfl, hg1, hc1⟩; have hown1 := own_grown hown hg1 (by omega); have hB1 := below_grown hB hg1 (by omega) (Nat.le_refl _); have hz1 : wr.heap.size ≤ w1.heap.size := hg1.size)
          | (at_builtin; refine wpList_app rfl rfl Tryd.underlying30 intInfo rfl (by omega) rfl (hown1.alloc _) rfl (Rd.of_block (heap_alloc_new w1 _) rfl) rfl (ints_oneCell _ [(x : Int)]) (by omega) (by omega) (by simp; omega) ?_; intro v2 w2 hown2 hb2))
        have hcu2 := (show CurAt (w1.alloc (.cells #[.int .i64 x] 3)) w.heap.size s (k + d) from (Below.heap_alloc w1 _ _ (by omega)).trans hc1).keep hb2 (by omega)
        go_roundw
        case rel =>
          refine ⟨k+d, n+1, acc ++ [(x : Int)], by omega, by omega, hcu2, by simpa using hown2, (hB1.alloc hB1.size _).trans (hb2.mono (by omega)), by have := hb2.size; simp at this; omega, hres.out⟩
        case measure =>
          have e1 := hcu2.c1
          have e2 := hcu.c1
          simp only [e1, e2]
          simp [intOf]; omega
    · have hkl : k = s.size := by omega
      have hres := Lib.hid (sgRest_end H.out (by rw [hsz]; omega))
      clear hkl hsz
      go_wp2
      go_ret3
      refine ⟨_, n, by rw [hres.out]; rfl, ?_, hB⟩
      rw [hres.out]
      exact ⟨hown.1, hown.2.imp id fun ⟨g, cap, cur, h1, h2, h3⟩ => ⟨g, cap, cur, h1, by omega, h3⟩⟩
end Go.Proofs.YtjigcembbigbnaaDoor
