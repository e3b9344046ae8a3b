/- Layer 25's closed law, walked: FilterSmall. -/
import Derived.Test.YtfijpdmkdoccjaaGreatDoorJSmE
import Derived.Test.YtfijpdmkdoccjaaGreatDoorJLaw25s
import Derived.Test.YtfijpdmkdoccjaaGreatDoorJLaw25e
namespace Go.Proofs.YtfijpdmkdoccjaaGreatDoor
open Go Go.RowKit Go.Maps Go.ChangeMaps Fm Um Mt
def names4 : List ByteArray := [⟨#[120]⟩, ⟨#[121]⟩, ⟨#[120]⟩, ⟨#[122]⟩]
theorem RdTs.dropk {w : World} {g o : Nat} {l : List Tm} (h : RdTs w (some ⟨g, o, none⟩) l) (k : Nat) : RdTs w (some ⟨g, o + k * 4, none⟩) (l.drop k) := by
  obtain ⟨xs, h2, h4⟩ := h
  refine ⟨xs.drop (k * 4), ?_, h4.drop k⟩
  rcases h2 with rfl | ⟨g', o', he, hc⟩
  · exact .inl (by simp)
  · injection he with he; injection he with h5 h6; subst h5; subst h6
    refine .inr ⟨g, o + k * 4, rfl, fun j u hu => ?_⟩
    rw [List.getElem?_drop] at hu
    rw [Nat.add_assoc]
    exact hc _ u hu
theorem szT0 : szTu zTm := ⟨by decide, by decide, by decide⟩
theorem smV (X : World) (n : Nat) (k : Int) (s : ByteArray) (hs : s.size ≤ 1048576) : SmE (n + 1) X [.int .i64 k, .string s, .int .i64 0, .string ⟨#[]⟩, .string ⟨#[]⟩, .string ⟨#[]⟩, .slice none 0 0] := SmE.mk (t := zTm) (SmL.nil n X none) (Nat.le_refl 0) (by decide) hs szT0
theorem smT (X : World) (n : Nat) (k : Int) (t : Tm) (ht : szTu t) : SmE (n + 1) X [.int .i64 k, .string ⟨#[]⟩, .int .i64 t.k, .string t.x, .string t.l, .string t.y, .slice none 0 0] := SmE.mk (SmL.nil n X none) (Nat.le_refl 0) (by decide) (by decide) ht
theorem smK {n m : Nat} {X : World} {A : Option Addr} {k : Int} (h : SmL n X A m) (hm : m ≤ 1048576) : SmE (n + 1) X [.int .i64 k, .string ⟨#[]⟩, .int .i64 0, .string ⟨#[]⟩, .string ⟨#[]⟩, .string ⟨#[]⟩, .slice A m m] := SmE.mk (t := zTm) h (Nat.le_refl m) hm (by decide) szT0
/-- A fresh list of m small conditions. -/
def Lst (n m : Nat) (w0 : World) (s : Value) (wx : World) : Prop := ∃ g, s = .slice (some ⟨g, 0, none⟩) m m ∧ SmL n wx (some ⟨g, 0, none⟩) m ∧ Below w0.heap.size w0 wx
/-- A small condition in a new block. -/
def BxE (n : Nat) (w0 : World) (s : Value) (wx : World) : Prop := ∃ (b : Nat) (k : Int) (x : ByteArray) (t : Tm) (A : Option Addr) (m c : Nat), s = .pointer (some ⟨b, 0, none⟩) ∧
  wx.heap[b]? = some (.cells #[.int .i64 k, .string x, .int .i64 t.k, .string t.x, .string t.l, .string t.y, .slice A m c] 31 (0, 0)) ∧ SmE n wx [.int .i64 k, .string x, .int .i64 t.k, .string t.x, .string t.l, .string t.y, .slice A m c] ∧ Below w0.heap.size w0 wx
theorem cells7 {w : World} {b : Nat} {v0 v1 v2 v3 v4 v5 v6 : Value} {T : TypeId} (h : w.heap[b]? = some (.cells #[v0, v1, v2, v3, v4, v5, v6] T (0, 0))) :
    w.cell? ⟨b, 0, none⟩ = some v0 ∧ w.cell? ⟨b, 1, none⟩ = some v1 ∧ w.cell? ⟨b, 2, none⟩ = some v2 ∧ w.cell? ⟨b, 3, none⟩ = some v3 ∧ w.cell? ⟨b, 4, none⟩ = some v4 ∧ w.cell? ⟨b, 5, none⟩ = some v5 ∧ w.cell? ⟨b, 6, none⟩ = some v6 := by
  refine ⟨?_, ?_, ?_, ?_, ?_, ?_, ?_⟩ <;> (rw [World.cell?, h]; rfl)
theorem RdTs.take {w : World} {A : Option Addr} {l : List Tm} (h : RdTs w A l) (k : Nat) : RdTs w A (l.take k) := by
  obtain ⟨xs, h2, h4⟩ := h
  exact ⟨xs.take (k * 4), h2.take _, h4.take k⟩
theorem below_reset2 {B : Nat} {w : World} (h : B ≤ w.heap.size) (X Y K : Obj) : Below B ((w.alloc X).alloc K) ((w.alloc Y).alloc K) :=
  ⟨rfl, rfl, rfl, by simp, fun k hk => by rw [Below.heap_alloc _ _ _ (by simp; omega), Below.heap_alloc _ _ _ (by omega), Below.heap_alloc _ _ _ (by simp; omega), Below.heap_alloc _ _ _ (by omega)]⟩
theorem nest4 {n m1 m2 m3 m : Nat} {V : World} {K1 K2 K3 L : Array Value} {T : TypeId} (h1 : SmX n V K1.toList m1) (h2 : SmX n V K2.toList m2) (h3 : SmX n V K3.toList m3)
    (hL : ∀ X, Below V.heap.size V X → SmL n X (some ⟨V.heap.size, 0, none⟩) m1 → SmL n X (some ⟨V.heap.size + 1, 0, none⟩) m2 → SmL n X (some ⟨V.heap.size + 1 + 1, 0, none⟩) m3 → SmX (n + 1) X L.toList m) :
    SmL (n + 1) ((((V.alloc (.cells K1 T)).alloc (.cells K2 T)).alloc (.cells K3 T)).alloc (.cells L T)) (some ⟨V.heap.size + 1 + 1 + 1, 0, none⟩) m ∧
      Below V.heap.size V ((((V.alloc (.cells K1 T)).alloc (.cells K2 T)).alloc (.cells K3 T)).alloc (.cells L T)) := by
  have st : ∀ (W : World) (o : Obj), Below W.heap.size W (W.alloc o) := fun W o => (Below.refl _ _).alloc (Nat.le_refl _) _
  have sz : ∀ (W : World) (o : Obj), (W.alloc o).heap.size = W.heap.size + 1 := fun W o => by simp
  generalize hA : V.alloc (.cells K1 T) = A at *
  have a1 : SmL n A (some ⟨V.heap.size, 0, none⟩) m1 := hA ▸ smL_alloc h1
  have bA : Below V.heap.size V A := hA ▸ st _ _
  have sA : A.heap.size = V.heap.size + 1 := hA ▸ sz _ _
  generalize hB : A.alloc (.cells K2 T) = B at *
  have a2 : SmL n B (some ⟨V.heap.size + 1, 0, none⟩) m2 := sA ▸ hB ▸ smL_alloc (h2.later bA)
  have bB : Below A.heap.size A B := hB ▸ st _ _
  have sB : B.heap.size = V.heap.size + 1 + 1 := by rw [← hB, sz, sA]
  have bVB := below_tr bA bB
  generalize hC : B.alloc (.cells K3 T) = C at *
  have a3 : SmL n C (some ⟨V.heap.size + 1 + 1, 0, none⟩) m3 := sB ▸ hC ▸ smL_alloc (h3.later bVB)
  have bC : Below B.heap.size B C := hC ▸ st _ _
  have sC : C.heap.size = V.heap.size + 1 + 1 + 1 := by rw [← hC, sz, sB]
  have bVC := below_tr bVB bC
  refine ⟨?_, below_tr bVC (st _ _)⟩
  rw [← sC]
  exact smL_alloc (hL C bVC ((a1.later bB).later bC) (a2.later bC) a3)
theorem nest3 {n m1 m2 m : Nat} {V : World} {K1 K2 L : Array Value} {T : TypeId} (h1 : SmX n V K1.toList m1) (h2 : SmX n V K2.toList m2)
    (hL : ∀ X, Below V.heap.size V X → SmL n X (some ⟨V.heap.size, 0, none⟩) m1 → SmL n X (some ⟨V.heap.size + 1, 0, none⟩) m2 → SmX (n + 1) X L.toList m) :
    SmL (n + 1) (((V.alloc (.cells K1 T)).alloc (.cells K2 T)).alloc (.cells L T)) (some ⟨V.heap.size + 1 + 1, 0, none⟩) m ∧
      Below V.heap.size V (((V.alloc (.cells K1 T)).alloc (.cells K2 T)).alloc (.cells L T)) := by
  have st : ∀ (W : World) (o : Obj), Below W.heap.size W (W.alloc o) := fun W o => (Below.refl _ _).alloc (Nat.le_refl _) _
  have sz : ∀ (W : World) (o : Obj), (W.alloc o).heap.size = W.heap.size + 1 := fun W o => by simp
  generalize hA : V.alloc (.cells K1 T) = A at *
  have a1 : SmL n A (some ⟨V.heap.size, 0, none⟩) m1 := hA ▸ smL_alloc h1
  have bA : Below V.heap.size V A := hA ▸ st _ _
  have sA : A.heap.size = V.heap.size + 1 := hA ▸ sz _ _
  generalize hB : A.alloc (.cells K2 T) = B at *
  have a2 : SmL n B (some ⟨V.heap.size + 1, 0, none⟩) m2 := sA ▸ hB ▸ smL_alloc (h2.later bA)
  have bB : Below A.heap.size A B := hB ▸ st _ _
  have sB : B.heap.size = V.heap.size + 1 + 1 := by rw [← hB, sz, sA]
  have bVB := below_tr bA bB
  refine ⟨?_, below_tr bVB (st _ _)⟩
  rw [← sB]
  exact smL_alloc (hL B bVB (a1.later bB) a2)
theorem szY0 : szTu ⟨4, ⟨#[48]⟩, ⟨#[]⟩, ⟨#[104, 116, 116, 112, 58, 47, 47, 119, 119, 119, 46, 119, 51, 46, 111, 114, 103, 47, 50, 48, 48, 49, 47, 88, 77, 76, 83, 99, 104, 101, 109, 97, 35, 98, 111, 111, 108, 101, 97, 110]⟩⟩ := szY4 (by decide)
theorem szY1 : szTu ⟨4, ⟨#[49]⟩, ⟨#[]⟩, ⟨#[104, 116, 116, 112, 58, 47, 47, 119, 119, 119, 46, 119, 51, 46, 111, 114, 103, 47, 50, 48, 48, 49, 47, 88, 77, 76, 83, 99, 104, 101, 109, 97, 35, 98, 111, 111, 108, 101, 97, 110]⟩⟩ := szY4 (by decide)
set_option maxRecDepth 100000 in
set_option maxHeartbeats 16000000 in
theorem lawFilterSmall (w : World) : Calls Tryz.prog 3 #[] w fun e w' => e = .returned (.bool true) ∧ Below w.heap.size w w' := by
  go_enter Tryz.func3, Tryz.ntmps3
  go_wp2_with fail
  refine (lawTerms w).mono ?_
  rintro e w1 ⟨l, A, c, rfl, hc48, hr, hl, hz, hb1⟩
  have hBn : Below w1.heap.size w1 (w1.alloc (.cells #[.string ⟨#[120]⟩, .string ⟨#[121]⟩, .string ⟨#[120]⟩, .string ⟨#[122]⟩] 9)) := (Below.refl _ _).alloc (Nat.le_refl _) _
  obtain ⟨W1, hW1⟩ : ∃ W, w1.alloc (.cells #[.string ⟨#[120]⟩, .string ⟨#[121]⟩, .string ⟨#[120]⟩, .string ⟨#[122]⟩] 9) = W := ⟨_, rfl⟩
  have hN : Rd W1 (some ⟨w1.heap.size, 0, none⟩) (names4.map Value.string) := by rw [← hW1]; exact Rd.of_block (heap_alloc_new w1 _) rfl
  rw [hW1] at hBn
  have HB1 := Lib.hid (below_tr hb1 hBn)
  have HT := Lib.hid (And.intro (RdTs.later hr hBn) hN)
  have HZ := Lib.hid hz
  have Hl := Lib.hid hl
  clear hb1 hBn hr hN hz hl
  go_upto_region 3 with (fail)
  have HW1 := Lib.hid hW1
  clear hW1
  go_wp2
  go_loopw [3] (fun i wr => ∃ k : Nat, k ≤ 48 ∧ i = .int .i64 k ∧ Below W1.heap.size W1 wr) (fun i _ => 48 - (intOf i).toNat)
  case atStart => exact ⟨0, by omega, rfl, Below.refl _ _⟩
  case round =>
    obtain ⟨k, hk, rfl, hB⟩ := hrel
    by_cases hlt : k < 48
    · obtain ⟨wk, rfl⟩ : ∃ wk, wk = wr := ⟨_, rfl⟩
      have HBk := Lib.hid hB
      clear hB
      have hdk : decide ((k : Int) < 48) = true := by simp; omega
      go_wp2
      clear hdk
      go_loopw [4] (fun i wr => ∃ j : Nat, j ≤ 48 ∧ i = .int .i64 j ∧ Below W1.heap.size W1 wr) (fun i _ => 48 - (intOf i).toNat)
      case atStart => exact ⟨0, by omega, rfl, HBk.out⟩
      case round =>
        obtain ⟨j, hj, rfl, hB⟩ := hrel
        by_cases hlj : j < 48
        · obtain ⟨t, ht⟩ : ∃ t, l[j]? = some t := ⟨_, List.getElem?_eq_getElem (by rw [Hl.out]; exact hlj)⟩
          have htz := HZ.out t (List.mem_of_getElem? ht)
          have Ht := Lib.hid ht
          obtain ⟨g, o, rfl, c0, c1, c2, c3⟩ := RdTs.at4 (RdTs.later HT.out.1 hB) ht
          have HB := Lib.hid hB
          have hb5 : Below wr.heap.size wr (wr.alloc (.cells #[.int .i64 1, .string ⟨#[120]⟩, .int .i64 0, .string ⟨#[]⟩, .string ⟨#[]⟩, .string ⟨#[]⟩, .slice none 0 0] 31)) := (Below.refl _ _).alloc (Nat.le_refl _) _
          replace c0 := cell_on c0 hb5
          replace c1 := cell_on c1 hb5
          replace c2 := cell_on c2 hb5
          replace c3 := cell_on c3 hb5
          have Hb5 := Lib.hid hb5
          clear hB ht hb5
          obtain ⟨V, hV⟩ : ∃ V, (wr.alloc (.cells #[.int .i64 1, .string ⟨#[120]⟩, .int .i64 0, .string ⟨#[]⟩, .string ⟨#[]⟩, .string ⟨#[]⟩, .slice none 0 0] 31)).alloc (.cells #[.int .i64 2, .string ⟨#[]⟩, .int .i64 t.k, .string t.x, .string t.l, .string t.y, .slice none 0 0] 31) = V := ⟨_, rfl⟩
          have hBV : Below wr.heap.size wr V := by rw [← hV]; exact Hb5.out.alloc (by simp) _
          have p0 : V.cell? ⟨wr.heap.size, 0, none⟩ = some (.int .i64 1) := by rw [← hV]; exact cell_on (by rw [World.cell?, heap_alloc_new]; rfl : (wr.alloc (.cells #[.int .i64 1, .string ⟨#[120]⟩, .int .i64 0, .string ⟨#[]⟩, .string ⟨#[]⟩, .string ⟨#[]⟩, .slice none 0 0] 31)).cell? ⟨wr.heap.size, 0, none⟩ = some (.int .i64 1)) ((Below.refl _ _).alloc (Nat.le_refl _) _)
          have p1 : V.cell? ⟨wr.heap.size, 1, none⟩ = some (.string ⟨#[120]⟩) := by rw [← hV]; exact cell_on (by rw [World.cell?, heap_alloc_new]; rfl : (wr.alloc (.cells #[.int .i64 1, .string ⟨#[120]⟩, .int .i64 0, .string ⟨#[]⟩, .string ⟨#[]⟩, .string ⟨#[]⟩, .slice none 0 0] 31)).cell? ⟨wr.heap.size, 1, none⟩ = some (.string ⟨#[120]⟩)) ((Below.refl _ _).alloc (Nat.le_refl _) _)
          have p2 : V.cell? ⟨wr.heap.size, 2, none⟩ = some (.int .i64 0) := by rw [← hV]; exact cell_on (by rw [World.cell?, heap_alloc_new]; rfl : (wr.alloc (.cells #[.int .i64 1, .string ⟨#[120]⟩, .int .i64 0, .string ⟨#[]⟩, .string ⟨#[]⟩, .string ⟨#[]⟩, .slice none 0 0] 31)).cell? ⟨wr.heap.size, 2, none⟩ = some (.int .i64 0)) ((Below.refl _ _).alloc (Nat.le_refl _) _)
          have p3 : V.cell? ⟨wr.heap.size, 3, none⟩ = some (.string ⟨#[]⟩) := by rw [← hV]; exact cell_on (by rw [World.cell?, heap_alloc_new]; rfl : (wr.alloc (.cells #[.int .i64 1, .string ⟨#[120]⟩, .int .i64 0, .string ⟨#[]⟩, .string ⟨#[]⟩, .string ⟨#[]⟩, .slice none 0 0] 31)).cell? ⟨wr.heap.size, 3, none⟩ = some (.string ⟨#[]⟩)) ((Below.refl _ _).alloc (Nat.le_refl _) _)
          have p4 : V.cell? ⟨wr.heap.size, 4, none⟩ = some (.string ⟨#[]⟩) := by rw [← hV]; exact cell_on (by rw [World.cell?, heap_alloc_new]; rfl : (wr.alloc (.cells #[.int .i64 1, .string ⟨#[120]⟩, .int .i64 0, .string ⟨#[]⟩, .string ⟨#[]⟩, .string ⟨#[]⟩, .slice none 0 0] 31)).cell? ⟨wr.heap.size, 4, none⟩ = some (.string ⟨#[]⟩)) ((Below.refl _ _).alloc (Nat.le_refl _) _)
          have p5 : V.cell? ⟨wr.heap.size, 5, none⟩ = some (.string ⟨#[]⟩) := by rw [← hV]; exact cell_on (by rw [World.cell?, heap_alloc_new]; rfl : (wr.alloc (.cells #[.int .i64 1, .string ⟨#[120]⟩, .int .i64 0, .string ⟨#[]⟩, .string ⟨#[]⟩, .string ⟨#[]⟩, .slice none 0 0] 31)).cell? ⟨wr.heap.size, 5, none⟩ = some (.string ⟨#[]⟩)) ((Below.refl _ _).alloc (Nat.le_refl _) _)
          have p6 : V.cell? ⟨wr.heap.size, 6, none⟩ = some (.slice none 0 0) := by rw [← hV]; exact cell_on (by rw [World.cell?, heap_alloc_new]; rfl : (wr.alloc (.cells #[.int .i64 1, .string ⟨#[120]⟩, .int .i64 0, .string ⟨#[]⟩, .string ⟨#[]⟩, .string ⟨#[]⟩, .slice none 0 0] 31)).cell? ⟨wr.heap.size, 6, none⟩ = some (.slice none 0 0)) ((Below.refl _ _).alloc (Nat.le_refl _) _)
          have q0 : V.cell? ⟨wr.heap.size + 1, 0, none⟩ = some (.int .i64 2) := by rw [← hV, World.cell?, heap_two_2]; rfl
          have q1 : V.cell? ⟨wr.heap.size + 1, 1, none⟩ = some (.string ⟨#[]⟩) := by rw [← hV, World.cell?, heap_two_2]; rfl
          have q2 : V.cell? ⟨wr.heap.size + 1, 2, none⟩ = some (.int .i64 t.k) := by rw [← hV, World.cell?, heap_two_2]; rfl
          have q3 : V.cell? ⟨wr.heap.size + 1, 3, none⟩ = some (.string t.x) := by rw [← hV, World.cell?, heap_two_2]; rfl
          have q4 : V.cell? ⟨wr.heap.size + 1, 4, none⟩ = some (.string t.l) := by rw [← hV, World.cell?, heap_two_2]; rfl
          have q5 : V.cell? ⟨wr.heap.size + 1, 5, none⟩ = some (.string t.y) := by rw [← hV, World.cell?, heap_two_2]; rfl
          have q6 : V.cell? ⟨wr.heap.size + 1, 6, none⟩ = some (.slice none 0 0) := by rw [← hV, World.cell?, heap_two_2]; rfl
          have s5 : wr.heap.size < V.heap.size := by rw [← hV]; simp; omega
          have s6 : wr.heap.size + 1 < V.heap.size := by rw [← hV]; simp
          have s51 : wr.heap.size < V.heap.size + 1 := by omega
          have s52 : wr.heap.size < V.heap.size + 2 := by omega
          have s53 : wr.heap.size < V.heap.size + 1 + 1 := by omega
          have s61 : wr.heap.size + 1 < V.heap.size + 1 := by omega
          have n50 : wr.heap.size ≠ V.heap.size := by omega
          have n51 : wr.heap.size ≠ V.heap.size + 1 := by omega
          have n52 : wr.heap.size ≠ V.heap.size + 2 := by omega
          have n53 : wr.heap.size ≠ V.heap.size + 1 + 1 := by omega
          have HV := Lib.hid hV
          have HBV := Lib.hid hBV
          clear hV hBV
          go_upto_region 12 with (fail)
          rw [HV.out]
          clear c0 c1 c2 c3
          go_cut [8] from 41 to 60 (fun s wx => Lst 2 4 V s wx)
          case first =>
            rename_i hJ hM
            go_wp2
            refine Met.intro (hJ _ _ ?_)
            (repeat apply Exists.intro)
            refine ⟨?_, rfl⟩
            have hx := smV V 0 1 ⟨#[120]⟩ (by decide)
            have hy := smV V 0 1 ⟨#[121]⟩ (by decide)
            have ht := smT V 0 2 t htz
            exact ⟨_, rfl, nest5 (n := 1) (SmX.cons hx (SmX.cons ht (SmX.nil _ _))) (SmX.cons ht (SmX.cons hy (SmX.nil _ _))) (SmX.cons ht (SmX.nil _ _)) (SmX.cons hx (SmX.nil _ _)) fun X _ l1 l2 l3 l4 => SmX.cons (smK l1 (by decide)) (SmX.cons (smK l2 (by decide)) (SmX.cons (smK l3 (by decide)) (SmX.cons (smK l4 (by decide)) (SmX.nil _ _))))⟩
          obtain ⟨g8, rfl, h8, b8⟩ := hcut
          have HWc := Lib.hid (below_tr (below_tr HB.out HBV.out) b8)
          have H8 := Lib.hid h8
          obtain ⟨u, hu⟩ : ∃ u, l[k]? = some u := ⟨_, List.getElem?_eq_getElem (by rw [Hl.out]; exact hlt)⟩
          have huz := HZ.out u (List.mem_of_getElem? hu)
          obtain ⟨g', o', he', e0, e1, e2, e3⟩ := RdTs.at4 (RdTs.later HT.out.1 HWc.out) hu
          injection he' with he'; injection he' with hg' ho'; subst hg'; subst ho'
          obtain ⟨g', o', he', d0, d1, d2, d3⟩ := RdTs.at4 (RdTs.later HT.out.1 HWc.out) Ht.out
          injection he' with he'; injection he' with hg' ho'; subst hg'; subst ho'
          clear b8 h8 hu HV HBV p0 p1 p2 p3 p4 p5 p6 q0 q1 q2 q3 q4 q5 q6 s5 s6 s51 s52 s53 s61 n50 n51 n52 n53
          go_upto_region 13 with (fail)
          have hd1 : decide ((k : Int) < 48) = true := by simp; omega
          have hd2 : decide ((j : Int) < 48) = true := by simp; omega
          simp only [hd2]
          clear hd1 hd2
          go_cut [104] from 61 to 103 (fun s wx => s = .bool false ∧ Below wc.heap.size wc wx)
          case first =>
            rename_i hJ hM
            refine Rf.wp_region_pl wc.heap.size _ (Rf.Pl.quiet [0, 1, 2, 3, 4, 5, 6, 7, 8, 9, 10, 11, 12, 13, 14, 15] (Rf.Pl.one 16 (Rf.Pl.one 17 (Rf.Pl.quiet [18, 19, 20, 21, 22, 23, 24, 25, 26, 27, 28, 29] (Rf.Pl.one 30 (Rf.Pl.one 31 (Rf.Pl.quiet [32, 33, 34, 35, 36, 38, 39, 40] (Rf.Pl.one 37 (Rf.Pl.one 41 (Rf.Pl.quiet [42, 43] (Rf.Pl.done))))))))))) _ (by kernel_rfl) (by kernel_rfl) (by simp only [Rf.Pl.pick, Rf.pickO, List.map_cons, List.map_nil, Rg.pickOps, List.getElem?_toArray, List.getElem?_cons_zero, List.getElem?_cons_succ, Option.getD_some]; rfl) ?_ (fun a w h => h)
            intro wd hbd hwz
            have hle := hbd.size
            have Hbd := Lib.hid hbd
            have x0 := cellL e0 hbd
            have x1 := cellL e1 hbd
            have x2 := cellL e2 hbd
            have x3 := cellL e3 hbd
            have y0 := cellL d0 hbd
            have y1 := cellL d1 hbd
            have y2 := cellL d2 hbd
            have y3 := cellL d3 hbd
            clear hwz hbd
            have hT := lawFilterTerms u.k u.x u.l u.y t.k t.x t.l t.y [(k : Int) % 4, (j : Int) % 4, ((k : Int) + j) % 4] (some ⟨wd.heap.size, 0, none⟩) 3 (wd.alloc (.cells #[.int .i64 ((k : Int) % 4), .int .i64 ((j : Int) % 4), .int .i64 (((k : Int) + j) % 4)] 3)) (Nat.le_trans huz.1 (by decide)) (Nat.le_trans htz.1 (by decide)) (by show 3 ≤ _; decide) (Rd.of_block (heap_alloc_new wd _) rfl)
            refine Rf.pl_quiet ?_
            iterate 16 go_big_quiet_step (fail)
            refine wpQuiet_nil (Rf.pl_one ?_)
            go_wp2
            have b0 : Below wd.heap.size wd (wd.alloc (.cells #[.int .i64 ((k : Int) % 4), .int .i64 ((j : Int) % 4), .int .i64 (((k : Int) + j) % 4)] 3)) := (Below.refl _ _).alloc (Nat.le_refl _) _
            refine ⟨b0.mono hle, Rf.pl_one ?_⟩
            clear x0 x1 x2 x3 y0 y1 y2 y3
            go_wp2_with (refine hT.mono ?_; rintro e w5 ⟨rfl, b5⟩)
            have B5 := below_tr (below_tr Hbd.out b0) b5
            refine ⟨b5.mono (Nat.le_trans hle b0.size), Rf.pl_quiet ?_⟩
            clear hT b0 b5
            have x0 := cellL e0 B5
            have x1 := cellL e1 B5
            have x2 := cellL e2 B5
            have x3 := cellL e3 B5
            have y0 := cellL d0 B5
            have y1 := cellL d1 B5
            have y2 := cellL d2 B5
            have y3 := cellL d3 B5
            iterate 12 go_big_quiet_step (fail)
            refine wpQuiet_nil (Rf.pl_one ?_)
            go_wp2
            have b6 : Below w5.heap.size w5 (w5.alloc (.cells #[.int .i64 u.k, .string u.x, .string u.l, .string u.y, .int .i64 t.k, .string t.x, .string t.l, .string t.y] 28)) := (Below.refl _ _).alloc (Nat.le_refl _) _
            have B6 := below_tr B5 b6
            have BW6 := below_tr HWc.out B6
            refine ⟨b6.mono B5.size, Rf.pl_one ?_⟩
            have hR1 := lawRowsU (n := 2) (A := some ⟨g8, 0, none⟩) (m := 4) (c := 4) (vars := names4) (A1 := some ⟨w1.heap.size, 0, none⟩) (c1 := 4) (row := [u, t]) (A2 := some ⟨w5.heap.size, 0, none⟩) (c2 := 2) (H8.out.later B6) (by decide) (HT.out.2.later BW6) (by decide) (RdTs.flat.2 (Rd.of_block (heap_alloc_new w5 _) rfl)) (by show 2 ≤ _; decide) (by intro z hz; rcases List.mem_cons.1 hz with rfl | hz; exact huz; rw [List.mem_singleton.1 hz]; exact htz)
            clear x0 x1 x2 x3 y0 y1 y2 y3
            go_wp2_with (refine hR1.mono ?_; rintro e w7 ⟨rfl, b7⟩)
            have B7 := below_tr B6 b7
            refine ⟨b7.mono B6.size, Rf.pl_quiet ?_⟩
            clear hR1 b6 b7
            iterate 8 go_big_quiet_step (fail)
            refine wpQuiet_nil (Rf.pl_one ?_)
            go_wp2
            refine ⟨(Below.refl _ _).alloc B7.size _, Rf.pl_one ?_⟩
            have b8 : Below w7.heap.size w7 (w7.alloc (.cells #[.string ⟨#[121]⟩] 9)) := (Below.refl _ _).alloc (Nat.le_refl _) _
            have B8 := below_tr B7 b8
            have BW8 := below_tr HWc.out B8
            have hlen : (l.drop k).length = 48 - k := by rw [List.length_drop, Hl.out]
            have hR2 := lawRowsU (n := 2) (A := some ⟨g8, 0, none⟩) (m := 2) (c := 4) (vars := [⟨#[121]⟩]) (A1 := some ⟨w7.heap.size, 0, none⟩) (c1 := 1) (row := l.drop k) (A2 := some ⟨g, o + k * 4, none⟩) (c2 := c - k) ((H8.out.take 2 (by decide)).later B8) (by decide) (Rd.of_block (heap_alloc_new w7 _) rfl) (by decide) (RdTs.dropk (RdTs.later HT.out.1 BW8) k) (by omega) (fun z hz => HZ.out z (List.mem_of_mem_drop hz))
            rw [hlen] at hR2
            clear hlen
            go_wp2_with (refine hR2.mono ?_; rintro e w9 ⟨rfl, b9⟩)
            refine ⟨b9.mono B8.size, Rf.pl_quiet ?_⟩
            clear hR2
            iterate 2 go_big_quiet_step (fail)
            refine wpQuiet_nil (Rf.pl_done ?_)
            refine hM _ _ (Met.intro (hJ _ _ ?_))
            (repeat apply Exists.intro)
            exact ⟨⟨rfl, below_tr B8 b9⟩, rfl⟩
          obtain ⟨rfl, hbb⟩ := hcut
          have HF := Lib.hid (below_tr HWc.out hbb)
          clear hbb e0 e1 e2 e3 d0 d1 d2 d3
          go_wp2
          go_roundw
          case rel =>
            first
              | exact ⟨j + 1, by omega, by go_num, HF.out⟩
              | ((repeat apply Exists.intro); exact ⟨⟨j + 1, by omega, by go_num, HF.out⟩, rfl⟩)
          case measure => simp [intOf]; omega
        · go_wp2
          go_roundw
          case rel => exact ⟨k + 1, by omega, by go_num, hB⟩
          case measure => simp [intOf]; omega
    · clear hk
      go_upto_region 15 with (fail)
      obtain ⟨t0, ht0⟩ : ∃ t, l[0]? = some t := ⟨_, List.getElem?_eq_getElem (by rw [Hl.out]; decide)⟩
      have hz0 := HZ.out t0 (List.mem_of_getElem? ht0)
      obtain ⟨g, o, rfl, a0, a1, a2, a3⟩ := RdTs.at4 (RdTs.later HT.out.1 hB) ht0
      simp only [Nat.zero_mul, Nat.add_zero] at a0 a1 a2 a3
      have HBr := Lib.hid hB
      clear hB ht0 hlt
      go_cut [9] from 105 to 113 (fun s wx => Lst 1 3 wr s wx)
      case first =>
        rename_i hJ hM
        refine Rf.wp_region_pl wr.heap.size _ (Rf.Pl.quiet [4, 5, 6, 7] (Rf.Pl.one 0 (Rf.Pl.quiet [1] (Rf.Pl.one 2 (Rf.Pl.quiet [3] (Rf.Pl.one 8 (Rf.Pl.quiet [9] (Rf.Pl.done)))))))) _ (by kernel_rfl) (by kernel_rfl) (by simp only [Rf.Pl.pick, Rf.pickO, List.map_cons, List.map_nil, Rg.pickOps, List.getElem?_toArray, List.getElem?_cons_zero, List.getElem?_cons_succ, Option.getD_some]; rfl) ?_ (fun a w h => h)
        intro wd hbd hwz
        have hle := hbd.size
        have Hbd := Lib.hid hbd
        have x0 := cellL a0 hbd
        have x1 := cellL a1 hbd
        have x2 := cellL a2 hbd
        have x3 := cellL a3 hbd
        clear hwz hbd a0 a1 a2 a3
        refine Rf.pl_quiet ?_
        iterate 4 go_big_quiet_step (fail)
        refine wpQuiet_nil (Rf.pl_one ?_)
        clear x0 x1 x2 x3
        go_wp2_with (refine (lawYes _ _).mono ?_; rintro e w5 ⟨rfl, b5⟩)
        have B5 := below_tr Hbd.out b5
        refine ⟨b5.mono hle, Rf.pl_quiet ?_⟩
        iterate 1 go_big_quiet_step (fail)
        refine wpQuiet_nil (Rf.pl_one ?_)
        go_wp2_with (refine (lawYes _ _).mono ?_; rintro e w6 ⟨rfl, b6⟩)
        have B6 := below_tr B5 b6
        refine ⟨b6.mono B5.size, Rf.pl_quiet ?_⟩
        iterate 1 go_big_quiet_step (fail)
        refine wpQuiet_nil (Rf.pl_one ?_)
        go_wp2
        refine ⟨(Below.refl _ _).alloc B6.size _, Rf.pl_quiet ?_⟩
        iterate 1 go_big_quiet_step (fail)
        refine wpQuiet_nil (Rf.pl_done ?_)
        refine hM _ _ (Met.intro (hJ _ _ ?_))
        (repeat apply Exists.intro)
        refine ⟨?_, rfl⟩
        exact ⟨_, rfl, smL_alloc (SmX.cons (smT w6 0 2 _ szY1) (SmX.cons (smT w6 0 2 _ szY0) (SmX.cons (smT w6 0 2 t0 hz0) (SmX.nil _ _)))), below_tr B6 ((Below.refl _ _).alloc (Nat.le_refl _) _)⟩
      obtain ⟨g3, rfl, h3, b3⟩ := hcut
      have HB3 := Lib.hid (below_tr HBr.out b3)
      have H3 := Lib.hid h3
      clear b3 h3 a0 a1 a2 a3
      obtain ⟨wt, rfl⟩ : ∃ wt, wt = wc := ⟨_, rfl⟩
      go_wp2
      go_loopw [10] (fun i wx => ∃ n : Nat, n ≤ 81 ∧ i = .int .i64 n ∧ Below wt.heap.size wt wx) (fun i _ => 81 - (intOf i).toNat)
      case atStart => exact ⟨0, by omega, rfl, Below.refl _ _⟩
      case round =>
        obtain ⟨n, hn, rfl, hBn⟩ := hrel
        by_cases hlt : n < 81
        · obtain ⟨wn, rfl⟩ : ∃ wn, wn = wr := ⟨_, rfl⟩
          have e2 : (n : Int) % 2 = ((n % 2 : Nat) : Int) := by omega
          have e4 : (n : Int) % 4 = ((n % 4 : Nat) : Int) := by omega
          have ea : (n : Int) / 2 % 3 = ((n / 2 % 3 : Nat) : Int) := by omega
          have eb : (n : Int) / 6 % 3 = ((n / 6 % 3 : Nat) : Int) := by omega
          have ec : (n : Int) / 18 % 3 = ((n / 18 % 3 : Nat) : Int) := by omega
          have ed : (n : Int) % 3 = ((n % 3 : Nat) : Int) := by omega
          have ee : (n : Int) / 3 % 3 = ((n / 3 % 3 : Nat) : Int) := by omega
          have ln2 : n % 2 < 2 := by omega
          generalize n % 2 = n2 at *
          have ln4 : n % 4 < 4 := by omega
          generalize n % 4 = n4 at *
          have lja : n / 2 % 3 < 3 := by omega
          generalize n / 2 % 3 = ja at *
          have ljb : n / 6 % 3 < 3 := by omega
          generalize n / 6 % 3 = jb at *
          have ljc : n / 18 % 3 < 3 := by omega
          generalize n / 18 % 3 = jc at *
          have ljd : n % 3 < 3 := by omega
          generalize n % 3 = jd at *
          have lje : n / 3 % 3 < 3 := by omega
          generalize n / 3 % 3 = je at *
          have hd1 : decide ((n : Int) < 81) = true := by simp; omega
          obtain ⟨ga, oa, ka, sa, ta, Aa, ma, ca, hea, sma, a0, a1, a2, a3, a4, a5, a6⟩ := (SmL.later H3.out hBn).at_ (j := ja) (by omega)
          injection hea with hea; injection hea with h5 h6; subst h5; subst h6
          simp only [Nat.zero_add] at a0 a1 a2 a3 a4 a5 a6
          obtain ⟨gb, ob, kb, sb, tb, Ab, mb, cb, heb, smb, b0, b1, b2, b3, b4, b5, b6⟩ := (SmL.later H3.out hBn).at_ (j := jb) (by omega)
          injection heb with heb; injection heb with h5 h6; subst h5; subst h6
          simp only [Nat.zero_add] at b0 b1 b2 b3 b4 b5 b6
          obtain ⟨gc, oc, kc, sc, tc, Ac, mc, cc, hec, smc, c0, c1, c2, c3, c4, c5, c6⟩ := (SmL.later H3.out hBn).at_ (j := jc) (by omega)
          injection hec with hec; injection hec with h5 h6; subst h5; subst h6
          simp only [Nat.zero_add] at c0 c1 c2 c3 c4 c5 c6
          have HBn := Lib.hid hBn
          clear hBn
          go_upto_region 19 with (fail)
          clear hd1
          go_cut [11] from 118 to 143 (fun s wx => BxE 2 wn s wx)
          case first =>
            rename_i hJ hM
            refine Rf.wp_region_pl wn.heap.size _ (Rf.Pl.quiet [0, 1, 2, 3, 4, 5, 6, 7, 8, 9, 10, 11, 12, 13, 14, 15, 16, 17, 18, 19, 20, 22, 23] (Rf.Pl.fork 21 26 (Rf.Pl.quiet [24, 25] (Rf.Pl.one 26 (Rf.Pl.one 27 (Rf.Pl.done)))) (Rf.Pl.one 21 (Rf.Pl.quiet [24, 25] (Rf.Pl.one 27 (Rf.Pl.done)))))) _ (by kernel_rfl) (by kernel_rfl) (by simp only [Rf.Pl.pick, Rf.pickO, List.map_cons, List.map_nil, Rg.pickOps, List.getElem?_toArray, List.getElem?_cons_zero, List.getElem?_cons_succ, Option.getD_some]; rfl) ?_ (fun a w h => h)
            intro wd hbd hwz
            have hle := hbd.size
            have Hbd := Lib.hid hbd
            have ua0 := cellL a0 hbd
            have ua1 := cellL a1 hbd
            have ua2 := cellL a2 hbd
            have ua3 := cellL a3 hbd
            have ua4 := cellL a4 hbd
            have ua5 := cellL a5 hbd
            have ua6 := cellL a6 hbd
            have ub0 := cellL b0 hbd
            have ub1 := cellL b1 hbd
            have ub2 := cellL b2 hbd
            have ub3 := cellL b3 hbd
            have ub4 := cellL b4 hbd
            have ub5 := cellL b5 hbd
            have ub6 := cellL b6 hbd
            have uc0 := cellL c0 hbd
            have uc1 := cellL c1 hbd
            have uc2 := cellL c2 hbd
            have uc3 := cellL c3 hbd
            have uc4 := cellL c4 hbd
            have uc5 := cellL c5 hbd
            have uc6 := cellL c6 hbd
            clear hwz hbd
            refine Rf.pl_quiet ?_
            iterate 23 go_big_quiet_step (fail)
            refine wpQuiet_nil (Rf.pl_fork ?_ ?_)
            · clear ua0 ua1 ua2 ua3 ua4 ua5 ua6 ub0 ub1 ub2 ub3 ub4 ub5 ub6 uc0 uc1 uc2 uc3 uc4 uc5 uc6
              go_wp2
              refine ⟨(Below.refl _ _).alloc hle _, Rf.pl_quiet ?_⟩
              iterate 2 go_big_quiet_step (fail)
              refine wpQuiet_nil (Rf.pl_one ?_)
              go_wp2
              refine ⟨(Below.refl _ _).alloc (by simp; omega) _, Rf.pl_one ?_⟩
              go_wp2
              refine ⟨below_reset (by simp; omega) _ _, Rf.pl_done ?_⟩
              refine hM _ _ (Met.intro (hJ _ _ ?_))
              (repeat apply Exists.intro)
              refine ⟨?_, rfl⟩
              have bk : Below wd.heap.size wd (wd.alloc (.cells #[.int .i64 ka, .string sa, .int .i64 ta.k, .string ta.x, .string ta.l, .string ta.y, .slice Aa ma ca, .int .i64 kb, .string sb, .int .i64 tb.k, .string tb.x, .string tb.l, .string tb.y, .slice Ab mb cb, .int .i64 kc, .string sc, .int .i64 tc.k, .string tc.x, .string tc.l, .string tc.y, .slice Ac mc cc] 31)) := (Below.refl _ _).alloc (Nat.le_refl _) _
              have bv := below_alloc (o := .cells #[.int .i64 (4 + n2), .string ⟨#[]⟩, .int .i64 0, .string ⟨#[]⟩, .string ⟨#[]⟩, .string ⟨#[]⟩, .slice (some ⟨wd.heap.size, 0, none⟩) n4 3] 31) bk
              have hl3 := ((smL_alloc (n := 1) (T := 31) (cs := #[.int .i64 ka, .string sa, .int .i64 ta.k, .string ta.x, .string ta.l, .string ta.y, .slice Aa ma ca, .int .i64 kb, .string sb, .int .i64 tb.k, .string tb.x, .string tb.l, .string tb.y, .slice Ab mb cb, .int .i64 kc, .string sc, .int .i64 tc.k, .string tc.x, .string tc.l, .string tc.y, .slice Ac mc cc]) (SmX.cons (sma.later Hbd.out) (SmX.cons (smb.later Hbd.out) (SmX.cons (smc.later Hbd.out) (SmX.nil 1 wd))))).later ((Below.refl _ _).alloc (Nat.le_refl _) (.cells #[.int .i64 (4 + n2), .string ⟨#[]⟩, .int .i64 0, .string ⟨#[]⟩, .string ⟨#[]⟩, .string ⟨#[]⟩, .slice (some ⟨wd.heap.size, 0, none⟩) n4 3] 31))).take n4 (by omega)
              exact ⟨_, _, _, zTm, _, _, _, rfl, heap_two_2 wd _ _, SmE.mk (t := zTm) hl3 (by omega) (by omega) (by decide) szT0, below_tr Hbd.out bv⟩
            · clear ua0 ua1 ua2 ua3 ua4 ua5 ua6 ub0 ub1 ub2 ub3 ub4 ub5 ub6 uc0 uc1 uc2 uc3 uc4 uc5 uc6
              go_wp2
              refine ⟨(Below.refl _ _).alloc hle _, Rf.pl_one ?_⟩
              go_wp2
              refine ⟨(Below.refl _ _).alloc (by simp; omega) _, Rf.pl_quiet ?_⟩
              iterate 2 go_big_quiet_step (fail)
              refine wpQuiet_nil (Rf.pl_one ?_)
              go_wp2
              refine ⟨below_reset2 (by omega) _ _ _, Rf.pl_done ?_⟩
              refine hM _ _ (Met.intro (hJ _ _ ?_))
              (repeat apply Exists.intro)
              refine ⟨?_, rfl⟩
              have bv : Below wd.heap.size wd (wd.alloc (.cells #[.int .i64 (4 + n2), .string ⟨#[]⟩, .int .i64 0, .string ⟨#[]⟩, .string ⟨#[]⟩, .string ⟨#[]⟩, .slice (some ⟨wd.heap.size + 1, 0, none⟩) n4 3] 31)) := (Below.refl _ _).alloc (Nat.le_refl _) _
              have hl3 := (smL_alloc (n := 1) (T := 31) (cs := #[.int .i64 ka, .string sa, .int .i64 ta.k, .string ta.x, .string ta.l, .string ta.y, .slice Aa ma ca, .int .i64 kb, .string sb, .int .i64 tb.k, .string tb.x, .string tb.l, .string tb.y, .slice Ab mb cb, .int .i64 kc, .string sc, .int .i64 tc.k, .string tc.x, .string tc.l, .string tc.y, .slice Ac mc cc]) (SmX.cons ((sma.later Hbd.out).later bv) (SmX.cons ((smb.later Hbd.out).later bv) (SmX.cons ((smc.later Hbd.out).later bv) (SmX.nil 1 _))))).take n4 (by omega)
              rw [show (wd.alloc (.cells #[.int .i64 (4 + n2), .string ⟨#[]⟩, .int .i64 0, .string ⟨#[]⟩, .string ⟨#[]⟩, .string ⟨#[]⟩, .slice (some ⟨wd.heap.size + 1, 0, none⟩) n4 3] 31)).heap.size = wd.heap.size + 1 by simp] at hl3
              exact ⟨_, _, _, zTm, _, _, _, rfl, heap_two_1 wd _ _, SmE.mk (t := zTm) hl3 (by omega) (by omega) (by decide) szT0, below_tr Hbd.out (below_alloc bv)⟩
          obtain ⟨b, ka', sa', ta', Aa', ma', ca', rfl, hbh, smA, bA⟩ := hcut
          have hBw := below_tr HBn.out bA
          have HBw := Lib.hid hBw
          have HsA := Lib.hid smA
          obtain ⟨z0, z1, z2, z3, z4, z5, z6⟩ := cells7 hbh
          clear a0 a1 a2 a3 a4 a5 a6 b0 b1 b2 b3 b4 b5 b6 c0 c1 c2 c3 c4 c5 c6 sma smb smc bA smA hbh
          obtain ⟨gd, od, kd, sd, td, Ad, md, cd, hed, smd, d0, d1, d2, d3, d4, d5, d6⟩ := (SmL.later H3.out hBw).at_ (j := jd) (by omega)
          injection hed with hed; injection hed with h5 h6; subst h5; subst h6
          simp only [Nat.zero_add] at d0 d1 d2 d3 d4 d5 d6
          obtain ⟨gf, of, kf, sf, tf, Af, mf, cf, hef, smf, f0, f1, f2, f3, f4, f5, f6⟩ := (SmL.later H3.out hBw).at_ (j := je) (by omega)
          injection hef with hef; injection hef with h5 h6; subst h5; subst h6
          simp only [Nat.zero_add] at f0 f1 f2 f3 f4 f5 f6
          clear hBw
          go_upto_region 20 with (fail)
          go_cut [167] from 144 to 166 (fun s wx => s = .bool false ∧ Below wc.heap.size wc wx)
          case first =>
            rename_i hJ hM
            refine Rf.wp_region_pl wc.heap.size _ (Rf.Pl.quiet [0, 1, 4, 5, 6, 7, 8, 9, 12, 13, 14, 15, 16, 17, 18] (Rf.Pl.fork3 2 10 19 (Rf.Pl.quiet [3] (Rf.Pl.fork 10 19 (Rf.Pl.quiet [11] (Rf.Pl.one 19 (Rf.Pl.quiet [20] (Rf.Pl.one 21 (Rf.Pl.one 22 (Rf.Pl.quiet [23] (Rf.Pl.done))))))) (Rf.Pl.quiet [20] (Rf.Pl.one 10 (Rf.Pl.quiet [11] (Rf.Pl.one 21 (Rf.Pl.one 22 (Rf.Pl.quiet [23] (Rf.Pl.done))))))))) (Rf.Pl.quiet [11] (Rf.Pl.fork 2 19 (Rf.Pl.quiet [3] (Rf.Pl.one 19 (Rf.Pl.quiet [20] (Rf.Pl.one 21 (Rf.Pl.one 22 (Rf.Pl.quiet [23] (Rf.Pl.done))))))) (Rf.Pl.quiet [20] (Rf.Pl.one 2 (Rf.Pl.quiet [3] (Rf.Pl.one 21 (Rf.Pl.one 22 (Rf.Pl.quiet [23] (Rf.Pl.done))))))))) (Rf.Pl.quiet [20] (Rf.Pl.fork 2 10 (Rf.Pl.quiet [3] (Rf.Pl.one 10 (Rf.Pl.quiet [11] (Rf.Pl.one 21 (Rf.Pl.one 22 (Rf.Pl.quiet [23] (Rf.Pl.done))))))) (Rf.Pl.quiet [11] (Rf.Pl.one 2 (Rf.Pl.quiet [3] (Rf.Pl.one 21 (Rf.Pl.one 22 (Rf.Pl.quiet [23] (Rf.Pl.done))))))))))) _ (by kernel_rfl) (by kernel_rfl) (by simp only [Rf.Pl.pick, Rf.pickO, List.map_cons, List.map_nil, Rg.pickOps, List.getElem?_toArray, List.getElem?_cons_zero, List.getElem?_cons_succ, Option.getD_some]; rfl) ?_ (fun a w h => h)
            intro wd hbd hwz
            have hle := hbd.size
            have Hbd := Lib.hid hbd
            have uz0 := cellL z0 hbd
            have uz1 := cellL z1 hbd
            have uz2 := cellL z2 hbd
            have uz3 := cellL z3 hbd
            have uz4 := cellL z4 hbd
            have uz5 := cellL z5 hbd
            have uz6 := cellL z6 hbd
            have ud0 := cellL d0 hbd
            have ud1 := cellL d1 hbd
            have ud2 := cellL d2 hbd
            have ud3 := cellL d3 hbd
            have ud4 := cellL d4 hbd
            have ud5 := cellL d5 hbd
            have ud6 := cellL d6 hbd
            have uf0 := cellL f0 hbd
            have uf1 := cellL f1 hbd
            have uf2 := cellL f2 hbd
            have uf3 := cellL f3 hbd
            have uf4 := cellL f4 hbd
            have uf5 := cellL f5 hbd
            have uf6 := cellL f6 hbd
            clear hwz hbd
            refine Rf.pl_quiet ?_
            iterate 15 go_big_quiet_step (fail)
            refine wpQuiet_nil (Rf.pl_fork3 ?_ ?_ ?_)
            · clear uz0 uz1 uz2 uz3 uz4 uz5 uz6 ud0 ud1 ud2 ud3 ud4 ud5 ud6 uf0 uf1 uf2 uf3 uf4 uf5 uf6
              have sA := HsA.out.later Hbd.out
              have sD := (smd.up).later Hbd.out
              have sE := (smf.up).later Hbd.out
              go_wp2
              refine ⟨(Below.refl _ _).alloc (by first | omega | (simp; omega)) _, Rf.pl_quiet ?_⟩
              iterate 1 go_big_quiet_step (fail)
              refine wpQuiet_nil (Rf.pl_fork ?_ ?_)
              · go_wp2
                refine ⟨(Below.refl _ _).alloc (by first | omega | (simp; omega)) _, Rf.pl_quiet ?_⟩
                iterate 1 go_big_quiet_step (fail)
                refine wpQuiet_nil (Rf.pl_one ?_)
                go_wp2
                refine ⟨(Below.refl _ _).alloc (by first | omega | (simp; omega)) _, Rf.pl_quiet ?_⟩
                iterate 1 go_big_quiet_step (fail)
                refine wpQuiet_nil (Rf.pl_one ?_)
                go_wp2
                refine ⟨(Below.refl _ _).alloc (by simp; omega) _, Rf.pl_one ?_⟩
                have hN := nest4 (n := 2) (T := 31) (V := wd) (K1 := #[.int .i64 ka', .string sa', .int .i64 ta'.k, .string ta'.x, .string ta'.l, .string ta'.y, .slice Aa' ma' ca']) (K2 := #[.int .i64 ka', .string sa', .int .i64 ta'.k, .string ta'.x, .string ta'.l, .string ta'.y, .slice Aa' ma' ca', .int .i64 kd, .string sd, .int .i64 td.k, .string td.x, .string td.l, .string td.y, .slice Ad md cd]) (K3 := #[.int .i64 kf, .string sf, .int .i64 tf.k, .string tf.x, .string tf.l, .string tf.y, .slice Af mf cf, .int .i64 ka', .string sa', .int .i64 ta'.k, .string ta'.x, .string ta'.l, .string ta'.y, .slice Aa' ma' ca']) (L := #[.int .i64 ka', .string sa', .int .i64 ta'.k, .string ta'.x, .string ta'.l, .string ta'.y, .slice Aa' ma' ca', .int .i64 3, .string ⟨#[]⟩, .int .i64 0, .string ⟨#[]⟩, .string ⟨#[]⟩, .string ⟨#[]⟩, .slice (some ⟨wd.heap.size, 0, none⟩) 1 1, .int .i64 5, .string ⟨#[]⟩, .int .i64 0, .string ⟨#[]⟩, .string ⟨#[]⟩, .string ⟨#[]⟩, .slice (some ⟨wd.heap.size + 1, 0, none⟩) 2 2, .int .i64 4, .string ⟨#[]⟩, .int .i64 0, .string ⟨#[]⟩, .string ⟨#[]⟩, .string ⟨#[]⟩, .slice (some ⟨wd.heap.size + 1 + 1, 0, none⟩) 2 2]) (m := 4) (SmX.cons sA (SmX.nil 2 wd)) (SmX.cons sA (SmX.cons sD (SmX.nil 2 wd))) (SmX.cons sE (SmX.cons sA (SmX.nil 2 wd))) (fun X bX l1 l2 l3 => SmX.cons (sA.later bX).up (SmX.cons (smK l1 (by decide)) (SmX.cons (smK l2 (by decide)) (SmX.cons (smK l3 (by decide)) (SmX.nil _ _)))))
                obtain ⟨hNl, hNb⟩ := hN
                have HNb := Lib.hid hNb
                have hR := lawRowsU (n := 3) (A := some ⟨wd.heap.size + 1 + 1 + 1, 0, none⟩) (m := 4) (c := 4) (vars := []) (A1 := none) (c1 := 0) (row := []) (A2 := none) (c2 := 0) hNl (by decide) (Rd.nil _ _) (by decide) (RdL.nil _ _ _ _) (by decide) (fun _ h => nomatch h)
                clear hNl hNb
                go_wp2_with (refine hR.mono ?_; rintro e w7 ⟨rfl, b7⟩)
                refine ⟨b7.mono (by simp; omega), Rf.pl_quiet ?_⟩
                have B7 := below_tr (below_tr Hbd.out HNb.out) b7
                clear hR
                iterate 1 go_big_quiet_step (fail)
                refine wpQuiet_nil (Rf.pl_done ?_)
                refine hM _ _ (Met.intro (hJ _ _ ?_))
                (repeat apply Exists.intro)
                exact ⟨⟨rfl, B7⟩, rfl⟩
              · go_wp2
                refine ⟨(Below.refl _ _).alloc (by first | omega | (simp; omega)) _, Rf.pl_quiet ?_⟩
                iterate 1 go_big_quiet_step (fail)
                refine wpQuiet_nil (Rf.pl_one ?_)
                go_wp2
                refine ⟨(Below.refl _ _).alloc (by first | omega | (simp; omega)) _, Rf.pl_quiet ?_⟩
                iterate 1 go_big_quiet_step (fail)
                refine wpQuiet_nil (Rf.pl_one ?_)
                go_wp2
                refine ⟨(Below.refl _ _).alloc (by simp; omega) _, Rf.pl_one ?_⟩
                have hN := nest4 (n := 2) (T := 31) (V := wd) (K1 := #[.int .i64 ka', .string sa', .int .i64 ta'.k, .string ta'.x, .string ta'.l, .string ta'.y, .slice Aa' ma' ca']) (K2 := #[.int .i64 kf, .string sf, .int .i64 tf.k, .string tf.x, .string tf.l, .string tf.y, .slice Af mf cf, .int .i64 ka', .string sa', .int .i64 ta'.k, .string ta'.x, .string ta'.l, .string ta'.y, .slice Aa' ma' ca']) (K3 := #[.int .i64 ka', .string sa', .int .i64 ta'.k, .string ta'.x, .string ta'.l, .string ta'.y, .slice Aa' ma' ca', .int .i64 kd, .string sd, .int .i64 td.k, .string td.x, .string td.l, .string td.y, .slice Ad md cd]) (L := #[.int .i64 ka', .string sa', .int .i64 ta'.k, .string ta'.x, .string ta'.l, .string ta'.y, .slice Aa' ma' ca', .int .i64 3, .string ⟨#[]⟩, .int .i64 0, .string ⟨#[]⟩, .string ⟨#[]⟩, .string ⟨#[]⟩, .slice (some ⟨wd.heap.size, 0, none⟩) 1 1, .int .i64 5, .string ⟨#[]⟩, .int .i64 0, .string ⟨#[]⟩, .string ⟨#[]⟩, .string ⟨#[]⟩, .slice (some ⟨wd.heap.size + 1 + 1, 0, none⟩) 2 2, .int .i64 4, .string ⟨#[]⟩, .int .i64 0, .string ⟨#[]⟩, .string ⟨#[]⟩, .string ⟨#[]⟩, .slice (some ⟨wd.heap.size + 1, 0, none⟩) 2 2]) (m := 4) (SmX.cons sA (SmX.nil 2 wd)) (SmX.cons sE (SmX.cons sA (SmX.nil 2 wd))) (SmX.cons sA (SmX.cons sD (SmX.nil 2 wd))) (fun X bX l1 l2 l3 => SmX.cons (sA.later bX).up (SmX.cons (smK l1 (by decide)) (SmX.cons (smK l3 (by decide)) (SmX.cons (smK l2 (by decide)) (SmX.nil _ _)))))
                obtain ⟨hNl, hNb⟩ := hN
                have HNb := Lib.hid hNb
                have hR := lawRowsU (n := 3) (A := some ⟨wd.heap.size + 1 + 1 + 1, 0, none⟩) (m := 4) (c := 4) (vars := []) (A1 := none) (c1 := 0) (row := []) (A2 := none) (c2 := 0) hNl (by decide) (Rd.nil _ _) (by decide) (RdL.nil _ _ _ _) (by decide) (fun _ h => nomatch h)
                clear hNl hNb
                go_wp2_with (refine hR.mono ?_; rintro e w7 ⟨rfl, b7⟩)
                refine ⟨b7.mono (by simp; omega), Rf.pl_quiet ?_⟩
                have B7 := below_tr (below_tr Hbd.out HNb.out) b7
                clear hR
                iterate 1 go_big_quiet_step (fail)
                refine wpQuiet_nil (Rf.pl_done ?_)
                refine hM _ _ (Met.intro (hJ _ _ ?_))
                (repeat apply Exists.intro)
                exact ⟨⟨rfl, B7⟩, rfl⟩
            · clear uz0 uz1 uz2 uz3 uz4 uz5 uz6 ud0 ud1 ud2 ud3 ud4 ud5 ud6 uf0 uf1 uf2 uf3 uf4 uf5 uf6
              have sA := HsA.out.later Hbd.out
              have sD := (smd.up).later Hbd.out
              have sE := (smf.up).later Hbd.out
              go_wp2
              refine ⟨(Below.refl _ _).alloc (by first | omega | (simp; omega)) _, Rf.pl_quiet ?_⟩
              iterate 1 go_big_quiet_step (fail)
              refine wpQuiet_nil (Rf.pl_fork ?_ ?_)
              · go_wp2
                refine ⟨(Below.refl _ _).alloc (by first | omega | (simp; omega)) _, Rf.pl_quiet ?_⟩
                iterate 1 go_big_quiet_step (fail)
                refine wpQuiet_nil (Rf.pl_one ?_)
                go_wp2
                refine ⟨(Below.refl _ _).alloc (by first | omega | (simp; omega)) _, Rf.pl_quiet ?_⟩
                iterate 1 go_big_quiet_step (fail)
                refine wpQuiet_nil (Rf.pl_one ?_)
                go_wp2
                refine ⟨(Below.refl _ _).alloc (by simp; omega) _, Rf.pl_one ?_⟩
                have hN := nest4 (n := 2) (T := 31) (V := wd) (K1 := #[.int .i64 ka', .string sa', .int .i64 ta'.k, .string ta'.x, .string ta'.l, .string ta'.y, .slice Aa' ma' ca', .int .i64 kd, .string sd, .int .i64 td.k, .string td.x, .string td.l, .string td.y, .slice Ad md cd]) (K2 := #[.int .i64 ka', .string sa', .int .i64 ta'.k, .string ta'.x, .string ta'.l, .string ta'.y, .slice Aa' ma' ca']) (K3 := #[.int .i64 kf, .string sf, .int .i64 tf.k, .string tf.x, .string tf.l, .string tf.y, .slice Af mf cf, .int .i64 ka', .string sa', .int .i64 ta'.k, .string ta'.x, .string ta'.l, .string ta'.y, .slice Aa' ma' ca']) (L := #[.int .i64 ka', .string sa', .int .i64 ta'.k, .string ta'.x, .string ta'.l, .string ta'.y, .slice Aa' ma' ca', .int .i64 3, .string ⟨#[]⟩, .int .i64 0, .string ⟨#[]⟩, .string ⟨#[]⟩, .string ⟨#[]⟩, .slice (some ⟨wd.heap.size + 1, 0, none⟩) 1 1, .int .i64 5, .string ⟨#[]⟩, .int .i64 0, .string ⟨#[]⟩, .string ⟨#[]⟩, .string ⟨#[]⟩, .slice (some ⟨wd.heap.size, 0, none⟩) 2 2, .int .i64 4, .string ⟨#[]⟩, .int .i64 0, .string ⟨#[]⟩, .string ⟨#[]⟩, .string ⟨#[]⟩, .slice (some ⟨wd.heap.size + 1 + 1, 0, none⟩) 2 2]) (m := 4) (SmX.cons sA (SmX.cons sD (SmX.nil 2 wd))) (SmX.cons sA (SmX.nil 2 wd)) (SmX.cons sE (SmX.cons sA (SmX.nil 2 wd))) (fun X bX l1 l2 l3 => SmX.cons (sA.later bX).up (SmX.cons (smK l2 (by decide)) (SmX.cons (smK l1 (by decide)) (SmX.cons (smK l3 (by decide)) (SmX.nil _ _)))))
                obtain ⟨hNl, hNb⟩ := hN
                have HNb := Lib.hid hNb
                have hR := lawRowsU (n := 3) (A := some ⟨wd.heap.size + 1 + 1 + 1, 0, none⟩) (m := 4) (c := 4) (vars := []) (A1 := none) (c1 := 0) (row := []) (A2 := none) (c2 := 0) hNl (by decide) (Rd.nil _ _) (by decide) (RdL.nil _ _ _ _) (by decide) (fun _ h => nomatch h)
                clear hNl hNb
                go_wp2_with (refine hR.mono ?_; rintro e w7 ⟨rfl, b7⟩)
                refine ⟨b7.mono (by simp; omega), Rf.pl_quiet ?_⟩
                have B7 := below_tr (below_tr Hbd.out HNb.out) b7
                clear hR
                iterate 1 go_big_quiet_step (fail)
                refine wpQuiet_nil (Rf.pl_done ?_)
                refine hM _ _ (Met.intro (hJ _ _ ?_))
                (repeat apply Exists.intro)
                exact ⟨⟨rfl, B7⟩, rfl⟩
              · go_wp2
                refine ⟨(Below.refl _ _).alloc (by first | omega | (simp; omega)) _, Rf.pl_quiet ?_⟩
                iterate 1 go_big_quiet_step (fail)
                refine wpQuiet_nil (Rf.pl_one ?_)
                go_wp2
                refine ⟨(Below.refl _ _).alloc (by first | omega | (simp; omega)) _, Rf.pl_quiet ?_⟩
                iterate 1 go_big_quiet_step (fail)
                refine wpQuiet_nil (Rf.pl_one ?_)
                go_wp2
                refine ⟨(Below.refl _ _).alloc (by simp; omega) _, Rf.pl_one ?_⟩
                have hN := nest4 (n := 2) (T := 31) (V := wd) (K1 := #[.int .i64 ka', .string sa', .int .i64 ta'.k, .string ta'.x, .string ta'.l, .string ta'.y, .slice Aa' ma' ca', .int .i64 kd, .string sd, .int .i64 td.k, .string td.x, .string td.l, .string td.y, .slice Ad md cd]) (K2 := #[.int .i64 kf, .string sf, .int .i64 tf.k, .string tf.x, .string tf.l, .string tf.y, .slice Af mf cf, .int .i64 ka', .string sa', .int .i64 ta'.k, .string ta'.x, .string ta'.l, .string ta'.y, .slice Aa' ma' ca']) (K3 := #[.int .i64 ka', .string sa', .int .i64 ta'.k, .string ta'.x, .string ta'.l, .string ta'.y, .slice Aa' ma' ca']) (L := #[.int .i64 ka', .string sa', .int .i64 ta'.k, .string ta'.x, .string ta'.l, .string ta'.y, .slice Aa' ma' ca', .int .i64 3, .string ⟨#[]⟩, .int .i64 0, .string ⟨#[]⟩, .string ⟨#[]⟩, .string ⟨#[]⟩, .slice (some ⟨wd.heap.size + 1 + 1, 0, none⟩) 1 1, .int .i64 5, .string ⟨#[]⟩, .int .i64 0, .string ⟨#[]⟩, .string ⟨#[]⟩, .string ⟨#[]⟩, .slice (some ⟨wd.heap.size, 0, none⟩) 2 2, .int .i64 4, .string ⟨#[]⟩, .int .i64 0, .string ⟨#[]⟩, .string ⟨#[]⟩, .string ⟨#[]⟩, .slice (some ⟨wd.heap.size + 1, 0, none⟩) 2 2]) (m := 4) (SmX.cons sA (SmX.cons sD (SmX.nil 2 wd))) (SmX.cons sE (SmX.cons sA (SmX.nil 2 wd))) (SmX.cons sA (SmX.nil 2 wd)) (fun X bX l1 l2 l3 => SmX.cons (sA.later bX).up (SmX.cons (smK l3 (by decide)) (SmX.cons (smK l1 (by decide)) (SmX.cons (smK l2 (by decide)) (SmX.nil _ _)))))
                obtain ⟨hNl, hNb⟩ := hN
                have HNb := Lib.hid hNb
                have hR := lawRowsU (n := 3) (A := some ⟨wd.heap.size + 1 + 1 + 1, 0, none⟩) (m := 4) (c := 4) (vars := []) (A1 := none) (c1 := 0) (row := []) (A2 := none) (c2 := 0) hNl (by decide) (Rd.nil _ _) (by decide) (RdL.nil _ _ _ _) (by decide) (fun _ h => nomatch h)
                clear hNl hNb
                go_wp2_with (refine hR.mono ?_; rintro e w7 ⟨rfl, b7⟩)
                refine ⟨b7.mono (by simp; omega), Rf.pl_quiet ?_⟩
                have B7 := below_tr (below_tr Hbd.out HNb.out) b7
                clear hR
                iterate 1 go_big_quiet_step (fail)
                refine wpQuiet_nil (Rf.pl_done ?_)
                refine hM _ _ (Met.intro (hJ _ _ ?_))
                (repeat apply Exists.intro)
                exact ⟨⟨rfl, B7⟩, rfl⟩
            · clear uz0 uz1 uz2 uz3 uz4 uz5 uz6 ud0 ud1 ud2 ud3 ud4 ud5 ud6 uf0 uf1 uf2 uf3 uf4 uf5 uf6
              have sA := HsA.out.later Hbd.out
              have sD := (smd.up).later Hbd.out
              have sE := (smf.up).later Hbd.out
              go_wp2
              refine ⟨(Below.refl _ _).alloc (by first | omega | (simp; omega)) _, Rf.pl_quiet ?_⟩
              iterate 1 go_big_quiet_step (fail)
              refine wpQuiet_nil (Rf.pl_fork ?_ ?_)
              · go_wp2
                refine ⟨(Below.refl _ _).alloc (by first | omega | (simp; omega)) _, Rf.pl_quiet ?_⟩
                iterate 1 go_big_quiet_step (fail)
                refine wpQuiet_nil (Rf.pl_one ?_)
                go_wp2
                refine ⟨(Below.refl _ _).alloc (by first | omega | (simp; omega)) _, Rf.pl_quiet ?_⟩
                iterate 1 go_big_quiet_step (fail)
                refine wpQuiet_nil (Rf.pl_one ?_)
                go_wp2
                refine ⟨(Below.refl _ _).alloc (by simp; omega) _, Rf.pl_one ?_⟩
                have hN := nest4 (n := 2) (T := 31) (V := wd) (K1 := #[.int .i64 kf, .string sf, .int .i64 tf.k, .string tf.x, .string tf.l, .string tf.y, .slice Af mf cf, .int .i64 ka', .string sa', .int .i64 ta'.k, .string ta'.x, .string ta'.l, .string ta'.y, .slice Aa' ma' ca']) (K2 := #[.int .i64 ka', .string sa', .int .i64 ta'.k, .string ta'.x, .string ta'.l, .string ta'.y, .slice Aa' ma' ca']) (K3 := #[.int .i64 ka', .string sa', .int .i64 ta'.k, .string ta'.x, .string ta'.l, .string ta'.y, .slice Aa' ma' ca', .int .i64 kd, .string sd, .int .i64 td.k, .string td.x, .string td.l, .string td.y, .slice Ad md cd]) (L := #[.int .i64 ka', .string sa', .int .i64 ta'.k, .string ta'.x, .string ta'.l, .string ta'.y, .slice Aa' ma' ca', .int .i64 3, .string ⟨#[]⟩, .int .i64 0, .string ⟨#[]⟩, .string ⟨#[]⟩, .string ⟨#[]⟩, .slice (some ⟨wd.heap.size + 1, 0, none⟩) 1 1, .int .i64 5, .string ⟨#[]⟩, .int .i64 0, .string ⟨#[]⟩, .string ⟨#[]⟩, .string ⟨#[]⟩, .slice (some ⟨wd.heap.size + 1 + 1, 0, none⟩) 2 2, .int .i64 4, .string ⟨#[]⟩, .int .i64 0, .string ⟨#[]⟩, .string ⟨#[]⟩, .string ⟨#[]⟩, .slice (some ⟨wd.heap.size, 0, none⟩) 2 2]) (m := 4) (SmX.cons sE (SmX.cons sA (SmX.nil 2 wd))) (SmX.cons sA (SmX.nil 2 wd)) (SmX.cons sA (SmX.cons sD (SmX.nil 2 wd))) (fun X bX l1 l2 l3 => SmX.cons (sA.later bX).up (SmX.cons (smK l2 (by decide)) (SmX.cons (smK l3 (by decide)) (SmX.cons (smK l1 (by decide)) (SmX.nil _ _)))))
                obtain ⟨hNl, hNb⟩ := hN
                have HNb := Lib.hid hNb
                have hR := lawRowsU (n := 3) (A := some ⟨wd.heap.size + 1 + 1 + 1, 0, none⟩) (m := 4) (c := 4) (vars := []) (A1 := none) (c1 := 0) (row := []) (A2 := none) (c2 := 0) hNl (by decide) (Rd.nil _ _) (by decide) (RdL.nil _ _ _ _) (by decide) (fun _ h => nomatch h)
                clear hNl hNb
                go_wp2_with (refine hR.mono ?_; rintro e w7 ⟨rfl, b7⟩)
                refine ⟨b7.mono (by simp; omega), Rf.pl_quiet ?_⟩
                have B7 := below_tr (below_tr Hbd.out HNb.out) b7
                clear hR
                iterate 1 go_big_quiet_step (fail)
                refine wpQuiet_nil (Rf.pl_done ?_)
                refine hM _ _ (Met.intro (hJ _ _ ?_))
                (repeat apply Exists.intro)
                exact ⟨⟨rfl, B7⟩, rfl⟩
              · go_wp2
                refine ⟨(Below.refl _ _).alloc (by first | omega | (simp; omega)) _, Rf.pl_quiet ?_⟩
                iterate 1 go_big_quiet_step (fail)
                refine wpQuiet_nil (Rf.pl_one ?_)
                go_wp2
                refine ⟨(Below.refl _ _).alloc (by first | omega | (simp; omega)) _, Rf.pl_quiet ?_⟩
                iterate 1 go_big_quiet_step (fail)
                refine wpQuiet_nil (Rf.pl_one ?_)
                go_wp2
                refine ⟨(Below.refl _ _).alloc (by simp; omega) _, Rf.pl_one ?_⟩
                have hN := nest4 (n := 2) (T := 31) (V := wd) (K1 := #[.int .i64 kf, .string sf, .int .i64 tf.k, .string tf.x, .string tf.l, .string tf.y, .slice Af mf cf, .int .i64 ka', .string sa', .int .i64 ta'.k, .string ta'.x, .string ta'.l, .string ta'.y, .slice Aa' ma' ca']) (K2 := #[.int .i64 ka', .string sa', .int .i64 ta'.k, .string ta'.x, .string ta'.l, .string ta'.y, .slice Aa' ma' ca', .int .i64 kd, .string sd, .int .i64 td.k, .string td.x, .string td.l, .string td.y, .slice Ad md cd]) (K3 := #[.int .i64 ka', .string sa', .int .i64 ta'.k, .string ta'.x, .string ta'.l, .string ta'.y, .slice Aa' ma' ca']) (L := #[.int .i64 ka', .string sa', .int .i64 ta'.k, .string ta'.x, .string ta'.l, .string ta'.y, .slice Aa' ma' ca', .int .i64 3, .string ⟨#[]⟩, .int .i64 0, .string ⟨#[]⟩, .string ⟨#[]⟩, .string ⟨#[]⟩, .slice (some ⟨wd.heap.size + 1 + 1, 0, none⟩) 1 1, .int .i64 5, .string ⟨#[]⟩, .int .i64 0, .string ⟨#[]⟩, .string ⟨#[]⟩, .string ⟨#[]⟩, .slice (some ⟨wd.heap.size + 1, 0, none⟩) 2 2, .int .i64 4, .string ⟨#[]⟩, .int .i64 0, .string ⟨#[]⟩, .string ⟨#[]⟩, .string ⟨#[]⟩, .slice (some ⟨wd.heap.size, 0, none⟩) 2 2]) (m := 4) (SmX.cons sE (SmX.cons sA (SmX.nil 2 wd))) (SmX.cons sA (SmX.cons sD (SmX.nil 2 wd))) (SmX.cons sA (SmX.nil 2 wd)) (fun X bX l1 l2 l3 => SmX.cons (sA.later bX).up (SmX.cons (smK l3 (by decide)) (SmX.cons (smK l2 (by decide)) (SmX.cons (smK l1 (by decide)) (SmX.nil _ _)))))
                obtain ⟨hNl, hNb⟩ := hN
                have HNb := Lib.hid hNb
                have hR := lawRowsU (n := 3) (A := some ⟨wd.heap.size + 1 + 1 + 1, 0, none⟩) (m := 4) (c := 4) (vars := []) (A1 := none) (c1 := 0) (row := []) (A2 := none) (c2 := 0) hNl (by decide) (Rd.nil _ _) (by decide) (RdL.nil _ _ _ _) (by decide) (fun _ h => nomatch h)
                clear hNl hNb
                go_wp2_with (refine hR.mono ?_; rintro e w7 ⟨rfl, b7⟩)
                refine ⟨b7.mono (by simp; omega), Rf.pl_quiet ?_⟩
                have B7 := below_tr (below_tr Hbd.out HNb.out) b7
                clear hR
                iterate 1 go_big_quiet_step (fail)
                refine wpQuiet_nil (Rf.pl_done ?_)
                refine hM _ _ (Met.intro (hJ _ _ ?_))
                (repeat apply Exists.intro)
                exact ⟨⟨rfl, B7⟩, rfl⟩
          obtain ⟨rfl, hb20⟩ := hcut
          have hfin := Lib.hid (below_tr HBw.out hb20)
          clear hb20 d0 d1 d2 d3 d4 d5 d6 f0 f1 f2 f3 f4 f5 f6 z0 z1 z2 z3 z4 z5 z6 smd smf
          go_wp2
          go_roundw
          case rel =>
            first
              | exact ⟨n + 1, by omega, by go_num, hfin.out⟩
              | ((repeat apply Exists.intro); exact ⟨⟨n + 1, by omega, by go_num, hfin.out⟩, rfl⟩)
          case measure => simp [intOf]; omega
        · go_wp2
          go_loopw [12] (fun i wx => ∃ k : Int, -1 ≤ k ∧ k ≤ 17 ∧ i = .int .i64 k ∧ Below wt.heap.size wt wx) (fun i _ => (17 - intOf i).toNat)
          case atStart => exact ⟨-1, by omega, by omega, rfl, hBn⟩
          case round =>
            clear hBn hn hlt
            obtain ⟨k, hk0, hk1, rfl, hBk⟩ := hrel
            by_cases hlk : k < 17
            · obtain ⟨wk, rfl⟩ : ∃ wk, wk = wr := ⟨_, rfl⟩
              have hdk : decide (k < 17) = true := by simp; omega
              have HBk := Lib.hid hBk
              clear hBk
              go_wp2
              clear hdk
              go_loopw [13] (fun i wx => ∃ n : Int, 0 ≤ n ∧ n ≤ 4 ∧ i = .int .i64 n ∧ Below wt.heap.size wt wx) (fun i _ => (4 - intOf i).toNat)
              case atStart => exact ⟨0, by omega, by omega, rfl, HBk.out⟩
              case round =>
                obtain ⟨n, hn0, hn4, rfl, hBn⟩ := hrel
                by_cases hln : n < 4
                · obtain ⟨wn, rfl⟩ : ∃ wn, wn = wr := ⟨_, rfl⟩
                  have hdn : decide (n < 4) = true := by simp; omega
                  obtain ⟨t20, ht20⟩ : ∃ t, l[20]? = some t := ⟨_, List.getElem?_eq_getElem (by rw [Hl.out]; decide)⟩
                  have hz20 := HZ.out t20 (List.mem_of_getElem? ht20)
                  obtain ⟨ga, oa, ka, sa, ta, Aa, ma, ca, hea, sma, a0, a1, a2, a3, a4, a5, a6⟩ := (SmL.later H3.out hBn).at_ (j := 0) (by decide)
                  injection hea with hea; injection hea with h5 h6; subst h5; subst h6
                  simp only [Nat.zero_mul, Nat.zero_add, Nat.add_zero] at a0 a1 a2 a3 a4 a5 a6
                  obtain ⟨gb, ob, kb, sb, tb, Ab, mb, cb, heb, smb, b0, b1, b2, b3, b4, b5, b6⟩ := (SmL.later H3.out hBn).at_ (j := 1) (by decide)
                  injection heb with heb; injection heb with h5 h6; subst h5; subst h6
                  simp only [Nat.one_mul, Nat.zero_add] at b0 b1 b2 b3 b4 b5 b6
                  have HBn := Lib.hid hBn
                  clear hBn
                  go_upto_region 28 with (fail)
                  clear hdn
                  go_cut [14] from 176 to 186 (fun s wx => Lst 2 4 wn s wx)
                  case first =>
                    rename_i hJ hM
                    refine Rf.wp_region_pl wn.heap.size _ (Rf.Pl.quiet [0, 1, 2, 3, 4, 5, 6, 7, 8, 9] (Rf.Pl.one 10 (Rf.Pl.quiet [11] (Rf.Pl.done)))) _ (by kernel_rfl) (by kernel_rfl) (by simp only [Rf.Pl.pick, Rf.pickO, List.map_cons, List.map_nil, Rg.pickOps, List.getElem?_toArray, List.getElem?_cons_zero, List.getElem?_cons_succ, Option.getD_some]; rfl) ?_ (fun a w h => h)
                    intro wd hbd hwz
                    have hle := hbd.size
                    have Hbd := Lib.hid hbd
                    have ua0 := cellL a0 hbd
                    have ua1 := cellL a1 hbd
                    have ua2 := cellL a2 hbd
                    have ua3 := cellL a3 hbd
                    have ua4 := cellL a4 hbd
                    have ua5 := cellL a5 hbd
                    have ua6 := cellL a6 hbd
                    have ub0 := cellL b0 hbd
                    have ub1 := cellL b1 hbd
                    have ub2 := cellL b2 hbd
                    have ub3 := cellL b3 hbd
                    have ub4 := cellL b4 hbd
                    have ub5 := cellL b5 hbd
                    have ub6 := cellL b6 hbd
                    clear hwz hbd
                    refine Rf.pl_quiet ?_
                    iterate 10 go_big_quiet_step (fail)
                    refine wpQuiet_nil (Rf.pl_one ?_)
                    clear ua0 ua1 ua2 ua3 ua4 ua5 ua6 ub0 ub1 ub2 ub3 ub4 ub5 ub6
                    go_wp2
                    refine ⟨(Below.refl _ _).alloc hle _, Rf.pl_quiet ?_⟩
                    iterate 1 go_big_quiet_step (fail)
                    refine wpQuiet_nil (Rf.pl_done ?_)
                    refine hM _ _ (Met.intro (hJ _ _ ?_))
                    (repeat apply Exists.intro)
                    refine ⟨?_, rfl⟩
                    have hB3 := below_tr HBn.out Hbd.out
                    exact ⟨_, rfl, smL_alloc (SmX.cons (smV wd 1 1 ⟨#[122]⟩ (by decide)) (SmX.cons (sma.later Hbd.out).up (SmX.cons (SmE.mk (n := 1) (k := 3) (s := ⟨#[]⟩) (t := zTm) ((H3.out.later hB3).take 1 (by decide)) (by decide : 1 ≤ 3) (by decide) (by decide) szT0) (SmX.cons (smb.later Hbd.out).up (SmX.nil 2 wd))))), below_tr Hbd.out ((Below.refl _ _).alloc (Nat.le_refl _) _)⟩
                  obtain ⟨g4, rfl, h4, b4⟩ := hcut
                  have hB4 := below_tr HBn.out b4
                  have HB4 := Lib.hid hB4
                  have H4 := Lib.hid h4
                  obtain ⟨g', o', he', q0, q1, q2, q3⟩ := RdTs.at4 (RdTs.later HT.out.1 (below_tr HB3.out hB4)) ht20
                  injection he' with he'; injection he' with hg' ho'; subst hg'; subst ho'
                  simp only [Nat.reduceMul] at q0 q1 q2 q3
                  clear b4 h4 hB4 ht20 a0 a1 a2 a3 a4 a5 a6 b0 b1 b2 b3 b5 b6 sma smb
                  obtain ⟨w28, rfl⟩ : ∃ w28, w28 = wc := ⟨_, rfl⟩
                  rcases (show n = 0 ∨ n = 1 ∨ n = 2 ∨ n = 3 by omega) with rfl | rfl | rfl | rfl
                  · clear hn0 hn4 hln
                    go_upto_region 29 with (fail)
                    go_cut [15] from 187 to 201 (fun s wx => BxE 3 w28 s wx)
                    case first =>
                      rename_i hJ hM
                      refine Rf.wp_region_pl w28.heap.size _ (Rf.Pl.quiet [0, 2, 3, 6, 7, 8, 9, 10, 11, 12, 13] (Rf.Pl.fork 1 15 (Rf.Pl.quiet [4] (Rf.Pl.fork 5 15 (Rf.Pl.quiet [14] (Rf.Pl.one 15 (Rf.Pl.one 16 (Rf.Pl.done)))) (Rf.Pl.one 5 (Rf.Pl.quiet [14] (Rf.Pl.one 16 (Rf.Pl.done)))))) (Rf.Pl.one 1 (Rf.Pl.quiet [4] (Rf.Pl.one 5 (Rf.Pl.quiet [14] (Rf.Pl.one 16 (Rf.Pl.done)))))))) _ (by kernel_rfl) (by kernel_rfl) (by simp only [Rf.Pl.pick, Rf.pickO, List.map_cons, List.map_nil, Rg.pickOps, List.getElem?_toArray, List.getElem?_cons_zero, List.getElem?_cons_succ, Option.getD_some]; rfl) ?_ (fun a w h => h)
                      intro wd hbd hwz
                      have hle := hbd.size
                      have Hbd := Lib.hid hbd
                      have u0 := cellL q0 hbd
                      have u1 := cellL q1 hbd
                      have u2 := cellL q2 hbd
                      have u3 := cellL q3 hbd
                      clear hwz hbd
                      refine Rf.pl_quiet ?_
                      iterate 11 go_big_quiet_step (fail)
                      refine wpQuiet_nil (Rf.pl_fork ?_ ?_)
                      · clear u0 u1 u2 u3
                        go_wp2
                        refine ⟨(Below.refl _ _).alloc hle _, Rf.pl_quiet ?_⟩
                        iterate 1 go_big_quiet_step (fail)
                        refine wpQuiet_nil (Rf.pl_fork ?_ ?_)
                        · go_wp2
                          refine ⟨Below.refl _ _, Rf.pl_quiet ?_⟩
                          iterate 1 go_big_quiet_step (fail)
                          refine wpQuiet_nil (Rf.pl_one ?_)
                          go_wp2
                          refine ⟨(Below.refl _ _).alloc (by simp; omega) _, Rf.pl_one ?_⟩
                          go_wp2
                          refine ⟨below_reset (by simp; omega) _ _, Rf.pl_done ?_⟩
                          refine hM _ _ (Met.intro (hJ _ _ ?_))
                          (repeat apply Exists.intro)
                          refine ⟨?_, rfl⟩
                          have bv : Below wd.heap.size wd ((wd.alloc (.cells #[.string ⟨#[120]⟩, .string ⟨#[119]⟩] 9)).alloc (.cells #[.int .i64 k, .string ⟨#[120]⟩, .int .i64 t20.k, .string t20.x, .string t20.l, .string t20.y, .slice (some ⟨g4, 0, none⟩) 0 4] 31)) := ((Below.refl _ _).alloc (Nat.le_refl _) _).alloc (by simp) _
                          have bw := below_tr Hbd.out bv
                          exact ⟨_, _, _, t20, _, _, _, rfl, heap_two_2 wd _ _, SmE.mk (n := 2) (t := t20) ((H4.out.later bw).take 0 (by decide)) (by decide) (by decide) (by decide) hz20, bw⟩
                        · go_wp2
                          refine ⟨(Below.refl _ _).alloc (by simp; omega) _, Rf.pl_one ?_⟩
                          go_wp2
                          refine ⟨Below.refl _ _, Rf.pl_quiet ?_⟩
                          iterate 1 go_big_quiet_step (fail)
                          refine wpQuiet_nil (Rf.pl_one ?_)
                          go_wp2
                          refine ⟨below_reset (by simp; omega) _ _, Rf.pl_done ?_⟩
                          refine hM _ _ (Met.intro (hJ _ _ ?_))
                          (repeat apply Exists.intro)
                          refine ⟨?_, rfl⟩
                          have bv : Below wd.heap.size wd ((wd.alloc (.cells #[.string ⟨#[120]⟩, .string ⟨#[119]⟩] 9)).alloc (.cells #[.int .i64 k, .string ⟨#[120]⟩, .int .i64 t20.k, .string t20.x, .string t20.l, .string t20.y, .slice (some ⟨g4, 0, none⟩) 0 4] 31)) := ((Below.refl _ _).alloc (Nat.le_refl _) _).alloc (by simp) _
                          have bw := below_tr Hbd.out bv
                          exact ⟨_, _, _, t20, _, _, _, rfl, heap_two_2 wd _ _, SmE.mk (n := 2) (t := t20) ((H4.out.later bw).take 0 (by decide)) (by decide) (by decide) (by decide) hz20, bw⟩
                      · clear u0 u1 u2 u3
                        go_wp2
                        refine ⟨(Below.refl _ _).alloc hle _, Rf.pl_one ?_⟩
                        go_wp2
                        refine ⟨(Below.refl _ _).alloc (by simp; omega) _, Rf.pl_quiet ?_⟩
                        iterate 1 go_big_quiet_step (fail)
                        refine wpQuiet_nil (Rf.pl_one ?_)
                        go_wp2
                        refine ⟨Below.refl _ _, Rf.pl_quiet ?_⟩
                        iterate 1 go_big_quiet_step (fail)
                        refine wpQuiet_nil (Rf.pl_one ?_)
                        go_wp2
                        refine ⟨below_reset2 (by omega) _ _ _, Rf.pl_done ?_⟩
                        refine hM _ _ (Met.intro (hJ _ _ ?_))
                        (repeat apply Exists.intro)
                        refine ⟨?_, rfl⟩
                        have bv : Below wd.heap.size wd ((wd.alloc (.cells #[.int .i64 k, .string ⟨#[120]⟩, .int .i64 t20.k, .string t20.x, .string t20.l, .string t20.y, .slice (some ⟨g4, 0, none⟩) 0 4] 31)).alloc (.cells #[.string ⟨#[120]⟩, .string ⟨#[119]⟩] 9)) := ((Below.refl _ _).alloc (Nat.le_refl _) _).alloc (by simp) _
                        have bw := below_tr Hbd.out bv
                        exact ⟨_, _, _, t20, _, _, _, rfl, heap_two_1 wd _ _, SmE.mk (n := 2) (t := t20) ((H4.out.later bw).take 0 (by decide)) (by decide) (by decide) (by decide) hz20, bw⟩
                    obtain ⟨b, kx, sx, tx, Ax, mx, cx, rfl, hbh, smX, bX⟩ := hcut
                    have hBx := below_tr HB4.out bX
                    have HBx := Lib.hid hBx
                    have HsX := Lib.hid smX
                    obtain ⟨z0, z1, z2, z3, z4, z5, z6⟩ := cells7 hbh
                    clear smX bX hbh q0 q1 q2 q3
                    obtain ⟨ga, oa, ka, sa, ta, Aa, ma, ca, hea, sma, a0, a1, a2, a3, a4, a5, a6⟩ := (SmL.later H3.out hBx).at_ (j := 0) (by decide)
                    injection hea with hea; injection hea with h5 h6; subst h5; subst h6
                    simp only [Nat.zero_mul, Nat.zero_add, Nat.add_zero] at a0 a1 a2 a3 a4 a5 a6
                    clear hBx
                    go_upto_region 31 with (fail)
                    go_cut [222] from 206 to 221 (fun s wx => s = .bool false ∧ Below wc.heap.size wc wx)
                    case first =>
                      rename_i hJ hM
                      refine Rf.wp_region_pl wc.heap.size _ (Rf.Pl.quiet [0, 1, 2, 3, 4, 7, 11, 12, 13, 14] (Rf.Pl.fork 5 8 (Rf.Pl.quiet [6] (Rf.Pl.one 8 (Rf.Pl.quiet [9] (Rf.Pl.one 10 (Rf.Pl.one 15 (Rf.Pl.quiet [16] (Rf.Pl.done))))))) (Rf.Pl.quiet [9] (Rf.Pl.one 5 (Rf.Pl.quiet [6] (Rf.Pl.one 10 (Rf.Pl.one 15 (Rf.Pl.quiet [16] (Rf.Pl.done))))))))) _ (by kernel_rfl) (by kernel_rfl) (by simp only [Rf.Pl.pick, Rf.pickO, List.map_cons, List.map_nil, Rg.pickOps, List.getElem?_toArray, List.getElem?_cons_zero, List.getElem?_cons_succ, Option.getD_some]; rfl) ?_ (fun a w h => h)
                      intro wd hbd hwz
                      have hle := hbd.size
                      have Hbd := Lib.hid hbd
                      have uz0 := cellL z0 hbd
                      have uz1 := cellL z1 hbd
                      have uz2 := cellL z2 hbd
                      have uz3 := cellL z3 hbd
                      have uz4 := cellL z4 hbd
                      have uz5 := cellL z5 hbd
                      have uz6 := cellL z6 hbd
                      have ua0 := cellL a0 hbd
                      have ua1 := cellL a1 hbd
                      have ua2 := cellL a2 hbd
                      have ua3 := cellL a3 hbd
                      have ua4 := cellL a4 hbd
                      have ua5 := cellL a5 hbd
                      have ua6 := cellL a6 hbd
                      clear hwz hbd
                      refine Rf.pl_quiet ?_
                      iterate 10 go_big_quiet_step (fail)
                      have hlen : (l.take 0).length = 0 := by rw [List.length_take, Hl.out]; rfl
                      have sX := HsX.out.later Hbd.out
                      have sZ := (sma.up.up).later Hbd.out
                      refine wpQuiet_nil (Rf.pl_fork ?_ ?_)
                      · clear uz0 uz1 uz2 uz3 uz4 uz5 uz6 ua0 ua1 ua2 ua3 ua4 ua5 ua6
                        go_wp2
                        refine ⟨(Below.refl _ _).alloc (by first | omega | (simp; omega)) _, Rf.pl_quiet ?_⟩
                        iterate 1 go_big_quiet_step (fail)
                        refine wpQuiet_nil (Rf.pl_one ?_)
                        go_wp2
                        refine ⟨(Below.refl _ _).alloc (by first | omega | (simp; omega)) _, Rf.pl_quiet ?_⟩
                        iterate 1 go_big_quiet_step (fail)
                        refine wpQuiet_nil (Rf.pl_one ?_)
                        go_wp2
                        refine ⟨(Below.refl _ _).alloc (by simp; omega) _, Rf.pl_one ?_⟩
                        have hN := nest3 (n := 3) (T := 31) (V := wd) (K1 := #[.int .i64 kx, .string sx, .int .i64 tx.k, .string tx.x, .string tx.l, .string tx.y, .slice Ax mx cx, .int .i64 ka, .string sa, .int .i64 ta.k, .string ta.x, .string ta.l, .string ta.y, .slice Aa ma ca]) (K2 := #[.int .i64 kx, .string sx, .int .i64 tx.k, .string tx.x, .string tx.l, .string tx.y, .slice Ax mx cx]) (L := #[.int .i64 kx, .string sx, .int .i64 tx.k, .string tx.x, .string tx.l, .string tx.y, .slice Ax mx cx, .int .i64 6, .string ⟨#[]⟩, .int .i64 0, .string ⟨#[]⟩, .string ⟨#[]⟩, .string ⟨#[]⟩, .slice (some ⟨wd.heap.size, 0, none⟩) 2 2, .int .i64 13, .string ⟨#[]⟩, .int .i64 0, .string ⟨#[]⟩, .string ⟨#[]⟩, .string ⟨#[]⟩, .slice (some ⟨wd.heap.size + 1, 0, none⟩) 1 1]) (m := 3) (SmX.cons sX (SmX.cons sZ (SmX.nil 3 wd))) (SmX.cons sX (SmX.nil 3 wd)) (fun X bX l1 l2 => SmX.cons (sX.later bX).up (SmX.cons (smK l1 (by decide)) (SmX.cons (smK l2 (by decide)) (SmX.nil _ _))))
                        obtain ⟨hNl, hNb⟩ := hN
                        have HNb := Lib.hid hNb
                        have BN := below_tr HBx.out (below_tr Hbd.out hNb)
                        have hR := lawRowsU (n := 4) (A := some ⟨wd.heap.size + 1 + 1, 0, none⟩) (m := 3) (c := 3) (vars := names4) (A1 := some ⟨w1.heap.size, 0, none⟩) (c1 := 4) (row := l.take 0) (A2 := some ⟨g, o, none⟩) (c2 := c) hNl (by decide) (HT.out.2.later (below_tr HB3.out BN)) (by decide) ((RdTs.later HT.out.1 (below_tr HB3.out BN)).take 0) (by rw [hlen]; decide) (fun z hz => HZ.out z (List.mem_of_mem_take hz))
                        rw [hlen] at hR
                        clear hNl hNb BN
                        go_wp2_with (refine hR.mono ?_; rintro e w7 ⟨rfl, b7⟩)
                        refine ⟨b7.mono (by simp; omega), Rf.pl_quiet ?_⟩
                        have B7 := below_tr (below_tr Hbd.out HNb.out) b7
                        clear hR
                        iterate 1 go_big_quiet_step (fail)
                        refine wpQuiet_nil (Rf.pl_done ?_)
                        refine hM _ _ (Met.intro (hJ _ _ ?_))
                        (repeat apply Exists.intro)
                        exact ⟨⟨rfl, B7⟩, rfl⟩
                      · clear uz0 uz1 uz2 uz3 uz4 uz5 uz6 ua0 ua1 ua2 ua3 ua4 ua5 ua6
                        go_wp2
                        refine ⟨(Below.refl _ _).alloc (by first | omega | (simp; omega)) _, Rf.pl_quiet ?_⟩
                        iterate 1 go_big_quiet_step (fail)
                        refine wpQuiet_nil (Rf.pl_one ?_)
                        go_wp2
                        refine ⟨(Below.refl _ _).alloc (by first | omega | (simp; omega)) _, Rf.pl_quiet ?_⟩
                        iterate 1 go_big_quiet_step (fail)
                        refine wpQuiet_nil (Rf.pl_one ?_)
                        go_wp2
                        refine ⟨(Below.refl _ _).alloc (by simp; omega) _, Rf.pl_one ?_⟩
                        have hN := nest3 (n := 3) (T := 31) (V := wd) (K1 := #[.int .i64 kx, .string sx, .int .i64 tx.k, .string tx.x, .string tx.l, .string tx.y, .slice Ax mx cx]) (K2 := #[.int .i64 kx, .string sx, .int .i64 tx.k, .string tx.x, .string tx.l, .string tx.y, .slice Ax mx cx, .int .i64 ka, .string sa, .int .i64 ta.k, .string ta.x, .string ta.l, .string ta.y, .slice Aa ma ca]) (L := #[.int .i64 kx, .string sx, .int .i64 tx.k, .string tx.x, .string tx.l, .string tx.y, .slice Ax mx cx, .int .i64 6, .string ⟨#[]⟩, .int .i64 0, .string ⟨#[]⟩, .string ⟨#[]⟩, .string ⟨#[]⟩, .slice (some ⟨wd.heap.size + 1, 0, none⟩) 2 2, .int .i64 13, .string ⟨#[]⟩, .int .i64 0, .string ⟨#[]⟩, .string ⟨#[]⟩, .string ⟨#[]⟩, .slice (some ⟨wd.heap.size, 0, none⟩) 1 1]) (m := 3) (SmX.cons sX (SmX.nil 3 wd)) (SmX.cons sX (SmX.cons sZ (SmX.nil 3 wd))) (fun X bX l1 l2 => SmX.cons (sX.later bX).up (SmX.cons (smK l2 (by decide)) (SmX.cons (smK l1 (by decide)) (SmX.nil _ _))))
                        obtain ⟨hNl, hNb⟩ := hN
                        have HNb := Lib.hid hNb
                        have BN := below_tr HBx.out (below_tr Hbd.out hNb)
                        have hR := lawRowsU (n := 4) (A := some ⟨wd.heap.size + 1 + 1, 0, none⟩) (m := 3) (c := 3) (vars := names4) (A1 := some ⟨w1.heap.size, 0, none⟩) (c1 := 4) (row := l.take 0) (A2 := some ⟨g, o, none⟩) (c2 := c) hNl (by decide) (HT.out.2.later (below_tr HB3.out BN)) (by decide) ((RdTs.later HT.out.1 (below_tr HB3.out BN)).take 0) (by rw [hlen]; decide) (fun z hz => HZ.out z (List.mem_of_mem_take hz))
                        rw [hlen] at hR
                        clear hNl hNb BN
                        go_wp2_with (refine hR.mono ?_; rintro e w7 ⟨rfl, b7⟩)
                        refine ⟨b7.mono (by simp; omega), Rf.pl_quiet ?_⟩
                        have B7 := below_tr (below_tr Hbd.out HNb.out) b7
                        clear hR
                        iterate 1 go_big_quiet_step (fail)
                        refine wpQuiet_nil (Rf.pl_done ?_)
                        refine hM _ _ (Met.intro (hJ _ _ ?_))
                        (repeat apply Exists.intro)
                        exact ⟨⟨rfl, B7⟩, rfl⟩
                    obtain ⟨rfl, hbb⟩ := hcut
                    have HF := Lib.hid (below_tr HBx.out hbb)
                    clear hbb z0 z1 z2 z3 z4 z5 z6 a0 a1 a2 a3 a4 a5 a6 sma
                    go_wp2
                    go_roundw
                    case rel =>
                      first
                        | exact ⟨1, by decide, by decide, rfl, HF.out⟩
                        | ((repeat apply Exists.intro); exact ⟨⟨1, by decide, by decide, rfl, HF.out⟩, rfl⟩)
                    case measure => simp [intOf]
                  · clear hn0 hn4 hln
                    go_upto_region 29 with (fail)
                    go_cut [15] from 187 to 201 (fun s wx => BxE 3 w28 s wx)
                    case first =>
                      rename_i hJ hM
                      refine Rf.wp_region_pl w28.heap.size _ (Rf.Pl.quiet [0, 2, 3, 6, 7, 8, 9, 10, 11, 12, 13] (Rf.Pl.fork 1 15 (Rf.Pl.quiet [4] (Rf.Pl.fork 5 15 (Rf.Pl.quiet [14] (Rf.Pl.one 15 (Rf.Pl.one 16 (Rf.Pl.done)))) (Rf.Pl.one 5 (Rf.Pl.quiet [14] (Rf.Pl.one 16 (Rf.Pl.done)))))) (Rf.Pl.one 1 (Rf.Pl.quiet [4] (Rf.Pl.one 5 (Rf.Pl.quiet [14] (Rf.Pl.one 16 (Rf.Pl.done)))))))) _ (by kernel_rfl) (by kernel_rfl) (by simp only [Rf.Pl.pick, Rf.pickO, List.map_cons, List.map_nil, Rg.pickOps, List.getElem?_toArray, List.getElem?_cons_zero, List.getElem?_cons_succ, Option.getD_some]; rfl) ?_ (fun a w h => h)
                      intro wd hbd hwz
                      have hle := hbd.size
                      have Hbd := Lib.hid hbd
                      have u0 := cellL q0 hbd
                      have u1 := cellL q1 hbd
                      have u2 := cellL q2 hbd
                      have u3 := cellL q3 hbd
                      clear hwz hbd
                      refine Rf.pl_quiet ?_
                      iterate 11 go_big_quiet_step (fail)
                      refine wpQuiet_nil (Rf.pl_fork ?_ ?_)
                      · clear u0 u1 u2 u3
                        go_wp2
                        refine ⟨(Below.refl _ _).alloc hle _, Rf.pl_quiet ?_⟩
                        iterate 1 go_big_quiet_step (fail)
                        refine wpQuiet_nil (Rf.pl_fork ?_ ?_)
                        · go_wp2
                          refine ⟨Below.refl _ _, Rf.pl_quiet ?_⟩
                          iterate 1 go_big_quiet_step (fail)
                          refine wpQuiet_nil (Rf.pl_one ?_)
                          go_wp2
                          refine ⟨(Below.refl _ _).alloc (by simp; omega) _, Rf.pl_one ?_⟩
                          go_wp2
                          refine ⟨below_reset (by simp; omega) _ _, Rf.pl_done ?_⟩
                          refine hM _ _ (Met.intro (hJ _ _ ?_))
                          (repeat apply Exists.intro)
                          refine ⟨?_, rfl⟩
                          have bv : Below wd.heap.size wd ((wd.alloc (.cells #[.string ⟨#[120]⟩, .string ⟨#[119]⟩] 9)).alloc (.cells #[.int .i64 k, .string ⟨#[119]⟩, .int .i64 t20.k, .string t20.x, .string t20.l, .string t20.y, .slice (some ⟨g4, 7, none⟩) 0 3] 31)) := ((Below.refl _ _).alloc (Nat.le_refl _) _).alloc (by simp) _
                          have bw := below_tr Hbd.out bv
                          exact ⟨_, _, _, t20, _, _, _, rfl, heap_two_2 wd _ _, SmE.mk (n := 2) (t := t20) (((H4.out.later bw).drop 1).take 0 (by decide)) (by decide) (by decide) (by decide) hz20, bw⟩
                        · go_wp2
                          refine ⟨(Below.refl _ _).alloc (by simp; omega) _, Rf.pl_one ?_⟩
                          go_wp2
                          refine ⟨Below.refl _ _, Rf.pl_quiet ?_⟩
                          iterate 1 go_big_quiet_step (fail)
                          refine wpQuiet_nil (Rf.pl_one ?_)
                          go_wp2
                          refine ⟨below_reset (by simp; omega) _ _, Rf.pl_done ?_⟩
                          refine hM _ _ (Met.intro (hJ _ _ ?_))
                          (repeat apply Exists.intro)
                          refine ⟨?_, rfl⟩
                          have bv : Below wd.heap.size wd ((wd.alloc (.cells #[.string ⟨#[120]⟩, .string ⟨#[119]⟩] 9)).alloc (.cells #[.int .i64 k, .string ⟨#[119]⟩, .int .i64 t20.k, .string t20.x, .string t20.l, .string t20.y, .slice (some ⟨g4, 7, none⟩) 0 3] 31)) := ((Below.refl _ _).alloc (Nat.le_refl _) _).alloc (by simp) _
                          have bw := below_tr Hbd.out bv
                          exact ⟨_, _, _, t20, _, _, _, rfl, heap_two_2 wd _ _, SmE.mk (n := 2) (t := t20) (((H4.out.later bw).drop 1).take 0 (by decide)) (by decide) (by decide) (by decide) hz20, bw⟩
                      · clear u0 u1 u2 u3
                        go_wp2
                        refine ⟨(Below.refl _ _).alloc hle _, Rf.pl_one ?_⟩
                        go_wp2
                        refine ⟨(Below.refl _ _).alloc (by simp; omega) _, Rf.pl_quiet ?_⟩
                        iterate 1 go_big_quiet_step (fail)
                        refine wpQuiet_nil (Rf.pl_one ?_)
                        go_wp2
                        refine ⟨Below.refl _ _, Rf.pl_quiet ?_⟩
                        iterate 1 go_big_quiet_step (fail)
                        refine wpQuiet_nil (Rf.pl_one ?_)
                        go_wp2
                        refine ⟨below_reset2 (by omega) _ _ _, Rf.pl_done ?_⟩
                        refine hM _ _ (Met.intro (hJ _ _ ?_))
                        (repeat apply Exists.intro)
                        refine ⟨?_, rfl⟩
                        have bv : Below wd.heap.size wd ((wd.alloc (.cells #[.int .i64 k, .string ⟨#[119]⟩, .int .i64 t20.k, .string t20.x, .string t20.l, .string t20.y, .slice (some ⟨g4, 7, none⟩) 0 3] 31)).alloc (.cells #[.string ⟨#[120]⟩, .string ⟨#[119]⟩] 9)) := ((Below.refl _ _).alloc (Nat.le_refl _) _).alloc (by simp) _
                        have bw := below_tr Hbd.out bv
                        exact ⟨_, _, _, t20, _, _, _, rfl, heap_two_1 wd _ _, SmE.mk (n := 2) (t := t20) (((H4.out.later bw).drop 1).take 0 (by decide)) (by decide) (by decide) (by decide) hz20, bw⟩
                    obtain ⟨b, kx, sx, tx, Ax, mx, cx, rfl, hbh, smX, bX⟩ := hcut
                    have hBx := below_tr HB4.out bX
                    have HBx := Lib.hid hBx
                    have HsX := Lib.hid smX
                    obtain ⟨z0, z1, z2, z3, z4, z5, z6⟩ := cells7 hbh
                    clear smX bX hbh q0 q1 q2 q3
                    obtain ⟨ga, oa, ka, sa, ta, Aa, ma, ca, hea, sma, a0, a1, a2, a3, a4, a5, a6⟩ := (SmL.later H3.out hBx).at_ (j := 0) (by decide)
                    injection hea with hea; injection hea with h5 h6; subst h5; subst h6
                    simp only [Nat.zero_mul, Nat.zero_add, Nat.add_zero] at a0 a1 a2 a3 a4 a5 a6
                    clear hBx
                    go_upto_region 31 with (fail)
                    go_cut [222] from 206 to 221 (fun s wx => s = .bool false ∧ Below wc.heap.size wc wx)
                    case first =>
                      rename_i hJ hM
                      refine Rf.wp_region_pl wc.heap.size _ (Rf.Pl.quiet [0, 1, 2, 3, 4, 7, 11, 12, 13, 14] (Rf.Pl.fork 5 8 (Rf.Pl.quiet [6] (Rf.Pl.one 8 (Rf.Pl.quiet [9] (Rf.Pl.one 10 (Rf.Pl.one 15 (Rf.Pl.quiet [16] (Rf.Pl.done))))))) (Rf.Pl.quiet [9] (Rf.Pl.one 5 (Rf.Pl.quiet [6] (Rf.Pl.one 10 (Rf.Pl.one 15 (Rf.Pl.quiet [16] (Rf.Pl.done))))))))) _ (by kernel_rfl) (by kernel_rfl) (by simp only [Rf.Pl.pick, Rf.pickO, List.map_cons, List.map_nil, Rg.pickOps, List.getElem?_toArray, List.getElem?_cons_zero, List.getElem?_cons_succ, Option.getD_some]; rfl) ?_ (fun a w h => h)
                      intro wd hbd hwz
                      have hle := hbd.size
                      have Hbd := Lib.hid hbd
                      have uz0 := cellL z0 hbd
                      have uz1 := cellL z1 hbd
                      have uz2 := cellL z2 hbd
                      have uz3 := cellL z3 hbd
                      have uz4 := cellL z4 hbd
                      have uz5 := cellL z5 hbd
                      have uz6 := cellL z6 hbd
                      have ua0 := cellL a0 hbd
                      have ua1 := cellL a1 hbd
                      have ua2 := cellL a2 hbd
                      have ua3 := cellL a3 hbd
                      have ua4 := cellL a4 hbd
                      have ua5 := cellL a5 hbd
                      have ua6 := cellL a6 hbd
                      clear hwz hbd
                      refine Rf.pl_quiet ?_
                      iterate 10 go_big_quiet_step (fail)
                      have hlen : (l.take 1).length = 1 := by rw [List.length_take, Hl.out]; rfl
                      have sX := HsX.out.later Hbd.out
                      have sZ := (sma.up.up).later Hbd.out
                      refine wpQuiet_nil (Rf.pl_fork ?_ ?_)
                      · clear uz0 uz1 uz2 uz3 uz4 uz5 uz6 ua0 ua1 ua2 ua3 ua4 ua5 ua6
                        go_wp2
                        refine ⟨(Below.refl _ _).alloc (by first | omega | (simp; omega)) _, Rf.pl_quiet ?_⟩
                        iterate 1 go_big_quiet_step (fail)
                        refine wpQuiet_nil (Rf.pl_one ?_)
                        go_wp2
                        refine ⟨(Below.refl _ _).alloc (by first | omega | (simp; omega)) _, Rf.pl_quiet ?_⟩
                        iterate 1 go_big_quiet_step (fail)
                        refine wpQuiet_nil (Rf.pl_one ?_)
                        go_wp2
                        refine ⟨(Below.refl _ _).alloc (by simp; omega) _, Rf.pl_one ?_⟩
                        have hN := nest3 (n := 3) (T := 31) (V := wd) (K1 := #[.int .i64 kx, .string sx, .int .i64 tx.k, .string tx.x, .string tx.l, .string tx.y, .slice Ax mx cx, .int .i64 ka, .string sa, .int .i64 ta.k, .string ta.x, .string ta.l, .string ta.y, .slice Aa ma ca]) (K2 := #[.int .i64 kx, .string sx, .int .i64 tx.k, .string tx.x, .string tx.l, .string tx.y, .slice Ax mx cx]) (L := #[.int .i64 kx, .string sx, .int .i64 tx.k, .string tx.x, .string tx.l, .string tx.y, .slice Ax mx cx, .int .i64 6, .string ⟨#[]⟩, .int .i64 0, .string ⟨#[]⟩, .string ⟨#[]⟩, .string ⟨#[]⟩, .slice (some ⟨wd.heap.size, 0, none⟩) 2 2, .int .i64 13, .string ⟨#[]⟩, .int .i64 0, .string ⟨#[]⟩, .string ⟨#[]⟩, .string ⟨#[]⟩, .slice (some ⟨wd.heap.size + 1, 0, none⟩) 1 1]) (m := 3) (SmX.cons sX (SmX.cons sZ (SmX.nil 3 wd))) (SmX.cons sX (SmX.nil 3 wd)) (fun X bX l1 l2 => SmX.cons (sX.later bX).up (SmX.cons (smK l1 (by decide)) (SmX.cons (smK l2 (by decide)) (SmX.nil _ _))))
                        obtain ⟨hNl, hNb⟩ := hN
                        have HNb := Lib.hid hNb
                        have BN := below_tr HBx.out (below_tr Hbd.out hNb)
                        have hR := lawRowsU (n := 4) (A := some ⟨wd.heap.size + 1 + 1, 0, none⟩) (m := 3) (c := 3) (vars := names4) (A1 := some ⟨w1.heap.size, 0, none⟩) (c1 := 4) (row := l.take 1) (A2 := some ⟨g, o, none⟩) (c2 := c) hNl (by decide) (HT.out.2.later (below_tr HB3.out BN)) (by decide) ((RdTs.later HT.out.1 (below_tr HB3.out BN)).take 1) (by rw [hlen]; decide) (fun z hz => HZ.out z (List.mem_of_mem_take hz))
                        rw [hlen] at hR
                        clear hNl hNb BN
                        go_wp2_with (refine hR.mono ?_; rintro e w7 ⟨rfl, b7⟩)
                        refine ⟨b7.mono (by simp; omega), Rf.pl_quiet ?_⟩
                        have B7 := below_tr (below_tr Hbd.out HNb.out) b7
                        clear hR
                        iterate 1 go_big_quiet_step (fail)
                        refine wpQuiet_nil (Rf.pl_done ?_)
                        refine hM _ _ (Met.intro (hJ _ _ ?_))
                        (repeat apply Exists.intro)
                        exact ⟨⟨rfl, B7⟩, rfl⟩
                      · clear uz0 uz1 uz2 uz3 uz4 uz5 uz6 ua0 ua1 ua2 ua3 ua4 ua5 ua6
                        go_wp2
                        refine ⟨(Below.refl _ _).alloc (by first | omega | (simp; omega)) _, Rf.pl_quiet ?_⟩
                        iterate 1 go_big_quiet_step (fail)
                        refine wpQuiet_nil (Rf.pl_one ?_)
                        go_wp2
                        refine ⟨(Below.refl _ _).alloc (by first | omega | (simp; omega)) _, Rf.pl_quiet ?_⟩
                        iterate 1 go_big_quiet_step (fail)
                        refine wpQuiet_nil (Rf.pl_one ?_)
                        go_wp2
                        refine ⟨(Below.refl _ _).alloc (by simp; omega) _, Rf.pl_one ?_⟩
                        have hN := nest3 (n := 3) (T := 31) (V := wd) (K1 := #[.int .i64 kx, .string sx, .int .i64 tx.k, .string tx.x, .string tx.l, .string tx.y, .slice Ax mx cx]) (K2 := #[.int .i64 kx, .string sx, .int .i64 tx.k, .string tx.x, .string tx.l, .string tx.y, .slice Ax mx cx, .int .i64 ka, .string sa, .int .i64 ta.k, .string ta.x, .string ta.l, .string ta.y, .slice Aa ma ca]) (L := #[.int .i64 kx, .string sx, .int .i64 tx.k, .string tx.x, .string tx.l, .string tx.y, .slice Ax mx cx, .int .i64 6, .string ⟨#[]⟩, .int .i64 0, .string ⟨#[]⟩, .string ⟨#[]⟩, .string ⟨#[]⟩, .slice (some ⟨wd.heap.size + 1, 0, none⟩) 2 2, .int .i64 13, .string ⟨#[]⟩, .int .i64 0, .string ⟨#[]⟩, .string ⟨#[]⟩, .string ⟨#[]⟩, .slice (some ⟨wd.heap.size, 0, none⟩) 1 1]) (m := 3) (SmX.cons sX (SmX.nil 3 wd)) (SmX.cons sX (SmX.cons sZ (SmX.nil 3 wd))) (fun X bX l1 l2 => SmX.cons (sX.later bX).up (SmX.cons (smK l2 (by decide)) (SmX.cons (smK l1 (by decide)) (SmX.nil _ _))))
                        obtain ⟨hNl, hNb⟩ := hN
                        have HNb := Lib.hid hNb
                        have BN := below_tr HBx.out (below_tr Hbd.out hNb)
                        have hR := lawRowsU (n := 4) (A := some ⟨wd.heap.size + 1 + 1, 0, none⟩) (m := 3) (c := 3) (vars := names4) (A1 := some ⟨w1.heap.size, 0, none⟩) (c1 := 4) (row := l.take 1) (A2 := some ⟨g, o, none⟩) (c2 := c) hNl (by decide) (HT.out.2.later (below_tr HB3.out BN)) (by decide) ((RdTs.later HT.out.1 (below_tr HB3.out BN)).take 1) (by rw [hlen]; decide) (fun z hz => HZ.out z (List.mem_of_mem_take hz))
                        rw [hlen] at hR
                        clear hNl hNb BN
                        go_wp2_with (refine hR.mono ?_; rintro e w7 ⟨rfl, b7⟩)
                        refine ⟨b7.mono (by simp; omega), Rf.pl_quiet ?_⟩
                        have B7 := below_tr (below_tr Hbd.out HNb.out) b7
                        clear hR
                        iterate 1 go_big_quiet_step (fail)
                        refine wpQuiet_nil (Rf.pl_done ?_)
                        refine hM _ _ (Met.intro (hJ _ _ ?_))
                        (repeat apply Exists.intro)
                        exact ⟨⟨rfl, B7⟩, rfl⟩
                    obtain ⟨rfl, hbb⟩ := hcut
                    have HF := Lib.hid (below_tr HBx.out hbb)
                    clear hbb z0 z1 z2 z3 z4 z5 z6 a0 a1 a2 a3 a4 a5 a6 sma
                    go_wp2
                    go_roundw
                    case rel =>
                      first
                        | exact ⟨2, by decide, by decide, rfl, HF.out⟩
                        | ((repeat apply Exists.intro); exact ⟨⟨2, by decide, by decide, rfl, HF.out⟩, rfl⟩)
                    case measure => simp [intOf]
                  · clear hn0 hn4 hln
                    go_upto_region 29 with (fail)
                    go_cut [15] from 187 to 201 (fun s wx => BxE 3 w28 s wx)
                    case first =>
                      rename_i hJ hM
                      refine Rf.wp_region_pl w28.heap.size _ (Rf.Pl.quiet [0, 2, 3, 6, 7, 8, 9, 10, 11, 12, 13] (Rf.Pl.fork 1 15 (Rf.Pl.quiet [4] (Rf.Pl.fork 5 15 (Rf.Pl.quiet [14] (Rf.Pl.one 15 (Rf.Pl.one 16 (Rf.Pl.done)))) (Rf.Pl.one 5 (Rf.Pl.quiet [14] (Rf.Pl.one 16 (Rf.Pl.done)))))) (Rf.Pl.one 1 (Rf.Pl.quiet [4] (Rf.Pl.one 5 (Rf.Pl.quiet [14] (Rf.Pl.one 16 (Rf.Pl.done)))))))) _ (by kernel_rfl) (by kernel_rfl) (by simp only [Rf.Pl.pick, Rf.pickO, List.map_cons, List.map_nil, Rg.pickOps, List.getElem?_toArray, List.getElem?_cons_zero, List.getElem?_cons_succ, Option.getD_some]; rfl) ?_ (fun a w h => h)
                      intro wd hbd hwz
                      have hle := hbd.size
                      have Hbd := Lib.hid hbd
                      have u0 := cellL q0 hbd
                      have u1 := cellL q1 hbd
                      have u2 := cellL q2 hbd
                      have u3 := cellL q3 hbd
                      clear hwz hbd
                      refine Rf.pl_quiet ?_
                      iterate 11 go_big_quiet_step (fail)
                      refine wpQuiet_nil (Rf.pl_fork ?_ ?_)
                      · clear u0 u1 u2 u3
                        go_wp2
                        refine ⟨(Below.refl _ _).alloc hle _, Rf.pl_quiet ?_⟩
                        iterate 1 go_big_quiet_step (fail)
                        refine wpQuiet_nil (Rf.pl_fork ?_ ?_)
                        · go_wp2
                          refine ⟨Below.refl _ _, Rf.pl_quiet ?_⟩
                          iterate 1 go_big_quiet_step (fail)
                          refine wpQuiet_nil (Rf.pl_one ?_)
                          go_wp2
                          refine ⟨(Below.refl _ _).alloc (by simp; omega) _, Rf.pl_one ?_⟩
                          go_wp2
                          refine ⟨below_reset (by simp; omega) _ _, Rf.pl_done ?_⟩
                          refine hM _ _ (Met.intro (hJ _ _ ?_))
                          (repeat apply Exists.intro)
                          refine ⟨?_, rfl⟩
                          have bv : Below wd.heap.size wd ((wd.alloc (.cells #[.string ⟨#[120]⟩, .string ⟨#[119]⟩] 9)).alloc (.cells #[.int .i64 k, .string ⟨#[120]⟩, .int .i64 t20.k, .string t20.x, .string t20.l, .string t20.y, .slice (some ⟨g4, 0, none⟩) 2 4] 31)) := ((Below.refl _ _).alloc (Nat.le_refl _) _).alloc (by simp) _
                          have bw := below_tr Hbd.out bv
                          exact ⟨_, _, _, t20, _, _, _, rfl, heap_two_2 wd _ _, SmE.mk (n := 2) (t := t20) ((H4.out.later bw).take 2 (by decide)) (by decide) (by decide) (by decide) hz20, bw⟩
                        · go_wp2
                          refine ⟨(Below.refl _ _).alloc (by simp; omega) _, Rf.pl_one ?_⟩
                          go_wp2
                          refine ⟨Below.refl _ _, Rf.pl_quiet ?_⟩
                          iterate 1 go_big_quiet_step (fail)
                          refine wpQuiet_nil (Rf.pl_one ?_)
                          go_wp2
                          refine ⟨below_reset (by simp; omega) _ _, Rf.pl_done ?_⟩
                          refine hM _ _ (Met.intro (hJ _ _ ?_))
                          (repeat apply Exists.intro)
                          refine ⟨?_, rfl⟩
                          have bv : Below wd.heap.size wd ((wd.alloc (.cells #[.string ⟨#[120]⟩, .string ⟨#[119]⟩] 9)).alloc (.cells #[.int .i64 k, .string ⟨#[120]⟩, .int .i64 t20.k, .string t20.x, .string t20.l, .string t20.y, .slice (some ⟨g4, 0, none⟩) 2 4] 31)) := ((Below.refl _ _).alloc (Nat.le_refl _) _).alloc (by simp) _
                          have bw := below_tr Hbd.out bv
                          exact ⟨_, _, _, t20, _, _, _, rfl, heap_two_2 wd _ _, SmE.mk (n := 2) (t := t20) ((H4.out.later bw).take 2 (by decide)) (by decide) (by decide) (by decide) hz20, bw⟩
                      · clear u0 u1 u2 u3
                        go_wp2
                        refine ⟨(Below.refl _ _).alloc hle _, Rf.pl_one ?_⟩
                        go_wp2
                        refine ⟨(Below.refl _ _).alloc (by simp; omega) _, Rf.pl_quiet ?_⟩
                        iterate 1 go_big_quiet_step (fail)
                        refine wpQuiet_nil (Rf.pl_one ?_)
                        go_wp2
                        refine ⟨Below.refl _ _, Rf.pl_quiet ?_⟩
                        iterate 1 go_big_quiet_step (fail)
                        refine wpQuiet_nil (Rf.pl_one ?_)
                        go_wp2
                        refine ⟨below_reset2 (by omega) _ _ _, Rf.pl_done ?_⟩
                        refine hM _ _ (Met.intro (hJ _ _ ?_))
                        (repeat apply Exists.intro)
                        refine ⟨?_, rfl⟩
                        have bv : Below wd.heap.size wd ((wd.alloc (.cells #[.int .i64 k, .string ⟨#[120]⟩, .int .i64 t20.k, .string t20.x, .string t20.l, .string t20.y, .slice (some ⟨g4, 0, none⟩) 2 4] 31)).alloc (.cells #[.string ⟨#[120]⟩, .string ⟨#[119]⟩] 9)) := ((Below.refl _ _).alloc (Nat.le_refl _) _).alloc (by simp) _
                        have bw := below_tr Hbd.out bv
                        exact ⟨_, _, _, t20, _, _, _, rfl, heap_two_1 wd _ _, SmE.mk (n := 2) (t := t20) ((H4.out.later bw).take 2 (by decide)) (by decide) (by decide) (by decide) hz20, bw⟩
                    obtain ⟨b, kx, sx, tx, Ax, mx, cx, rfl, hbh, smX, bX⟩ := hcut
                    have hBx := below_tr HB4.out bX
                    have HBx := Lib.hid hBx
                    have HsX := Lib.hid smX
                    obtain ⟨z0, z1, z2, z3, z4, z5, z6⟩ := cells7 hbh
                    clear smX bX hbh q0 q1 q2 q3
                    obtain ⟨ga, oa, ka, sa, ta, Aa, ma, ca, hea, sma, a0, a1, a2, a3, a4, a5, a6⟩ := (SmL.later H3.out hBx).at_ (j := 0) (by decide)
                    injection hea with hea; injection hea with h5 h6; subst h5; subst h6
                    simp only [Nat.zero_mul, Nat.zero_add, Nat.add_zero] at a0 a1 a2 a3 a4 a5 a6
                    clear hBx
                    go_upto_region 31 with (fail)
                    go_cut [222] from 206 to 221 (fun s wx => s = .bool false ∧ Below wc.heap.size wc wx)
                    case first =>
                      rename_i hJ hM
                      refine Rf.wp_region_pl wc.heap.size _ (Rf.Pl.quiet [0, 1, 2, 3, 4, 7, 11, 12, 13, 14] (Rf.Pl.fork 5 8 (Rf.Pl.quiet [6] (Rf.Pl.one 8 (Rf.Pl.quiet [9] (Rf.Pl.one 10 (Rf.Pl.one 15 (Rf.Pl.quiet [16] (Rf.Pl.done))))))) (Rf.Pl.quiet [9] (Rf.Pl.one 5 (Rf.Pl.quiet [6] (Rf.Pl.one 10 (Rf.Pl.one 15 (Rf.Pl.quiet [16] (Rf.Pl.done))))))))) _ (by kernel_rfl) (by kernel_rfl) (by simp only [Rf.Pl.pick, Rf.pickO, List.map_cons, List.map_nil, Rg.pickOps, List.getElem?_toArray, List.getElem?_cons_zero, List.getElem?_cons_succ, Option.getD_some]; rfl) ?_ (fun a w h => h)
                      intro wd hbd hwz
                      have hle := hbd.size
                      have Hbd := Lib.hid hbd
                      have uz0 := cellL z0 hbd
                      have uz1 := cellL z1 hbd
                      have uz2 := cellL z2 hbd
                      have uz3 := cellL z3 hbd
                      have uz4 := cellL z4 hbd
                      have uz5 := cellL z5 hbd
                      have uz6 := cellL z6 hbd
                      have ua0 := cellL a0 hbd
                      have ua1 := cellL a1 hbd
                      have ua2 := cellL a2 hbd
                      have ua3 := cellL a3 hbd
                      have ua4 := cellL a4 hbd
                      have ua5 := cellL a5 hbd
                      have ua6 := cellL a6 hbd
                      clear hwz hbd
                      refine Rf.pl_quiet ?_
                      iterate 10 go_big_quiet_step (fail)
                      have hlen : (l.take 2).length = 2 := by rw [List.length_take, Hl.out]; rfl
                      have sX := HsX.out.later Hbd.out
                      have sZ := (sma.up.up).later Hbd.out
                      refine wpQuiet_nil (Rf.pl_fork ?_ ?_)
                      · clear uz0 uz1 uz2 uz3 uz4 uz5 uz6 ua0 ua1 ua2 ua3 ua4 ua5 ua6
                        go_wp2
                        refine ⟨(Below.refl _ _).alloc (by first | omega | (simp; omega)) _, Rf.pl_quiet ?_⟩
                        iterate 1 go_big_quiet_step (fail)
                        refine wpQuiet_nil (Rf.pl_one ?_)
                        go_wp2
                        refine ⟨(Below.refl _ _).alloc (by first | omega | (simp; omega)) _, Rf.pl_quiet ?_⟩
                        iterate 1 go_big_quiet_step (fail)
                        refine wpQuiet_nil (Rf.pl_one ?_)
                        go_wp2
                        refine ⟨(Below.refl _ _).alloc (by simp; omega) _, Rf.pl_one ?_⟩
                        have hN := nest3 (n := 3) (T := 31) (V := wd) (K1 := #[.int .i64 kx, .string sx, .int .i64 tx.k, .string tx.x, .string tx.l, .string tx.y, .slice Ax mx cx, .int .i64 ka, .string sa, .int .i64 ta.k, .string ta.x, .string ta.l, .string ta.y, .slice Aa ma ca]) (K2 := #[.int .i64 kx, .string sx, .int .i64 tx.k, .string tx.x, .string tx.l, .string tx.y, .slice Ax mx cx]) (L := #[.int .i64 kx, .string sx, .int .i64 tx.k, .string tx.x, .string tx.l, .string tx.y, .slice Ax mx cx, .int .i64 6, .string ⟨#[]⟩, .int .i64 0, .string ⟨#[]⟩, .string ⟨#[]⟩, .string ⟨#[]⟩, .slice (some ⟨wd.heap.size, 0, none⟩) 2 2, .int .i64 13, .string ⟨#[]⟩, .int .i64 0, .string ⟨#[]⟩, .string ⟨#[]⟩, .string ⟨#[]⟩, .slice (some ⟨wd.heap.size + 1, 0, none⟩) 1 1]) (m := 3) (SmX.cons sX (SmX.cons sZ (SmX.nil 3 wd))) (SmX.cons sX (SmX.nil 3 wd)) (fun X bX l1 l2 => SmX.cons (sX.later bX).up (SmX.cons (smK l1 (by decide)) (SmX.cons (smK l2 (by decide)) (SmX.nil _ _))))
                        obtain ⟨hNl, hNb⟩ := hN
                        have HNb := Lib.hid hNb
                        have BN := below_tr HBx.out (below_tr Hbd.out hNb)
                        have hR := lawRowsU (n := 4) (A := some ⟨wd.heap.size + 1 + 1, 0, none⟩) (m := 3) (c := 3) (vars := names4) (A1 := some ⟨w1.heap.size, 0, none⟩) (c1 := 4) (row := l.take 2) (A2 := some ⟨g, o, none⟩) (c2 := c) hNl (by decide) (HT.out.2.later (below_tr HB3.out BN)) (by decide) ((RdTs.later HT.out.1 (below_tr HB3.out BN)).take 2) (by rw [hlen]; decide) (fun z hz => HZ.out z (List.mem_of_mem_take hz))
                        rw [hlen] at hR
                        clear hNl hNb BN
                        go_wp2_with (refine hR.mono ?_; rintro e w7 ⟨rfl, b7⟩)
                        refine ⟨b7.mono (by simp; omega), Rf.pl_quiet ?_⟩
                        have B7 := below_tr (below_tr Hbd.out HNb.out) b7
                        clear hR
                        iterate 1 go_big_quiet_step (fail)
                        refine wpQuiet_nil (Rf.pl_done ?_)
                        refine hM _ _ (Met.intro (hJ _ _ ?_))
                        (repeat apply Exists.intro)
                        exact ⟨⟨rfl, B7⟩, rfl⟩
                      · clear uz0 uz1 uz2 uz3 uz4 uz5 uz6 ua0 ua1 ua2 ua3 ua4 ua5 ua6
                        go_wp2
                        refine ⟨(Below.refl _ _).alloc (by first | omega | (simp; omega)) _, Rf.pl_quiet ?_⟩
                        iterate 1 go_big_quiet_step (fail)
                        refine wpQuiet_nil (Rf.pl_one ?_)
                        go_wp2
                        refine ⟨(Below.refl _ _).alloc (by first | omega | (simp; omega)) _, Rf.pl_quiet ?_⟩
                        iterate 1 go_big_quiet_step (fail)
                        refine wpQuiet_nil (Rf.pl_one ?_)
                        go_wp2
                        refine ⟨(Below.refl _ _).alloc (by simp; omega) _, Rf.pl_one ?_⟩
                        have hN := nest3 (n := 3) (T := 31) (V := wd) (K1 := #[.int .i64 kx, .string sx, .int .i64 tx.k, .string tx.x, .string tx.l, .string tx.y, .slice Ax mx cx]) (K2 := #[.int .i64 kx, .string sx, .int .i64 tx.k, .string tx.x, .string tx.l, .string tx.y, .slice Ax mx cx, .int .i64 ka, .string sa, .int .i64 ta.k, .string ta.x, .string ta.l, .string ta.y, .slice Aa ma ca]) (L := #[.int .i64 kx, .string sx, .int .i64 tx.k, .string tx.x, .string tx.l, .string tx.y, .slice Ax mx cx, .int .i64 6, .string ⟨#[]⟩, .int .i64 0, .string ⟨#[]⟩, .string ⟨#[]⟩, .string ⟨#[]⟩, .slice (some ⟨wd.heap.size + 1, 0, none⟩) 2 2, .int .i64 13, .string ⟨#[]⟩, .int .i64 0, .string ⟨#[]⟩, .string ⟨#[]⟩, .string ⟨#[]⟩, .slice (some ⟨wd.heap.size, 0, none⟩) 1 1]) (m := 3) (SmX.cons sX (SmX.nil 3 wd)) (SmX.cons sX (SmX.cons sZ (SmX.nil 3 wd))) (fun X bX l1 l2 => SmX.cons (sX.later bX).up (SmX.cons (smK l2 (by decide)) (SmX.cons (smK l1 (by decide)) (SmX.nil _ _))))
                        obtain ⟨hNl, hNb⟩ := hN
                        have HNb := Lib.hid hNb
                        have BN := below_tr HBx.out (below_tr Hbd.out hNb)
                        have hR := lawRowsU (n := 4) (A := some ⟨wd.heap.size + 1 + 1, 0, none⟩) (m := 3) (c := 3) (vars := names4) (A1 := some ⟨w1.heap.size, 0, none⟩) (c1 := 4) (row := l.take 2) (A2 := some ⟨g, o, none⟩) (c2 := c) hNl (by decide) (HT.out.2.later (below_tr HB3.out BN)) (by decide) ((RdTs.later HT.out.1 (below_tr HB3.out BN)).take 2) (by rw [hlen]; decide) (fun z hz => HZ.out z (List.mem_of_mem_take hz))
                        rw [hlen] at hR
                        clear hNl hNb BN
                        go_wp2_with (refine hR.mono ?_; rintro e w7 ⟨rfl, b7⟩)
                        refine ⟨b7.mono (by simp; omega), Rf.pl_quiet ?_⟩
                        have B7 := below_tr (below_tr Hbd.out HNb.out) b7
                        clear hR
                        iterate 1 go_big_quiet_step (fail)
                        refine wpQuiet_nil (Rf.pl_done ?_)
                        refine hM _ _ (Met.intro (hJ _ _ ?_))
                        (repeat apply Exists.intro)
                        exact ⟨⟨rfl, B7⟩, rfl⟩
                    obtain ⟨rfl, hbb⟩ := hcut
                    have HF := Lib.hid (below_tr HBx.out hbb)
                    clear hbb z0 z1 z2 z3 z4 z5 z6 a0 a1 a2 a3 a4 a5 a6 sma
                    go_wp2
                    go_roundw
                    case rel =>
                      first
                        | exact ⟨3, by decide, by decide, rfl, HF.out⟩
                        | ((repeat apply Exists.intro); exact ⟨⟨3, by decide, by decide, rfl, HF.out⟩, rfl⟩)
                    case measure => simp [intOf]
                  · clear hn0 hn4 hln
                    go_upto_region 29 with (fail)
                    go_cut [15] from 187 to 201 (fun s wx => BxE 3 w28 s wx)
                    case first =>
                      rename_i hJ hM
                      refine Rf.wp_region_pl w28.heap.size _ (Rf.Pl.quiet [0, 2, 3, 6, 7, 8, 9, 10, 11, 12, 13] (Rf.Pl.fork 1 15 (Rf.Pl.quiet [4] (Rf.Pl.fork 5 15 (Rf.Pl.quiet [14] (Rf.Pl.one 15 (Rf.Pl.one 16 (Rf.Pl.done)))) (Rf.Pl.one 5 (Rf.Pl.quiet [14] (Rf.Pl.one 16 (Rf.Pl.done)))))) (Rf.Pl.one 1 (Rf.Pl.quiet [4] (Rf.Pl.one 5 (Rf.Pl.quiet [14] (Rf.Pl.one 16 (Rf.Pl.done)))))))) _ (by kernel_rfl) (by kernel_rfl) (by simp only [Rf.Pl.pick, Rf.pickO, List.map_cons, List.map_nil, Rg.pickOps, List.getElem?_toArray, List.getElem?_cons_zero, List.getElem?_cons_succ, Option.getD_some]; rfl) ?_ (fun a w h => h)
                      intro wd hbd hwz
                      have hle := hbd.size
                      have Hbd := Lib.hid hbd
                      have u0 := cellL q0 hbd
                      have u1 := cellL q1 hbd
                      have u2 := cellL q2 hbd
                      have u3 := cellL q3 hbd
                      clear hwz hbd
                      refine Rf.pl_quiet ?_
                      iterate 11 go_big_quiet_step (fail)
                      refine wpQuiet_nil (Rf.pl_fork ?_ ?_)
                      · clear u0 u1 u2 u3
                        go_wp2
                        refine ⟨(Below.refl _ _).alloc hle _, Rf.pl_quiet ?_⟩
                        iterate 1 go_big_quiet_step (fail)
                        refine wpQuiet_nil (Rf.pl_fork ?_ ?_)
                        · go_wp2
                          refine ⟨Below.refl _ _, Rf.pl_quiet ?_⟩
                          iterate 1 go_big_quiet_step (fail)
                          refine wpQuiet_nil (Rf.pl_one ?_)
                          go_wp2
                          refine ⟨(Below.refl _ _).alloc (by simp; omega) _, Rf.pl_one ?_⟩
                          go_wp2
                          refine ⟨below_reset (by simp; omega) _ _, Rf.pl_done ?_⟩
                          refine hM _ _ (Met.intro (hJ _ _ ?_))
                          (repeat apply Exists.intro)
                          refine ⟨?_, rfl⟩
                          have bv : Below wd.heap.size wd ((wd.alloc (.cells #[.string ⟨#[120]⟩, .string ⟨#[119]⟩] 9)).alloc (.cells #[.int .i64 k, .string ⟨#[119]⟩, .int .i64 t20.k, .string t20.x, .string t20.l, .string t20.y, .slice (some ⟨g4, 7, none⟩) 2 3] 31)) := ((Below.refl _ _).alloc (Nat.le_refl _) _).alloc (by simp) _
                          have bw := below_tr Hbd.out bv
                          exact ⟨_, _, _, t20, _, _, _, rfl, heap_two_2 wd _ _, SmE.mk (n := 2) (t := t20) (((H4.out.later bw).drop 1).take 2 (by decide)) (by decide) (by decide) (by decide) hz20, bw⟩
                        · go_wp2
                          refine ⟨(Below.refl _ _).alloc (by simp; omega) _, Rf.pl_one ?_⟩
                          go_wp2
                          refine ⟨Below.refl _ _, Rf.pl_quiet ?_⟩
                          iterate 1 go_big_quiet_step (fail)
                          refine wpQuiet_nil (Rf.pl_one ?_)
                          go_wp2
                          refine ⟨below_reset (by simp; omega) _ _, Rf.pl_done ?_⟩
                          refine hM _ _ (Met.intro (hJ _ _ ?_))
                          (repeat apply Exists.intro)
                          refine ⟨?_, rfl⟩
                          have bv : Below wd.heap.size wd ((wd.alloc (.cells #[.string ⟨#[120]⟩, .string ⟨#[119]⟩] 9)).alloc (.cells #[.int .i64 k, .string ⟨#[119]⟩, .int .i64 t20.k, .string t20.x, .string t20.l, .string t20.y, .slice (some ⟨g4, 7, none⟩) 2 3] 31)) := ((Below.refl _ _).alloc (Nat.le_refl _) _).alloc (by simp) _
                          have bw := below_tr Hbd.out bv
                          exact ⟨_, _, _, t20, _, _, _, rfl, heap_two_2 wd _ _, SmE.mk (n := 2) (t := t20) (((H4.out.later bw).drop 1).take 2 (by decide)) (by decide) (by decide) (by decide) hz20, bw⟩
                      · clear u0 u1 u2 u3
                        go_wp2
                        refine ⟨(Below.refl _ _).alloc hle _, Rf.pl_one ?_⟩
                        go_wp2
                        refine ⟨(Below.refl _ _).alloc (by simp; omega) _, Rf.pl_quiet ?_⟩
                        iterate 1 go_big_quiet_step (fail)
                        refine wpQuiet_nil (Rf.pl_one ?_)
                        go_wp2
                        refine ⟨Below.refl _ _, Rf.pl_quiet ?_⟩
                        iterate 1 go_big_quiet_step (fail)
                        refine wpQuiet_nil (Rf.pl_one ?_)
                        go_wp2
                        refine ⟨below_reset2 (by omega) _ _ _, Rf.pl_done ?_⟩
                        refine hM _ _ (Met.intro (hJ _ _ ?_))
                        (repeat apply Exists.intro)
                        refine ⟨?_, rfl⟩
                        have bv : Below wd.heap.size wd ((wd.alloc (.cells #[.int .i64 k, .string ⟨#[119]⟩, .int .i64 t20.k, .string t20.x, .string t20.l, .string t20.y, .slice (some ⟨g4, 7, none⟩) 2 3] 31)).alloc (.cells #[.string ⟨#[120]⟩, .string ⟨#[119]⟩] 9)) := ((Below.refl _ _).alloc (Nat.le_refl _) _).alloc (by simp) _
                        have bw := below_tr Hbd.out bv
                        exact ⟨_, _, _, t20, _, _, _, rfl, heap_two_1 wd _ _, SmE.mk (n := 2) (t := t20) (((H4.out.later bw).drop 1).take 2 (by decide)) (by decide) (by decide) (by decide) hz20, bw⟩
                    obtain ⟨b, kx, sx, tx, Ax, mx, cx, rfl, hbh, smX, bX⟩ := hcut
                    have hBx := below_tr HB4.out bX
                    have HBx := Lib.hid hBx
                    have HsX := Lib.hid smX
                    obtain ⟨z0, z1, z2, z3, z4, z5, z6⟩ := cells7 hbh
                    clear smX bX hbh q0 q1 q2 q3
                    obtain ⟨ga, oa, ka, sa, ta, Aa, ma, ca, hea, sma, a0, a1, a2, a3, a4, a5, a6⟩ := (SmL.later H3.out hBx).at_ (j := 0) (by decide)
                    injection hea with hea; injection hea with h5 h6; subst h5; subst h6
                    simp only [Nat.zero_mul, Nat.zero_add, Nat.add_zero] at a0 a1 a2 a3 a4 a5 a6
                    clear hBx
                    go_upto_region 31 with (fail)
                    go_cut [222] from 206 to 221 (fun s wx => s = .bool false ∧ Below wc.heap.size wc wx)
                    case first =>
                      rename_i hJ hM
                      refine Rf.wp_region_pl wc.heap.size _ (Rf.Pl.quiet [0, 1, 2, 3, 4, 7, 11, 12, 13, 14] (Rf.Pl.fork 5 8 (Rf.Pl.quiet [6] (Rf.Pl.one 8 (Rf.Pl.quiet [9] (Rf.Pl.one 10 (Rf.Pl.one 15 (Rf.Pl.quiet [16] (Rf.Pl.done))))))) (Rf.Pl.quiet [9] (Rf.Pl.one 5 (Rf.Pl.quiet [6] (Rf.Pl.one 10 (Rf.Pl.one 15 (Rf.Pl.quiet [16] (Rf.Pl.done))))))))) _ (by kernel_rfl) (by kernel_rfl) (by simp only [Rf.Pl.pick, Rf.pickO, List.map_cons, List.map_nil, Rg.pickOps, List.getElem?_toArray, List.getElem?_cons_zero, List.getElem?_cons_succ, Option.getD_some]; rfl) ?_ (fun a w h => h)
                      intro wd hbd hwz
                      have hle := hbd.size
                      have Hbd := Lib.hid hbd
                      have uz0 := cellL z0 hbd
                      have uz1 := cellL z1 hbd
                      have uz2 := cellL z2 hbd
                      have uz3 := cellL z3 hbd
                      have uz4 := cellL z4 hbd
                      have uz5 := cellL z5 hbd
                      have uz6 := cellL z6 hbd
                      have ua0 := cellL a0 hbd
                      have ua1 := cellL a1 hbd
                      have ua2 := cellL a2 hbd
                      have ua3 := cellL a3 hbd
                      have ua4 := cellL a4 hbd
                      have ua5 := cellL a5 hbd
                      have ua6 := cellL a6 hbd
                      clear hwz hbd
                      refine Rf.pl_quiet ?_
                      iterate 10 go_big_quiet_step (fail)
                      have hlen : (l.take 3).length = 3 := by rw [List.length_take, Hl.out]; rfl
                      have sX := HsX.out.later Hbd.out
                      have sZ := (sma.up.up).later Hbd.out
                      refine wpQuiet_nil (Rf.pl_fork ?_ ?_)
                      · clear uz0 uz1 uz2 uz3 uz4 uz5 uz6 ua0 ua1 ua2 ua3 ua4 ua5 ua6
                        go_wp2
                        refine ⟨(Below.refl _ _).alloc (by first | omega | (simp; omega)) _, Rf.pl_quiet ?_⟩
                        iterate 1 go_big_quiet_step (fail)
                        refine wpQuiet_nil (Rf.pl_one ?_)
                        go_wp2
                        refine ⟨(Below.refl _ _).alloc (by first | omega | (simp; omega)) _, Rf.pl_quiet ?_⟩
                        iterate 1 go_big_quiet_step (fail)
                        refine wpQuiet_nil (Rf.pl_one ?_)
                        go_wp2
                        refine ⟨(Below.refl _ _).alloc (by simp; omega) _, Rf.pl_one ?_⟩
                        have hN := nest3 (n := 3) (T := 31) (V := wd) (K1 := #[.int .i64 kx, .string sx, .int .i64 tx.k, .string tx.x, .string tx.l, .string tx.y, .slice Ax mx cx, .int .i64 ka, .string sa, .int .i64 ta.k, .string ta.x, .string ta.l, .string ta.y, .slice Aa ma ca]) (K2 := #[.int .i64 kx, .string sx, .int .i64 tx.k, .string tx.x, .string tx.l, .string tx.y, .slice Ax mx cx]) (L := #[.int .i64 kx, .string sx, .int .i64 tx.k, .string tx.x, .string tx.l, .string tx.y, .slice Ax mx cx, .int .i64 6, .string ⟨#[]⟩, .int .i64 0, .string ⟨#[]⟩, .string ⟨#[]⟩, .string ⟨#[]⟩, .slice (some ⟨wd.heap.size, 0, none⟩) 2 2, .int .i64 13, .string ⟨#[]⟩, .int .i64 0, .string ⟨#[]⟩, .string ⟨#[]⟩, .string ⟨#[]⟩, .slice (some ⟨wd.heap.size + 1, 0, none⟩) 1 1]) (m := 3) (SmX.cons sX (SmX.cons sZ (SmX.nil 3 wd))) (SmX.cons sX (SmX.nil 3 wd)) (fun X bX l1 l2 => SmX.cons (sX.later bX).up (SmX.cons (smK l1 (by decide)) (SmX.cons (smK l2 (by decide)) (SmX.nil _ _))))
                        obtain ⟨hNl, hNb⟩ := hN
                        have HNb := Lib.hid hNb
                        have BN := below_tr HBx.out (below_tr Hbd.out hNb)
                        have hR := lawRowsU (n := 4) (A := some ⟨wd.heap.size + 1 + 1, 0, none⟩) (m := 3) (c := 3) (vars := names4) (A1 := some ⟨w1.heap.size, 0, none⟩) (c1 := 4) (row := l.take 3) (A2 := some ⟨g, o, none⟩) (c2 := c) hNl (by decide) (HT.out.2.later (below_tr HB3.out BN)) (by decide) ((RdTs.later HT.out.1 (below_tr HB3.out BN)).take 3) (by rw [hlen]; decide) (fun z hz => HZ.out z (List.mem_of_mem_take hz))
                        rw [hlen] at hR
                        clear hNl hNb BN
                        go_wp2_with (refine hR.mono ?_; rintro e w7 ⟨rfl, b7⟩)
                        refine ⟨b7.mono (by simp; omega), Rf.pl_quiet ?_⟩
                        have B7 := below_tr (below_tr Hbd.out HNb.out) b7
                        clear hR
                        iterate 1 go_big_quiet_step (fail)
                        refine wpQuiet_nil (Rf.pl_done ?_)
                        refine hM _ _ (Met.intro (hJ _ _ ?_))
                        (repeat apply Exists.intro)
                        exact ⟨⟨rfl, B7⟩, rfl⟩
                      · clear uz0 uz1 uz2 uz3 uz4 uz5 uz6 ua0 ua1 ua2 ua3 ua4 ua5 ua6
                        go_wp2
                        refine ⟨(Below.refl _ _).alloc (by first | omega | (simp; omega)) _, Rf.pl_quiet ?_⟩
                        iterate 1 go_big_quiet_step (fail)
                        refine wpQuiet_nil (Rf.pl_one ?_)
                        go_wp2
                        refine ⟨(Below.refl _ _).alloc (by first | omega | (simp; omega)) _, Rf.pl_quiet ?_⟩
                        iterate 1 go_big_quiet_step (fail)
                        refine wpQuiet_nil (Rf.pl_one ?_)
                        go_wp2
                        refine ⟨(Below.refl _ _).alloc (by simp; omega) _, Rf.pl_one ?_⟩
                        have hN := nest3 (n := 3) (T := 31) (V := wd) (K1 := #[.int .i64 kx, .string sx, .int .i64 tx.k, .string tx.x, .string tx.l, .string tx.y, .slice Ax mx cx]) (K2 := #[.int .i64 kx, .string sx, .int .i64 tx.k, .string tx.x, .string tx.l, .string tx.y, .slice Ax mx cx, .int .i64 ka, .string sa, .int .i64 ta.k, .string ta.x, .string ta.l, .string ta.y, .slice Aa ma ca]) (L := #[.int .i64 kx, .string sx, .int .i64 tx.k, .string tx.x, .string tx.l, .string tx.y, .slice Ax mx cx, .int .i64 6, .string ⟨#[]⟩, .int .i64 0, .string ⟨#[]⟩, .string ⟨#[]⟩, .string ⟨#[]⟩, .slice (some ⟨wd.heap.size + 1, 0, none⟩) 2 2, .int .i64 13, .string ⟨#[]⟩, .int .i64 0, .string ⟨#[]⟩, .string ⟨#[]⟩, .string ⟨#[]⟩, .slice (some ⟨wd.heap.size, 0, none⟩) 1 1]) (m := 3) (SmX.cons sX (SmX.nil 3 wd)) (SmX.cons sX (SmX.cons sZ (SmX.nil 3 wd))) (fun X bX l1 l2 => SmX.cons (sX.later bX).up (SmX.cons (smK l2 (by decide)) (SmX.cons (smK l1 (by decide)) (SmX.nil _ _))))
                        obtain ⟨hNl, hNb⟩ := hN
                        have HNb := Lib.hid hNb
                        have BN := below_tr HBx.out (below_tr Hbd.out hNb)
                        have hR := lawRowsU (n := 4) (A := some ⟨wd.heap.size + 1 + 1, 0, none⟩) (m := 3) (c := 3) (vars := names4) (A1 := some ⟨w1.heap.size, 0, none⟩) (c1 := 4) (row := l.take 3) (A2 := some ⟨g, o, none⟩) (c2 := c) hNl (by decide) (HT.out.2.later (below_tr HB3.out BN)) (by decide) ((RdTs.later HT.out.1 (below_tr HB3.out BN)).take 3) (by rw [hlen]; decide) (fun z hz => HZ.out z (List.mem_of_mem_take hz))
                        rw [hlen] at hR
                        clear hNl hNb BN
                        go_wp2_with (refine hR.mono ?_; rintro e w7 ⟨rfl, b7⟩)
                        refine ⟨b7.mono (by simp; omega), Rf.pl_quiet ?_⟩
                        have B7 := below_tr (below_tr Hbd.out HNb.out) b7
                        clear hR
                        iterate 1 go_big_quiet_step (fail)
                        refine wpQuiet_nil (Rf.pl_done ?_)
                        refine hM _ _ (Met.intro (hJ _ _ ?_))
                        (repeat apply Exists.intro)
                        exact ⟨⟨rfl, B7⟩, rfl⟩
                    obtain ⟨rfl, hbb⟩ := hcut
                    have HF := Lib.hid (below_tr HBx.out hbb)
                    clear hbb z0 z1 z2 z3 z4 z5 z6 a0 a1 a2 a3 a4 a5 a6 sma
                    go_wp2
                    go_roundw
                    case rel =>
                      first
                        | exact ⟨4, by decide, by decide, rfl, HF.out⟩
                        | ((repeat apply Exists.intro); exact ⟨⟨4, by decide, by decide, rfl, HF.out⟩, rfl⟩)
                    case measure => simp [intOf]
                · clear hn0 hn4
                  go_wp2
                  go_roundw
                  case rel => exact ⟨k + 1, by omega, by omega, by go_num, hBn⟩
                  case measure => simp [intOf]; omega
            · have HB9 := Lib.hid hBk
              have hdk : decide (k < 17) = false := by simp; omega
              clear hBk hlk
              go_wp2_with fail
              refine (lawFilterTerms 0 ⟨#[]⟩ ⟨#[]⟩ ⟨#[]⟩ 0 ⟨#[]⟩ ⟨#[]⟩ ⟨#[]⟩ [] none 0 wr (by decide) (by decide) (by decide) (Rd.nil _ _)).mono ?_
              rintro e v1 ⟨rfl, hv1⟩
              have HV1 := Lib.hid (below_tr HB9.out hv1)
              clear hv1
              go_wp2_with fail
              refine (lawRowsU (n := 1) (A := none) (m := 0) (c := 0) (vars := []) (A1 := none) (c1 := 0) (row := []) (A2 := none) (c2 := 0) (SmL.nil _ _ _) (by decide) (Rd.nil _ _) (by decide) (RdL.nil _ _ _ _) (by decide) (fun _ h => nomatch h)).mono ?_
              rintro e v2 ⟨rfl, hv2⟩
              have HV2 := Lib.hid (below_tr HV1.out hv2)
              clear hv2
              go_wp2_with fail
              refine (lawAwake _).mono ?_
              rintro e v3 ⟨rfl, hv3⟩
              go_wp2
              go_ret
              exact ⟨rfl, below_tr HB1.out (below_tr HB3.out (below_tr HV2.out hv3))⟩
end Go.Proofs.YtfijpdmkdoccjaaGreatDoor
