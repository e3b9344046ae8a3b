/- The answer for term (ossuaryref08): Parse. Printed by gen/r8h.py. -/
import Derived.Test.YtheeklkcaapkbaaGreatDoorJR8g
import Derived.Deep.CutRange
namespace Go.Proofs.YtheeklkcaapkbaaGreatDoor
open Go Go.RowKit Um Fm Lx Tx

theorem getD_bn (s : ByteArray) (i : Nat) (c : UInt8) (h : bn s i = c.toNat) : (s.data.toList.getD i 0 == c) = true := by
  rw [beq_iff_eq]; exact UInt8.toNat_inj.1 h
theorem getD_nb (s : ByteArray) (i : Nat) (c : UInt8) (h : ¬ bn s i = c.toNat) : (s.data.toList.getD i 0 == c) = false := by
  rw [beq_eq_false_iff_ne]; intro e; exact h (by unfold bn; rw [e])
/-- What the answer finds, by what stands where. -/
theorem gR_iri {s : ByteArray} (h0 : 2 ≤ s.size) (h1 : bn s 0 = 60) (h2 : bn s (s.size - 1) = 62) : guessR s.data.toList = ⟨1, mkS (rdG puR ((s.data.toList.drop 1).take (s.size - 2))), ⟨#[]⟩, ⟨#[]⟩⟩ := by
  unfold guessR
  rw [size_toList, decide_eq_true h0, getD_bn s 0 60 h1, getD_bn s _ 62 h2]; rfl
theorem gR_blank {s : ByteArray} (h0 : 2 ≤ s.size) (h1 : bn s 0 = 95) (h2 : bn s 1 = 58) : guessR s.data.toList = ⟨2, mkS (s.data.toList.drop 2), ⟨#[]⟩, ⟨#[]⟩⟩ := by
  unfold guessR
  rw [size_toList, decide_eq_true h0, getD_nb s 0 60 (by rw [h1]; decide), getD_bn s 0 95 h1, getD_bn s 1 58 h2]; rfl
abbrev zT0 : Tm := ⟨0, ⟨#[]⟩, ⟨#[]⟩, ⟨#[]⟩⟩
theorem gR_short {s : ByteArray} (h0 : ¬ 2 ≤ s.size) : guessR s.data.toList = zT0 := by
  unfold guessR
  rw [size_toList, decide_eq_false h0]; rfl
theorem gR_iri' {s : ByteArray} (h1 : bn s 0 = 60) (h2 : ¬ bn s (s.size - 1) = 62) : guessR s.data.toList = zT0 := by
  unfold guessR
  rw [size_toList, getD_nb s _ 62 h2, getD_nb s 0 95 (by rw [h1]; decide), getD_nb s 0 34 (by rw [h1]; decide)]; simp
theorem gR_blank' {s : ByteArray} (h1 : bn s 0 = 95) (h2 : ¬ bn s 1 = 58) : guessR s.data.toList = zT0 := by
  unfold guessR
  rw [getD_nb s 0 60 (by rw [h1]; decide), getD_nb s 1 58 h2, getD_nb s 0 34 (by rw [h1]; decide)]; simp
theorem gR_none {s : ByteArray} (h1 : ¬ bn s 0 = 60) (h2 : ¬ bn s 0 = 95) (h3 : ¬ bn s 0 = 34) : guessR s.data.toList = zT0 := by
  unfold guessR
  rw [getD_nb s 0 60 h1, getD_nb s 0 95 h2, getD_nb s 0 34 h3]; simp
theorem gR_open {s : ByteArray} (h1 : bn s 0 = 34) (h2 : qtL s.data.toList = 0) : guessR s.data.toList = zT0 := by
  unfold guessR
  rw [getD_nb s 0 60 (by rw [h1]; decide), getD_nb s 0 95 (by rw [h1]; decide), h2]; simp
/-- A literal's end. -/
def litR (lit : ByteArray) (r : List UInt8) : Tm :=
  if decide (1 < r.length) && r.getD 0 0 == 64 then ⟨3, lit, mkS (r.drop 1), ⟨#[]⟩⟩
  else if decide (4 ≤ r.length) && r.take 3 == [94, 94, 60] && r.getD (r.length - 1) 0 == 62 then ⟨4, lit, ⟨#[]⟩, mkS (rdG puR ((r.drop 3).take (r.length - 4)))⟩
  else ⟨3, lit, ⟨#[]⟩, ⟨#[]⟩⟩
theorem gR_lit {s : ByteArray} (h0 : 2 ≤ s.size) (h1 : bn s 0 = 34) {n : Nat} (h2 : qtL s.data.toList = n) (hn : n ≠ 0) : guessR s.data.toList = litR (mkS (rdG puR ((s.data.toList.drop 1).take (n - 2)))) (s.data.toList.drop n) := by
  unfold guessR litR
  rw [size_toList, decide_eq_true h0, getD_nb s 0 60 (by rw [h1]; decide), getD_nb s 0 95 (by rw [h1]; decide), getD_bn s 0 34 h1, h2]
  have : (n == 0) = false := by simpa using hn
  rw [this]; rfl
theorem lR_tag {lit u : ByteArray} {r : List UInt8} (hr : u.data.toList = r) (h0 : 1 < u.size) (h1 : bn u 0 = 64) : litR lit r = ⟨3, lit, mkS (r.drop 1), ⟨#[]⟩⟩ := by
  subst hr; unfold litR; rw [size_toList, decide_eq_true h0, getD_bn u 0 64 h1]; rfl
theorem lR_type {lit u : ByteArray} {r : List UInt8} (hr : u.data.toList = r) (h1 : ¬ bn u 0 = 64) (h2 : 4 ≤ u.size) (h3 : (r.take 3 == [94, 94, 60]) = true) (h4 : bn u (u.size - 1) = 62) : litR lit r = ⟨4, lit, ⟨#[]⟩, mkS (rdG puR ((r.drop 3).take (r.length - 4)))⟩ := by
  subst hr; unfold litR; rw [size_toList, getD_nb u 0 64 h1, decide_eq_true h2, h3, getD_bn u _ 62 h4, Bool.and_false]; rfl
theorem lR_short {lit u : ByteArray} {r : List UInt8} (hr : u.data.toList = r) (h0 : ¬ 1 < u.size) : litR lit r = ⟨3, lit, ⟨#[]⟩, ⟨#[]⟩⟩ := by
  subst hr; unfold litR; rw [size_toList, decide_eq_false h0, decide_eq_false (by omega : ¬ 4 ≤ u.size)]; rfl
theorem lR_short4 {lit u : ByteArray} {r : List UInt8} (hr : u.data.toList = r) (h1 : ¬ bn u 0 = 64) (h0 : ¬ 4 ≤ u.size) : litR lit r = ⟨3, lit, ⟨#[]⟩, ⟨#[]⟩⟩ := by
  subst hr; unfold litR; rw [size_toList, getD_nb u 0 64 h1, decide_eq_false h0, Bool.and_false]; rfl
theorem lR_no {lit u : ByteArray} {r : List UInt8} (hr : u.data.toList = r) (h1 : ¬ bn u 0 = 64) (h3 : (r.take 3 == [94, 94, 60]) = false) : litR lit r = ⟨3, lit, ⟨#[]⟩, ⟨#[]⟩⟩ := by
  subst hr; unfold litR; rw [getD_nb u 0 64 h1, h3, Bool.and_false, Bool.and_false, Bool.false_and]; rfl
theorem lR_end {lit u : ByteArray} {r : List UInt8} (hr : u.data.toList = r) (h1 : ¬ bn u 0 = 64) (h4 : ¬ bn u (u.size - 1) = 62) : litR lit r = ⟨3, lit, ⟨#[]⟩, ⟨#[]⟩⟩ := by
  subst hr; unfold litR; rw [size_toList, getD_nb u 0 64 h1, getD_nb u _ 62 h4, Bool.and_false, Bool.and_false]; rfl
theorem parseR_same (l : List UInt8) : parseP l = if 4096 < l.length then (zT0, 3) else if okP l (guessR l) then (guessR l, 0) else (zT0, 10) := by
  unfold parseP
  rw [(guess_same l).1]
  split
  · rfl
  · split
    · rename_i h; rw [(guess_same l).2 (by rw [(guess_same l).1]; exact h)]
    · rfl
theorem guessR_small (l : List UInt8) (h : l.length ≤ 1000000) : smallT (guessR l) := by
  have z : (⟨#[]⟩ : ByteArray).size = 0 := rfl
  have h1 : ∀ q : List UInt8, q.length ≤ 1000000 → (rdG puR q).length ≤ 1000000 := fun q hq => Nat.le_trans (rdG_len _ _) hq
  unfold guessR smallT
  repeat' split
  all_goals (simp only [mkS_size, z]; refine ⟨?_, ?_, ?_⟩ <;> first | omega | (apply h1; simp only [List.length_take, List.length_drop]; omega) | (simp only [List.length_drop]; omega))
/-- A term's block. -/
abbrev TB (w V : World) (cs : Array Value) : Prop := V.heap[w.heap.size + 1]? = some (.cells cs 24 (0, 0))
theorem TB.step {w V V' : World} {cs : Array Value} (h : TB w V cs) (hb : Below V.heap.size V V') : TB w V' cs := below_blk hb h
theorem TB.d {w V : World} {a0 a1 a2 a3 : Value} (h : TB w V #[a0, a1, a2, a3]) : V.cell? ⟨w.heap.size + 1, 0, none⟩ = some a0 ∧ V.cell? ⟨w.heap.size + 1, 1, none⟩ = some a1 ∧ V.cell? ⟨w.heap.size + 1, 2, none⟩ = some a2 ∧ V.cell? ⟨w.heap.size + 1, 3, none⟩ = some a3 ∧ ∀ i, V.frozen? ⟨w.heap.size + 1, i, none⟩ = false :=
  ⟨by rw [Lib.cell_of_heap h]; rfl, by rw [Lib.cell_of_heap h]; rfl, by rw [Lib.cell_of_heap h]; rfl, by rw [Lib.cell_of_heap h]; rfl, fun i => Lib.frozen_of_heap h i⟩
theorem TB.set {w V : World} {cs : Array Value} (h : TB w V cs) (i : Nat) (v : Value) : TB w (V.setCell ⟨w.heap.size + 1, i, none⟩ v) (cs.setIfInBounds i v) := by
  unfold TB at *
  simp [World.setCell, Array.getElem?_modify, h]
theorem zT.set {w V : World} (h : zT w V) (i : Nat) (v : Value) : zT w (V.setCell ⟨w.heap.size + 1, i, none⟩ v) := by
  unfold zT at *
  rw [← h]
  exact Below.heap_setCell _ _ _ _ (by simp)
/-- What the parts of the reading keep. -/
abbrev TZ (w V : World) (cs : Array Value) : Prop := TB w V cs ∧ zT w V ∧ Below w.heap.size w V
theorem TZ.set {w V : World} {cs : Array Value} (h : TZ w V cs) (i : Nat) (v : Value) : TZ w (V.setCell ⟨w.heap.size + 1, i, none⟩ v) (cs.setIfInBounds i v) :=
  ⟨h.1.set i v, h.2.1.set i v, h.2.2.setCell (p := ⟨w.heap.size + 1, i, none⟩) (by simp) _⟩
theorem TB.fin {w V : World} {a0 a1 a2 a3 v0 v1 v2 v3 : Value} (h : TZ w V #[a0, a1, a2, a3]) {cs : Array Value} (hc : #[v0, v1, v2, v3] = cs) :
    TZ w ((((V.setCell ⟨w.heap.size + 1, 0, none⟩ v0).setCell ⟨w.heap.size + 1, 1, none⟩ v1).setCell ⟨w.heap.size + 1, 2, none⟩ v2).setCell ⟨w.heap.size + 1, 3, none⟩ v3) cs := by
  subst hc; exact (((h.set 0 v0).set 1 v1).set 2 v2).set 3 v3
theorem TB.fin2 {w V : World} {a0 a1 a2 a3 v0 v1 v2 v3 u2 : Value} (h : TZ w V #[a0, a1, a2, a3]) {cs : Array Value} (hc : #[v0, v1, u2, v3] = cs) :
    TZ w (((((V.setCell ⟨w.heap.size + 1, 0, none⟩ v0).setCell ⟨w.heap.size + 1, 1, none⟩ v1).setCell ⟨w.heap.size + 1, 2, none⟩ v2).setCell ⟨w.heap.size + 1, 3, none⟩ v3).setCell ⟨w.heap.size + 1, 2, none⟩ u2) cs := by
  subst hc; exact ((((h.set 0 v0).set 1 v1).set 2 v2).set 3 v3).set 2 u2
set_option maxHeartbeats 4000000 in
set_option maxRecDepth 100000 in
theorem r08Parse (s : ByteArray) (w : World) (hs : s.size ≤ 1000000) :
    Calls Tryz.prog 46 #[.string s] w fun e w' => e = .returned (.tuple #[tA (parseP s.data.toList).1, .int .i64 (parseP s.data.toList).2]) ∧ Below w.heap.size w w' := by
  have hB0 : Below w.heap.size w (w.alloc (.cells #[.int .i64 0, .string ⟨#[]⟩, .string ⟨#[]⟩, .string ⟨#[]⟩] 24)) := (Below.refl _ w).alloc (Nat.le_refl _) _
  have hblk := zT.new w
  have hg0 : (w.alloc (.cells #[.int .i64 0, .string ⟨#[]⟩, .string ⟨#[]⟩, .string ⟨#[]⟩] 24)).heap.size = w.heap.size + 1 := by simp
  have hsm := guessR_small s.data.toList (by rw [size_toList]; exact hs)
  obtain ⟨t, ht⟩ : ∃ t, guessR s.data.toList = t := ⟨_, rfl⟩
  obtain ⟨res, hres⟩ : ∃ r, parseP s.data.toList = r := ⟨_, rfl⟩
  rw [hres]
  have HR : Hid (res = if 4096 < s.size then (zT0, 3) else if okP s.data.toList t then (t, 0) else (zT0, 10)) := by show _ = _; rw [← hres, parseR_same, size_toList, ht]
  rw [ht] at hsm
  have hRt := fun W => r08Right' t W hsm
  have hTx := fun W => r08Text t W hsm
  have hEn := fun W => r08End s W hs
  have HB0 := Lib.hid hB0
  have Hbk := Lib.hid hblk
  have HT := Lib.hid ht
  clear ht hres hB0 hblk
  by_cases hl : 4096 < s.size
  · rw [if_pos hl] at HR
    clear hRt hTx hEn
    obtain ⟨d0, d1, d2, d3, f0⟩ := zT.d Hbk.out
    go_enter Tryz.func46, Tryz.ntmps46
    go_wp2
    refine bodyPost_ret (v := .tuple #[tA res.1, .int .i64 res.2]) (by rw [HR.out]; simp [results, Tryz.results46, go_sem, d0, d1, d2, d3]) rfl ⟨rfl, ?_⟩
    first | exact HB0.out | exact HB0.out.trans (below_set4 (Nat.le_refl _) _ _ _ _)
  rw [if_neg hl] at HR
  have hs4 : s.size ≤ 4096 := by omega
  go_enter Tryz.func46, Tryz.ntmps46
  go_upto_region 1 with fail
  generalize w.alloc (.cells #[.int .i64 0, .string ⟨#[]⟩, .string ⟨#[]⟩, .string ⟨#[]⟩] 24) = W0 at *
  have hw0 : w.heap.size ≤ W0.heap.size := by omega
  go_upto_region 4 with fail
  have ha1 : Below W0.heap.size W0 (W0.alloc (.cells #[.int .i64 0, .string ⟨#[]⟩, .string ⟨#[]⟩, .string ⟨#[]⟩] 24)) := (Below.refl _ _).alloc (Nat.le_refl _) _
  have hg1 := heap_alloc_new W0 (.cells #[.int .i64 0, .string ⟨#[]⟩, .string ⟨#[]⟩, .string ⟨#[]⟩] 24)
  rw [hg0] at hg1
  have hz1 := Hbk.out.step ha1
  have HB1 := Lib.hid (HB0.out.trans (ha1.mono hw0))
  have hs1 : (W0.alloc (.cells #[.int .i64 0, .string ⟨#[]⟩, .string ⟨#[]⟩, .string ⟨#[]⟩] 24)).heap.size = w.heap.size + 2 := by simp; omega
  generalize W0.alloc (.cells #[.int .i64 0, .string ⟨#[]⟩, .string ⟨#[]⟩, .string ⟨#[]⟩] 24) = W1 at *
  have Hz1 := Lib.hid hz1
  have Hg1 := Lib.hid (show TB w W1 #[.int .i64 0, .string ⟨#[]⟩, .string ⟨#[]⟩, .string ⟨#[]⟩] from hg1)
  have Hs1 := Lib.hid hs1
  clear ha1 hg1 hz1 hs1 hg0 Hbk HB0
  go_cut [5] from 11 to 12 (fun v wx => v = .int .i64 ((qtL s.data.toList : Int) - 1) ∧ wx = W1)
  case first =>
    go_wp2_with (go_at_call 68; with_reducible refine (hEn _).mono ?_; rintro e w1 ⟨rfl, rfl⟩)
    go_meet
    case rel => exact ⟨rfl, rfl⟩
  case rest =>
    obtain ⟨rfl, rfl⟩ := hcut
    obtain ⟨n, hn⟩ : ∃ n, qtL s.data.toList = n := ⟨_, rfl⟩
    rw [hn]
    have Hn := Lib.hid hn
    clear hn
    apply_assumption
    refine wp_seq_k ?_
    intro K5 hK5
    go_cut [] from 13 to 112 (fun wx => wx.heap[w.heap.size + 1]? = some (.cells (tC8 t) 24 (0, 0)) ∧ zT w wx ∧ Below w.heap.size w wx)
    case first =>
      clear hRt hTx HR hEn
      have HT2 := Lib.hid HT.out
      obtain ⟨e0, e1, e2, e3, ez⟩ := TB.d Hg1.out
      have hqn : n = 0 ∨ (1 < n ∧ n ≤ s.size) := by
        rw [← Hn.out]
        rcases qtF_le (s.data.toList.drop 1) 1 with h | ⟨h1, h2⟩
        · exact .inl h
        · refine .inr ⟨h1, ?_⟩
          have h3 : (s.data.toList.drop 1).length = s.size - 1 := by rw [List.length_drop, size_toList]
          have h4 : 1 ≤ (s.data.toList.drop 1).length := by unfold qtL at *; omega
          show qtF (s.data.toList.drop 1) 1 ≤ s.size
          omega
      have HQ := Lib.hid hqn
      clear hqn
      by_cases h2 : 2 ≤ s.size
      case neg =>
        obtain rfl : t = zT0 := by rw [← HT.out, gR_short h2]
        clear HT HT2
        go_wp2
        go_meet
        case rel => exact ⟨Hg1.out, Hz1.out, HB1.out⟩
      have h2i : (2 : Int) ≤ s.size := by omega
      by_cases x60 : bn s 0 = 60
      · by_cases l62 : bn s (s.size - 1) = 62
        · obtain rfl : t = _ := HT.out.symm.trans (gR_iri h2 x60 l62)
          have hBk := fun W => r08Back (s.extract 1 (s.size - 1)) W (by rw [ByteArray.size_extract]; omega)
          have hm : (s.extract 1 (s.size - 1)).data.toList = (s.data.toList.drop 1).take (s.size - 2) := by rw [extract_toList]; rfl
          rw [hm] at hBk
          clear HT HT2 hm
          generalize rdG puR ((s.data.toList.drop 1).take (s.size - 2)) = rd at *
          go_wp2_with (first | (go_at_call 69; with_reducible refine (hBk _).mono ?_; rintro e v1 ⟨rfl, k1⟩; have g1 := Hg1.out.step k1; have z1 := Hz1.out.step k1; obtain ⟨e0, e1, e2, e3, ez⟩ := TB.d g1; have Bk := Lib.hid (And.intro g1 (And.intro z1 (below_tr HB1.out k1)))))
          go_meet
          case rel => exact TB.fin Bk.out rfl
        · obtain rfl : t = zT0 := by rw [← HT.out, gR_iri' x60 l62]
          have l62b : ((bn s (s.size - 1) : Int) == 62) = false := by simp; omega
          clear HT HT2
          go_wp2
          go_meet
          case rel => exact ⟨Hg1.out, Hz1.out, HB1.out⟩
      have x60b : ((bn s 0 : Int) == 60) = false := by simp; omega
      by_cases x95 : bn s 0 = 95
      · by_cases y58 : bn s 1 = 58
        · obtain rfl : t = _ := HT.out.symm.trans (gR_blank h2 x95 y58)
          have hx2 : s.extract 2 s.size = mkS (s.data.toList.drop 2) := ba_ext (drop_ext s 2)
          clear HT HT2 x60
          generalize mkS (s.data.toList.drop 2) = tl at *
          have Bk := Lib.hid (And.intro Hg1.out (And.intro Hz1.out HB1.out))
          go_wp2
          go_meet
          case rel => exact TB.fin Bk.out rfl
        · obtain rfl : t = zT0 := by rw [← HT.out, gR_blank' x95 y58]
          have y58b : ((bn s 1 : Int) == 58) = false := by simp; omega
          clear HT HT2 x60
          go_wp2
          go_meet
          case rel => exact ⟨Hg1.out, Hz1.out, HB1.out⟩
      have x95b : ((bn s 0 : Int) == 95) = false := by simp; omega
      by_cases x34 : bn s 0 = 34
      case neg =>
        obtain rfl : t = zT0 := by rw [← HT.out, gR_none x60 x95 x34]
        have x34b : ((bn s 0 : Int) == 34) = false := by simp; omega
        clear HT HT2
        go_wp2
        go_meet
        case rel => exact ⟨Hg1.out, Hz1.out, HB1.out⟩
      by_cases hn0 : n = 0
      · obtain rfl : t = zT0 := by rw [← HT.out, gR_open x34 (Hn.out.trans hn0)]
        have hwn : wrap64 ((n : Int) - 1) = (n : Int) - 1 := IntWalk.wrap64_in _ ⟨by omega, by omega⟩
        have hk0 : ¬ (1 : Int) < n := by omega
        have hk1 : decide ((0 : Int) < (n : Int) - 1) = false := by simp; omega
        clear HT HT2 hn0 Hn HQ
        go_wp2
        go_meet
        case rel => exact ⟨Hg1.out, Hz1.out, HB1.out⟩
      have hg := gR_lit h2 x34 Hn.out hn0
      obtain ⟨hn1, hn2⟩ := HQ.out.resolve_left hn0
      have hBk := fun W => r08Back (s.extract 1 (n - 1)) W (by rw [ByteArray.size_extract]; omega)
      have hm : (s.extract 1 (n - 1)).data.toList = (s.data.toList.drop 1).take (n - 2) := by rw [extract_toList]; rfl
      rw [hm] at hBk
      have hu := drop_ext s n
      have huz : (s.extract n s.size).size = s.size - n := by rw [ByteArray.size_extract]; omega
      have hwn : wrap64 ((n : Int) - 1) = (n : Int) - 1 := IntWalk.wrap64_in _ ⟨by omega, by omega⟩
      rw [HT.out] at hg
      have hk1 : decide ((0 : Int) < (n : Int) - 1) = true := by simp; omega
      clear hm HT HT2 HQ Hn x60 x95
      generalize rdG puR ((s.data.toList.drop 1).take (n - 2)) = lit at *
      obtain ⟨u, hux⟩ : ∃ u, s.extract n s.size = u := ⟨_, rfl⟩
      rw [hux] at hu huz
      generalize s.data.toList.drop n = r at *
      have hus : u.size ≤ 1000000 := by omega
      have Huz := Lib.hid huz
      have Hu := Lib.hid hu
      clear huz hu
      by_cases r1 : 1 < u.size
      case neg =>
        obtain rfl : t = _ := hg.trans (lR_short Hu.out r1)
        clear hg
        go_wp2_with (first | (go_at_call 69; with_reducible refine (hBk _).mono ?_; rintro e v1 ⟨rfl, k1⟩; have g1 := Hg1.out.step k1; have z1 := Hz1.out.step k1; obtain ⟨e0, e1, e2, e3, ez⟩ := TB.d g1; have Bk := Lib.hid (And.intro g1 (And.intro z1 (below_tr HB1.out k1)))))
        go_meet
        case rel => exact TB.fin Bk.out rfl
      have r1i : (1 : Int) < u.size := by omega
      by_cases r64 : bn u 0 = 64
      · obtain rfl : t = _ := hg.trans (lR_tag Hu.out r1 r64)
        have hx1 : u.extract 1 u.size = mkS (r.drop 1) := ba_ext (by rw [drop_ext, Hu.out])
        clear hg
        generalize mkS (r.drop 1) = tl at *
        go_wp2_with (first | (go_at_call 69; with_reducible refine (hBk _).mono ?_; rintro e v1 ⟨rfl, k1⟩; have g1 := Hg1.out.step k1; have z1 := Hz1.out.step k1; obtain ⟨e0, e1, e2, e3, ez⟩ := TB.d g1; have Bk := Lib.hid (And.intro g1 (And.intro z1 (below_tr HB1.out k1)))))
        go_meet
        case rel => exact TB.fin2 Bk.out rfl
      have r64b : ((bn u 0 : Int) == 64) = false := by simp; omega
      by_cases r4 : 4 ≤ u.size
      case neg =>
        obtain rfl : t = _ := hg.trans (lR_short4 Hu.out r64 r4)
        clear hg r64
        go_wp2_with (first | (go_at_call 69; with_reducible refine (hBk _).mono ?_; rintro e v1 ⟨rfl, k1⟩; have g1 := Hg1.out.step k1; have z1 := Hz1.out.step k1; obtain ⟨e0, e1, e2, e3, ez⟩ := TB.d g1; have Bk := Lib.hid (And.intro g1 (And.intro z1 (below_tr HB1.out k1)))))
        go_meet
        case rel => exact TB.fin Bk.out rfl
      have r4i : (4 : Int) ≤ u.size := by omega
      have h3x : (u.extract 0 3).toList = r.take 3 := by rw [ByteArray.toList_eq, extract_toList, Hu.out]; rfl
      cases h3 : (r.take 3 == [94, 94, 60])
      · obtain rfl : t = _ := hg.trans (lR_no Hu.out r64 h3)
        clear hg r64
        go_wp2_with (first | (go_at_call 69; with_reducible refine (hBk _).mono ?_; rintro e v1 ⟨rfl, k1⟩; have g1 := Hg1.out.step k1; have z1 := Hz1.out.step k1; obtain ⟨e0, e1, e2, e3, ez⟩ := TB.d g1; have Bk := Lib.hid (And.intro g1 (And.intro z1 (below_tr HB1.out k1)))))
        go_meet
        case rel => exact TB.fin Bk.out rfl
      by_cases rl : bn u (u.size - 1) = 62
      case neg =>
        obtain rfl : t = _ := hg.trans (lR_end Hu.out r64 rl)
        have rlb : ((bn u (u.size - 1) : Int) == 62) = false := by simp; omega
        clear hg r64
        go_wp2_with (first | (go_at_call 69; with_reducible refine (hBk _).mono ?_; rintro e v1 ⟨rfl, k1⟩; have g1 := Hg1.out.step k1; have z1 := Hz1.out.step k1; obtain ⟨e0, e1, e2, e3, ez⟩ := TB.d g1; have Bk := Lib.hid (And.intro g1 (And.intro z1 (below_tr HB1.out k1)))))
        go_meet
        case rel => exact TB.fin Bk.out rfl
      obtain rfl : t = _ := hg.trans (lR_type Hu.out r64 r4 h3 rl)
      have hBk2 := fun W => r08Back (u.extract 3 (u.size - 1)) W (by rw [ByteArray.size_extract]; omega)
      have hm2 : (u.extract 3 (u.size - 1)).data.toList = (r.drop 3).take (r.length - 4) := by
        rw [extract_toList, Hu.out]; congr 1
        have := size_toList u; rw [Hu.out] at this; omega
      rw [hm2] at hBk2
      clear hg r64 hm2
      generalize rdG puR ((r.drop 3).take (r.length - 4)) = ty at *
      go_wp2_with (first | (go_at_call 69; with_reducible refine (hBk _).mono ?_; rintro e v1 ⟨rfl, k1⟩; have g1 := Hg1.out.step k1; have z1 := Hz1.out.step k1; obtain ⟨e0, e1, e2, e3, ez⟩ := TB.d g1; have Bk := Lib.hid (And.intro g1 (And.intro z1 (below_tr HB1.out k1)))))
      have Z1 := Lib.hid ((TB.fin (v0 := .int .i64 3) (v1 := .string (mkS lit)) (v2 := .string ⟨#[]⟩) (v3 := .string ⟨#[]⟩) Bk.out rfl).set 0 (.int .i64 4))
      refine (hBk2 _).mono ?_
      rintro e v2 ⟨rfl, k2⟩
      have Z2 : Hid (TZ w v2 #[.int .i64 4, .string (mkS lit), .string ⟨#[]⟩, .string ⟨#[]⟩]) := ⟨Z1.out.1.step k2, Z1.out.2.1.step k2, below_tr Z1.out.2.2 k2⟩
      obtain ⟨e0, e1, e2, e3, ez⟩ := TB.d Z2.out.1
      clear k2
      go_wp2
      go_meet
      case rel => exact Z2.out.set 3 _
    case rest =>
      obtain ⟨hg4, hz4, hb4⟩ := hcut
      obtain ⟨g0, g1, g2, g3, gz⟩ := TB.d hg4
      have HX := Lib.hid (fun V (hb : Below wc.heap.size wc V) => zT.d (zT.step hz4 hb))
      have HF4 := Lib.hid hb4
      have hw4 : w.heap.size + 1 < wc.heap.size := (Array.getElem?_eq_some_iff.1 hg4).1
      have HR4 := hRt wc
      clear hg4 hz4 hb4 hRt HT Hz1 Hg1 Hs1 HB1
      apply_assumption
      cases hr : rightB t
      · rw [hr] at HR4
        have HR2 : Hid (res = (zT0, 10)) := by
          show _ = _
          rw [HR.out, if_neg]
          unfold okP; rw [hr]; simp
        clear HR hTx hr
        go_wp2_with (go_at_call 21; with_reducible refine HR4.mono ?_; rintro e w5 ⟨rfl, k5⟩; obtain ⟨d0, d1, d2, d3, f0⟩ := HX.out _ k5)
        refine bodyPost_ret (v := .tuple #[tA res.1, .int .i64 res.2]) (by rw [HR2.out]; simp [results, Tryz.results46, go_sem, d0, d1, d2, d3]) rfl ⟨rfl, ?_⟩
        exact (below_tr HF4.out k5).trans (below_set4 (Nat.le_refl _) _ _ _ _)
      · rw [hr] at HR4
        have HTt := fun W => hTx W
        clear hTx
        cases hq : (textL t == s.data.toList)
        · have HR2 : Hid (res = (zT0, 10)) := by
            show _ = _
            rw [HR.out, if_neg]
            unfold okP; rw [hr, hq]; simp
          have hq1 : ((mkS (textL t)).toList == s.toList) = false := by rw [mkS_list, ByteArray.toList_eq]; exact hq
          clear HR hr hq
          generalize mkS (textL t) = tx at *
          go_wp2_with (first
            | (go_at_call 21; with_reducible refine HR4.mono ?_; rintro e w5 ⟨rfl, k5⟩; replace g0 := cell_on g0 k5; replace g1 := cell_on g1 k5; replace g2 := cell_on g2 k5; replace g3 := cell_on g3 k5; have k6 := below_tr HF4.out k5)
            | (go_at_call 39; with_reducible refine (HTt _).mono ?_; rintro e w6 ⟨rfl, k7⟩; obtain ⟨d0, d1, d2, d3, f0⟩ := HX.out _ (below_tr k5 k7)))
          refine bodyPost_ret (v := .tuple #[tA res.1, .int .i64 res.2]) (by rw [HR2.out]; simp [results, Tryz.results46, go_sem, d0, d1, d2, d3]) rfl ⟨rfl, ?_⟩
          exact (below_tr k6 k7).trans (below_set4 (Nat.le_refl _) _ _ _ _)
        · have HR2 : Hid (res = (t, 0)) := by
            show _ = _
            rw [HR.out, if_pos]
            unfold okP; rw [hr, hq]; rfl
          have hq1 : ((mkS (textL t)).toList == s.toList) = true := by rw [mkS_list, ByteArray.toList_eq]; exact hq
          clear HR hr hq
          generalize mkS (textL t) = tx at *
          go_wp2_with (first
            | (go_at_call 21; with_reducible refine HR4.mono ?_; rintro e w5 ⟨rfl, k5⟩; replace g0 := cell_on g0 k5; replace g1 := cell_on g1 k5; replace g2 := cell_on g2 k5; replace g3 := cell_on g3 k5; have k6 := below_tr HF4.out k5)
            | (go_at_call 39; with_reducible refine (HTt _).mono ?_; rintro e w6 ⟨rfl, k7⟩; obtain ⟨d0, d1, d2, d3, f0⟩ := HX.out _ (below_tr k5 k7); replace g0 := cell_on g0 k7; replace g1 := cell_on g1 k7; replace g2 := cell_on g2 k7; replace g3 := cell_on g3 k7))
          refine bodyPost_ret (v := .tuple #[tA res.1, .int .i64 res.2]) (by rw [HR2.out]; simp [results, Tryz.results46, go_sem, d0, d1, d2, d3]) rfl ⟨rfl, ?_⟩
          exact (below_tr k6 k7).trans (below_set4 (Nat.le_refl _) _ _ _ _)
end Go.Proofs.YtheeklkcaapkbaaGreatDoor
