/- show's writer's line; show.File. show.File. What arguments that can be read as data are: lists, terms, conditions, in memory. Terms, triples by value, opened, with their sizes (name space Ot); lists of triples. -/
import Derived.Test.YthdlepalglgmoaaGreatDoorJShWr
import Derived.Test.YthdlepalglgmoaaGreatDoorJDrawn
import Derived.Test.YthdlepalglgmoaaGreatDoorJShSet2
import Derived.Test.YthdlepalglgmoaaGreatDoorJTms
import Derived.OpenShut
import Derived.SizedLaws
import Derived.Carry
import Derived.Lib.SmallJoins
import Derived.Test.YthdlepalglgmoaaGreatDoorJR8e
namespace Go.Proofs.YthdlepalglgmoaaGreatDoor
open Go Go.RowKit Um Fm Lx Tx

theorem shTy : WTy 54 3 := ⟨by kernel_rfl, by decide⟩
/-- show's writer in block b, with the error e and the bytes acc. -/
abbrev WS (B b : Nat) (e : Int) (acc : List UInt8) (w : World) : Prop := WIs 54 [.int .i64 e] B b (Lib.byteCells acc) w
set_option maxHeartbeats 4000000 in
set_option maxRecDepth 20000 in
theorem showWLine (B b : Nat) (e0 : Int) (acc : List UInt8) (t : Tp) (w : World) (hC : CtxT w) (hs : smallP t) (h : WS B b e0 acc w) (ha : acc.length ≤ 100000000) (hBw : B ≤ w.heap.size) :
    Calls Tryz.prog 29 #[.pointer (some ⟨b, 0, none⟩), tpA t] w fun e w' => (∃ u, e = .returned u) ∧ WS B b (if e0 = 0 then errTp t else e0) (acc ++ ((lineS t).data.toList ++ [10])) w' ∧ Below B w w' ∧ OK8 b w w' := by
  have hb0 : Below w.heap.size w (w.alloc (.cells (tpC t) 29)) := (Below.refl _ w).alloc (Nat.le_refl _) _
  have hL := showLine t _ (hC.step hb0) hs
  have hbB := h.base
  have H0 := Lib.hid (h.step hb0)
  have HB0 := Lib.hid hb0
  have hsz := lineS_le t
  have hds : Hid ((lineS t ++ ⟨#[10]⟩).data.toList = (lineS t).data.toList ++ [10]) := by
    show _ = _
    rw [ByteArray.data_append, Array.toList_append]
  have hal : acc.length = (Lib.byteCells acc).length := by rw [Lib.byteCells_length]
  unfold LineR11 at hL
  generalize lineS t = s at *
  generalize errTp t = er at *
  clear h hb0 hC
  go_enter Tryz.func29, Tryz.ntmps29
  go_wp2_with fail
  refine hL.mono ?_
  rintro e w1 ⟨rfl, b1⟩
  have h1 := H0.out.step b1
  have c2 := h1.ext2
  have f2 := h1.frozen 2
  have hbw : Below w.heap.size w w1 := below_tr HB0.out b1
  have hB1 : B ≤ w1.heap.size := Nat.le_trans hBw hbw.size
  have hsn : (s ++ (⟨#[10]⟩ : ByteArray)).size = s.size + 1 := by rw [ByteArray.size_append]; rfl
  have K1 : Hid (OK8 b w w1) := ok8_below hbw
  have HB1 := Lib.hid (hbw.mono hBw)
  clear b1 hL hbw
  by_cases he : e0 = 0
  · have hws := wString shTy B b (Lib.byteCells acc) (s ++ ⟨#[10]⟩) (w1.setCell ⟨b, 2, none⟩ (.int .i64 er)) (h1.setExt) (by rw [← hal, hsn]; omega) (by simpa [World.setCell] using hB1)
    subst he
    have K2 : Hid (OK8 b w (w1.setCell ⟨b, 2, none⟩ (.int .i64 er))) := K1.out.setCell ⟨b, 2, none⟩ rfl _
    have HB2 : Hid (Below B w (w1.setCell ⟨b, 2, none⟩ (.int .i64 er))) := HB1.out.setCell (p := ⟨b, 2, none⟩) hbB _
    clear h1
    go_wp2_with fail
    refine hws.mono ?_
    rintro e w2 ⟨rfl, h3, b3, k3⟩
    rw [Lib.strCells_eq, ← Lib.byteCells_append, hds.out] at h3
    have HX := Lib.hid (And.intro h3 (And.intro (HB2.out.trans b3) (K2.out.trans k3)))
    clear h3 b3 k3 hws
    go_wp2
    ((try simp only [Exit.inBlock, Exit.then]); refine Go.Great.bodyPost_end0 rfl rfl ?_)
    exact ⟨⟨_, rfl⟩, .inr HX.out.1, HX.out.2⟩
  · have hws := wString shTy B b (Lib.byteCells acc) (s ++ ⟨#[10]⟩) w1 h1 (by rw [← hal, hsn]; omega) hB1
    have hq : (e0 == (0 : Int)) = false := by simpa using he
    clear h1
    go_wp2_with fail
    refine hws.mono ?_
    rintro e w2 ⟨rfl, h3, b3, k3⟩
    rw [Lib.strCells_eq, ← Lib.byteCells_append, hds.out] at h3
    have HX := Lib.hid (And.intro h3 (And.intro (HB1.out.trans b3) (K1.out.trans k3)))
    clear h3 b3 k3 hws
    go_wp2
    ((try simp only [Exit.inBlock, Exit.then]); refine Go.Great.bodyPost_end0 rfl rfl ?_)
    exact ⟨⟨_, rfl⟩, .inr HX.out.1, HX.out.2⟩
end Go.Proofs.YthdlepalglgmoaaGreatDoor
namespace Go.Proofs.YthdlepalglgmoaaGreatDoor
open Go Go.RowKit Um Fm Lx Tx

theorem errF_take {l : List Tp} {k : Nat} {t : Tp} (h : l[k]? = some t) : errF (l.take (k + 1)) = if errF (l.take k) = 0 then errTp t else errF (l.take k) := by rw [take_snoc_of h, errF_snoc]
theorem body_take {l : List Tp} {k : Nat} {t : Tp} (h : l[k]? = some t) : bodyTp (l.take (k + 1)) = bodyTp (l.take k) ++ (lineB t ++ [10]) := by rw [take_snoc_of h, body_snoc]
theorem body_le : ∀ {l : List Tp}, (∀ t ∈ l, errTp t = 0) → (bodyTp l).length ≤ l.length * 12293
  | [], _ => Nat.zero_le _
  | t :: l, h => by
    have h1 := lineB_le (h t (by simp))
    have h2 := body_le (l := l) fun u hu => h u (by simp [hu])
    have e : bodyTp (t :: l) = (lineB t ++ [10]) ++ bodyTp l := by unfold bodyTp; rw [List.flatMap_cons]
    rw [e]
    simp only [List.length_append, List.length_cons, List.length_nil]
    omega
theorem lineS_data {t : Tp} (h : errTp t = 0) : (lineS t).data.toList = lineB t := by unfold lineS; rw [if_pos h, mkS_data]
/-- A fresh writer. -/
def Fresh (b : Nat) (w : World) : Prop := w.heap[b]? = some (.cells #[.pointer none, .slice none 0 0, .int .i64 0] 54 (0, 0))
theorem Fresh.ws {b B : Nat} {w : World} (h : Fresh b w) (hB : B ≤ b) : WS B b 0 [] w := .inl ⟨hB, .slice none 0 0, h, World.ownsRowF_nil _ _ _ _, by simp [Value.ownBlock]⟩
theorem Fresh.kept {b c : Nat} {w w' : World} (h : Fresh b w) (hk : OK8 c w w') (hne : b ≠ c) : Fresh b w' := hk b _ h (by simpa using hne) (by intro c fz e; cases e)
theorem RowTp.kept {g c : Nat} {l : List Tp} {rest : List Value} {w w' : World} (h : RowTp g l rest w) (hk : OK8 c w w') (hne : g ≠ c) : RowTp g l rest w' := hk g _ h (by simpa using hne) (by intro c fz e; cases e)
/-- What File says. -/
def FileR (l : List Tp) (w : World) (e : Ending) (w' : World) : Prop := e = .returned (.tuple #[.string (fileP l).1, .int .i64 (fileP l).2]) ∧ Below w.heap.size w w'
theorem WIs.drop {T : TypeId} {ext bs : List Value} {B b : Nat} {w w' : World} (h : WIs T ext B b bs w) (hb : Below w.heap.size w w') : WIs T ext B b bs w' := h.step hb
set_option maxHeartbeats 8000000 in
set_option maxRecDepth 20000 in
theorem showFile (l : List Tp) (A : Option Addr) (c : Nat) (w : World) (hC : CtxT w) (hr : Rd w A (l.flatMap tpL)) (hz : ∀ t ∈ l, smallP t) (hl : l.length ≤ 1000) :
    Calls Tryz.prog 16 #[.slice A l.length c] w (FileR l w) := by
  have hR9 : ∀ e w', FileR l w e w' → FileR l w e w' := fun _ _ h => h
  obtain ⟨N, hN⟩ : ∃ N, l.length = N := ⟨_, rfl⟩
  have HN := Lib.hid hN
  have HC := Lib.hid hC
  have Hz := Lib.hid hz
  have hWa : Fresh w.heap.size _ := heap_two_1 w (.cells #[.pointer none, .slice none 0 0, .int .i64 0] 54) (.cells #[.pointer none, .slice none 0 0, .int .i64 0] 54)
  have hWb : Fresh (w.heap.size + 1) _ := heap_two_2 w (.cells #[.pointer none, .slice none 0 0, .int .i64 0] 54) (.cells #[.pointer none, .slice none 0 0, .int .i64 0] 54)
  have hBa : Below w.heap.size w ((w.alloc (.cells #[.pointer none, .slice none 0 0, .int .i64 0] 54)).alloc (.cells #[.pointer none, .slice none 0 0, .int .i64 0] 54)) := below_alloc ((Below.refl _ w).alloc (Nat.le_refl _) _)
  have HR := Lib.hid hr
  rw [hN] at hl ⊢
  clear hN hC hz hr
  go_enter Tryz.func16, Tryz.ntmps16
  go_wp2
  generalize (w.alloc (.cells #[.pointer none, .slice none 0 0, .int .i64 0] 54)).alloc (.cells #[.pointer none, .slice none 0 0, .int .i64 0] 54) = w0 at *
  have HWa := Lib.hid (hWa.ws (B := w.heap.size) (Nat.le_refl _))
  have HWb := Lib.hid hWb
  have HBa := Lib.hid hBa
  clear hWa hWb hBa
  go_loopw [16] (fun i wr => ∃ (k : Nat) (acc : List UInt8), k ≤ N ∧ i = .int .i64 k ∧ acc.length ≤ k * 12293 ∧ Hid (WS w.heap.size w.heap.size (errF (l.take k)) acc wr) ∧ Hid (Fresh (w.heap.size + 1) wr) ∧ Below w.heap.size w wr) (fun i _ => N - (intOf i).toNat)
  case atStart => exact ⟨0, [], by omega, rfl, by simp, HWa, HWb, HBa.out⟩
  case round =>
    obtain ⟨k, acc, hk, rfl, hacc, HW, HF, hB⟩ := hrel
    have HB := Lib.hid hB
    by_cases hlt : k < N
    · have hd1 : decide (k < N) = true := by simp; omega
      obtain ⟨t, ht⟩ : ∃ t, l[k]? = some t := ⟨_, List.getElem?_eq_getElem (by rw [HN.out]; exact hlt)⟩
      have hts := Hz.out t (List.mem_of_getElem? ht)
      obtain ⟨g, o, rfl, a0, a1, a2, a3, a4, a5, a6, a7, a8, a9, a10, a11⟩ := rd_at12 (HR.out.later hB) ht
      have hb1 : Below wr.heap.size wr (wr.alloc (.cells (tpC t) 29)) := (Below.refl _ wr).alloc (Nat.le_refl _) _
      have hbw : w.heap.size ≤ wr.heap.size := hB.size
      have hln := showWLine w.heap.size w.heap.size (errF (l.take k)) acc t (wr.alloc (.cells (tpC t) 29)) ((HC.out.step hB).step hb1) hts (HW.out.step hb1) (by omega) (by simp; omega)
      rw [← errF_take ht] at hln
      have hlS := lineS_le t
      have hac2 : (acc ++ ((lineS t).data.toList ++ [10])).length ≤ (k + 1) * 12293 := by
        simp only [List.length_append, List.length_cons, List.length_nil, size_toList]
        omega
      generalize acc ++ ((lineS t).data.toList ++ [10]) = acc2 at *
      have HF1 : Hid (Fresh (w.heap.size + 1) (wr.alloc (.cells (tpC t) 29))) := below_blk hb1 HF.out
      have HB1 := Lib.hid (hB.trans (hb1.mono hbw))
      clear hB ht hb1 hlS hts
      go_wp2_with fail
      refine hln.mono ?_
      rintro e w2 ⟨⟨u, rfl⟩, h2, b2, k2⟩
      have HX := Lib.hid (And.intro h2 (And.intro (Fresh.kept HF1.out k2 (by omega)) (HB1.out.trans b2)))
      clear h2 b2 k2 hln
      go_wp2
      go_roundw
      case rel => exact ⟨k + 1, acc2, by omega, by go_num, hac2, HX.out.1, HX.out.2.1, HX.out.2.2⟩
      case measure => simp [intOf]; omega
    · obtain rfl : k = N := by omega
      have hd1 : decide (k < k) = false := by simp
      have hW := HW.out
      rw [List.take_of_length_le (by rw [HN.out]; exact Nat.le_refl _)] at hW
      have c2 := hW.ext2
      clear hB HW hW
      by_cases he : errF l = 0
      · rw [he] at c2
        have hst := showSet l A c wr (HC.out.step HB.out) (HR.out.later HB.out) Hz.out (by rw [HN.out]; omega)
        rw [HN.out] at hst
        have hfp : Hid (fileP l = (mkS (bodyTp (setTp l)), 0)) := by show _ = _; unfold fileP; rw [if_pos he]
        have hml := set_len l
        rw [HN.out] at hml
        have hme := errF_set he
        have hmz : ∀ t ∈ setTp l, smallP t := fun t ht => Hz.out t ((set_mem l t).1 ht)
        unfold SetR at hst
        have HR8 : Hid (∀ e w', e = .returned (.tuple #[.string (mkS (bodyTp (setTp l))), .int .i64 0]) ∧ Below w.heap.size w w' → FileR l w e w') := by
          rintro e w' ⟨rfl, h2⟩
          exact ⟨by rw [hfp.out], h2⟩
        generalize setTp l = m at *
        obtain ⟨M, hM⟩ : ∃ M, m.length = M := ⟨_, rfl⟩
        have HM := Lib.hid hM
        rw [hM] at hst hml
        have Hme := Lib.hid hme
        have Hmz := Lib.hid hmz
        clear hM he hfp hme hmz
        go_wp2_with fail
        refine hst.mono ?_
        rintro e w3 ⟨v3, rfl, own3, hb3⟩
        have HB3 := Lib.hid (below_tr HB.out hb3)
        have HF3 : Hid (Fresh (w.heap.size + 1) w3) := below_blk hb3 HF.out
        have hz3 := hb3.size
        have hz0 := HB.out.size
        have hflt := (Array.getElem?_eq_some_iff.1 HF.out).1
        obtain ⟨A4, c4, rfl, -, -⟩ := own_slice own3
        have hrows : M = 0 ∨ ∃ g rest, A4 = some ⟨g, 0, none⟩ ∧ w.heap.size + 1 < g ∧ RowTp g m rest w3 := by
          rcases RowTp.of_own own3 with ⟨-, h0⟩ | ⟨g, cap, rest, hv, hg, hR, -⟩
          · exact .inl (by rw [← HM.out, h0]; rfl)
          · injection hv with hA _ _
            exact .inr ⟨g, rest, hA, by omega, hR⟩
        have Hrows := Lib.hid hrows
        clear own3 hb3 hst hrows c2 hflt
        go_wp2
        go_loopw [36] (fun i wx => ∃ k : Nat, k ≤ M ∧ i = .int .i64 k ∧ Hid (WS w.heap.size (w.heap.size + 1) 0 (bodyTp (m.take k)) wx) ∧ Hid (k = 0 → Fresh (w.heap.size + 1) wx) ∧ Hid (M = 0 ∨ ∃ g rest, A4 = some ⟨g, 0, none⟩ ∧ w.heap.size + 1 < g ∧ RowTp g m rest wx) ∧ Below w.heap.size w wx) (fun i _ => M - (intOf i).toNat)
        case atStart => exact ⟨0, by omega, rfl, HF3.out.ws (by omega), fun _ => HF3.out, Hrows, HB3.out⟩
        case round =>
          obtain ⟨j, hj, rfl, HW4, HF4, HR4, hB4⟩ := hrel
          have HB4 := Lib.hid hB4
          by_cases hlt2 : j < M
          · have hd2 : decide (j < M) = true := by simp; omega
            obtain ⟨t, ht⟩ : ∃ t, m[j]? = some t := ⟨_, List.getElem?_eq_getElem (by rw [HM.out]; exact hlt2)⟩
            have hts := Hmz.out t (List.mem_of_getElem? ht)
            have hte := Hme.out t (List.mem_of_getElem? ht)
            obtain ⟨g, rest, rfl, hg, hR⟩ : ∃ g rest, A4 = some ⟨g, 0, none⟩ ∧ w.heap.size + 1 < g ∧ RowTp g m rest wr := by
              rcases HR4.out with h0 | h0
              · omega
              · exact h0
            obtain ⟨a0, a1, a2, a3, a4, a5, a6, a7, a8, a9, a10, a11⟩ := hR.at12 ht
            have hb1 : Below wr.heap.size wr (wr.alloc (.cells (tpC t) 29)) := (Below.refl _ wr).alloc (Nat.le_refl _) _
            have hbw : w.heap.size ≤ wr.heap.size := hB4.size
            have hacc : (bodyTp (m.take j)).length ≤ 100000000 := by
              have h1 := body_le (l := m.take j) fun u hu => Hme.out u (List.mem_of_mem_take hu)
              rw [List.length_take, HM.out] at h1
              omega
            have hln := showWLine w.heap.size (w.heap.size + 1) 0 (bodyTp (m.take j)) t (wr.alloc (.cells (tpC t) 29)) ((HC.out.step hB4).step hb1) hts (HW4.out.step hb1) hacc (by simp; omega)
            rw [if_pos rfl, hte, lineS_data hte, ← body_take ht] at hln
            have HR5 := Lib.hid (And.intro hg (show RowTp g m rest (wr.alloc (.cells (tpC t) 29)) from below_blk hb1 hR))
            have HB1 := Lib.hid (hB4.trans (hb1.mono hbw))
            obtain ⟨acc2, hac⟩ : ∃ a, bodyTp (m.take (j + 1)) = a := ⟨_, rfl⟩
            rw [hac] at hln
            have Hac := Lib.hid hac
            clear hB4 ht hb1 hts hte hacc hR hac
            go_wp2_with fail
            refine hln.mono ?_
            rintro e w5 ⟨⟨u, rfl⟩, h2, b2, k2⟩
            have HX := Lib.hid (And.intro h2 (And.intro (RowTp.kept HR5.out.2 k2 (by have := HR5.out.1; omega)) (HB1.out.trans b2)))
            clear h2 b2 k2 hln
            go_wp2
            go_roundw
            case rel => exact ⟨j + 1, by omega, by go_num, (by show WS _ _ _ _ _; rw [Hac.out]; exact HX.out.1), (fun h => by omega), .inr ⟨g, rest, rfl, hg, HX.out.2.1⟩, HX.out.2.2⟩
            case measure => simp [intOf]; omega
          · obtain rfl : j = M := by omega
            have hd2 : decide (j < j) = false := by simp
            have hfull : m.take j = m := List.take_of_length_le (by rw [HM.out]; exact Nat.le_refl _)
            rw [hfull] at HW4
            by_cases hj0 : j = 0
            · have hst := wStr0 (T := 54) (ext := [.int .i64 0]) w.heap.size (w.heap.size + 1) wr (HF4.out hj0) hB4.size
              have hm0 : m = [] := List.eq_nil_of_length_eq_zero (by rw [HM.out]; exact hj0)
              have hbe : Hid (mkS (bodyTp m) = ⟨#[]⟩) := by show _ = _; rw [hm0]; rfl
              clear hB4 hfull hm0
              go_wp2_with fail
              refine hst.mono ?_
              rintro e w5 ⟨rfl, b5⟩
              have HB5 := Lib.hid (HB4.out.trans b5)
              clear b5 hst
              go_wp2
              refine bodyPost_ret (v := .tuple #[.string ⟨#[]⟩, .int .i64 0]) (by simp [results, Tryz.results16, go_sem]) rfl ?_
              exact HR8.out _ _ ⟨by rw [hbe.out], HB5.out⟩
            · have hne : bodyTp m ≠ [] := by
                intro h0
                obtain ⟨t, ht⟩ : ∃ t, m[0]? = some t := ⟨_, List.getElem?_eq_getElem (by rw [HM.out]; omega)⟩
                have h1 : m = t :: m.drop 1 := by rw [← drop_cons_of ht]; rfl
                rw [h1] at h0
                unfold bodyTp at h0
                rw [List.flatMap_cons] at h0
                simp at h0
              have hst := wStr (T := 54) (ext := [.int .i64 0]) w.heap.size (w.heap.size + 1) (bodyTp m) wr HW4.out hne
              have hbe : Hid (mkS (bodyTp m) = ⟨(bodyTp m).toArray⟩) := rfl
              rw [← hbe.out] at hst
              generalize mkS (bodyTp m) = full at *
              clear hB4 hfull hne
              go_wp2_with fail
              refine hst.mono ?_
              rintro e w5 ⟨rfl, -, b5⟩
              have HB5 := Lib.hid (HB4.out.trans b5)
              clear b5 hst
              go_wp2
              refine bodyPost_ret (v := .tuple #[.string full, .int .i64 0]) (by simp [results, Tryz.results16, go_sem]) rfl ?_
              exact HR8.out _ _ ⟨rfl, HB5.out⟩
      · have hfp : Hid (fileP l = (⟨#[]⟩, errF l)) := by show _ = _; unfold fileP; rw [if_neg he]
        have hq : (errF l != (0 : Int)) = true := by simpa using he
        have c2' : ∀ nq, (wr.drewN nq).cell? ⟨w.heap.size, 2, none⟩ = some (.int .i64 (errF l)) := fun _ => c2
        generalize errF l = er at *
        clear he
        go_wp2
        go_quiet (fail)
        go_wp2
        refine bodyPost_ret (v := .tuple #[.string ⟨#[]⟩, .int .i64 er]) (by simp [results, Tryz.results16, go_sem]) rfl ?_
        exact hR9 _ _ ⟨by rw [hfp.out], HB.out.os, HB.out.tape, HB.out.output, HB.out.size, HB.out.block⟩
end Go.Proofs.YthdlepalglgmoaaGreatDoor
namespace Go.Proofs.YthdlepalglgmoaaGreatDoor
open Go Go.ChangeShapes Go.WideShapes Go.ChangeAt Go.RowKit Go.Lib Go.Joins Go.Deep Fm

section
variable {H : Type} {enc : TypeId × Value → H} {P : Program}

/-- No string, no slice of a datum is longer than the reach. -/
def Sized (P : Program) (t : TypeId) (d : DataW H) : Prop := ∀ m ∈ d.weights P t, m ≤ reachBytes
theorem weightsEach_mem : ∀ {ts : List TypeId} {ds : List (DataW H)} {i : Nat} {t : TypeId} {d : DataW H}, ts[i]? = some t → ds[i]? = some d → ∀ m ∈ d.weights P t, m ∈ DataW.weightsEach P ts ds := fun ht hd m hm => DataW.weights_mem_each ht hd m hm
theorem Sized.field {t u : TypeId} {fs : Array Field} {parts : List (DataW H)} (h : Sized P t (.agg parts)) (hu : P.underlying t = some (.struct fs)) {i : Nat} {d : DataW H} (ht : (fs.toList.map (·.type))[i]? = some u) (hd : parts[i]? = some d) : Sized P u d := by
  intro m hm
  refine h m ?_
  simp only [DataW.weights, hu]
  exact weightsEach_mem ht hd m hm
end
end Go.Proofs.YthdlepalglgmoaaGreatDoor
namespace Go.Proofs.YthdlepalglgmoaaGreatDoor
open Go Go.ChangeShapes Go.WideShapes Go.ChangeAt Go.RowKit Go.Lib Go.Joins Go.Deep Fm Tx

section
variable {H : Type} {enc : TypeId × Value → H}
/-- Sizes that any argument has. -/
def hugeTp (t : Tp) : Prop := hugeT t.s ∧ hugeT t.p ∧ hugeT t.o
end
end Go.Proofs.YthdlepalglgmoaaGreatDoor
