/- show's writer's line; show.File. show.File. What arguments that can be read as data are: lists, terms, conditions, in memory. Terms, triples by value, opened, with their sizes (name space Ot); lists of triples. -/
import Derived.Test.YtpnlabjgmdhicaaGreatDoorJLnSplit
import Derived.Test.YtpnlabjgmdhicaaGreatDoorJDrawn
import Derived.Test.YtpnlabjgmdhicaaGreatDoorJShSet2
import Derived.Test.YtpnlabjgmdhicaaGreatDoorJWr3
import Derived.Test.YtpnlabjgmdhicaaGreatDoorJTms
import Derived.OpenShut
import Derived.SizedLaws
import Derived.Carry
import Derived.Lib.SmallJoins
import Derived.Test.YtpnlabjgmdhicaaGreatDoorJR8e
namespace Go.Proofs.YtpnlabjgmdhicaaGreatDoor
open Go Go.RowKit Um Fm Lx Tx

theorem shTy : WTy 58 3 := ⟨by kernel_rfl, by decide⟩
/-- show's writer in block b, with the error e and the bytes acc. -/
abbrev WS (B b : Nat) (e : Int) (acc : List UInt8) (w : World) : Prop := WIs 58 [.int .i64 e] B b (Lib.byteCells acc) w
set_option maxHeartbeats 4000000 in
set_option maxRecDepth 20000 in
theorem showWLine (B b : Nat) (e0 : Int) (acc : List UInt8) (t : Tp) (w : World) (hC : CtxT w) (hs : smallP t) (h : WS B b e0 acc w) (ha : acc.length ≤ 100000000) (hBw : B ≤ w.heap.size) :
    Calls Tryz.prog 34 #[.pointer (some ⟨b, 0, none⟩), tpA t] w fun e w' => (∃ u, e = .returned u) ∧ WS B b (if e0 = 0 then errTp t else e0) (acc ++ ((lineS t).data.toList ++ [10])) w' ∧ Below B w w' ∧ OK8 b w w' := by
  have hb0 : Below w.heap.size w (w.alloc (.cells (tpC t) 31)) := (Below.refl _ w).alloc (Nat.le_refl _) _
  have hL := showLine t _ (hC.step hb0) hs
  have hbB := h.base
  have H0 := Lib.hid (h.step hb0)
  have HB0 := Lib.hid hb0
  have hsz := lineS_le t
  have hds : Hid ((lineS t ++ ⟨#[10]⟩).data.toList = (lineS t).data.toList ++ [10]) := by
    show _ = _
    rw [ByteArray.data_append, Array.toList_append]
  have hal : acc.length = (Lib.byteCells acc).length := by rw [Lib.byteCells_length]
  unfold LineR11 at hL
  generalize lineS t = s at *
  generalize errTp t = er at *
  clear h hb0 hC
  go_enter Tryz.func34, Tryz.ntmps34
  go_wp2_with fail
  refine hL.mono ?_
  rintro e w1 ⟨rfl, b1⟩
  have h1 := H0.out.step b1
  have c2 := h1.ext2
  have f2 := h1.frozen 2
  have hbw : Below w.heap.size w w1 := below_tr HB0.out b1
  have hB1 : B ≤ w1.heap.size := Nat.le_trans hBw hbw.size
  have hsn : (s ++ (⟨#[10]⟩ : ByteArray)).size = s.size + 1 := by rw [ByteArray.size_append]; rfl
  have K1 : Hid (OK8 b w w1) := ok8_below hbw
  have HB1 := Lib.hid (hbw.mono hBw)
  clear b1 hL hbw
  by_cases he : e0 = 0
  · have hws := wString shTy B b (Lib.byteCells acc) (s ++ ⟨#[10]⟩) (w1.setCell ⟨b, 2, none⟩ (.int .i64 er)) (h1.setExt) (by rw [← hal, hsn]; omega) (by simpa [World.setCell] using hB1)
    subst he
    have K2 : Hid (OK8 b w (w1.setCell ⟨b, 2, none⟩ (.int .i64 er))) := K1.out.setCell ⟨b, 2, none⟩ rfl _
    have HB2 : Hid (Below B w (w1.setCell ⟨b, 2, none⟩ (.int .i64 er))) := HB1.out.setCell (p := ⟨b, 2, none⟩) hbB _
    clear h1
    go_wp2_with fail
    refine hws.mono ?_
    rintro e w2 ⟨rfl, h3, b3, k3⟩
    rw [Lib.strCells_eq, ← Lib.byteCells_append, hds.out] at h3
    have HX := Lib.hid (And.intro h3 (And.intro (HB2.out.trans b3) (K2.out.trans k3)))
    clear h3 b3 k3 hws
    go_wp2
    ((try simp only [Exit.inBlock, Exit.then]); refine Go.Great.bodyPost_end0 rfl rfl ?_)
    exact ⟨⟨_, rfl⟩, .inr HX.out.1, HX.out.2⟩
  · have hws := wString shTy B b (Lib.byteCells acc) (s ++ ⟨#[10]⟩) w1 h1 (by rw [← hal, hsn]; omega) hB1
    have hq : (e0 == (0 : Int)) = false := by simpa using he
    clear h1
    go_wp2_with fail
    refine hws.mono ?_
    rintro e w2 ⟨rfl, h3, b3, k3⟩
    rw [Lib.strCells_eq, ← Lib.byteCells_append, hds.out] at h3
    have HX := Lib.hid (And.intro h3 (And.intro (HB1.out.trans b3) (K1.out.trans k3)))
    clear h3 b3 k3 hws
    go_wp2
    ((try simp only [Exit.inBlock, Exit.then]); refine Go.Great.bodyPost_end0 rfl rfl ?_)
    exact ⟨⟨_, rfl⟩, .inr HX.out.1, HX.out.2⟩
end Go.Proofs.YtpnlabjgmdhicaaGreatDoor
namespace Go.Proofs.YtpnlabjgmdhicaaGreatDoor
open Go Go.RowKit Um Fm Lx Tx

theorem errF_take {l : List Tp} {k : Nat} {t : Tp} (h : l[k]? = some t) : errF (l.take (k + 1)) = if errF (l.take k) = 0 then errTp t else errF (l.take k) := by rw [take_snoc_of h, errF_snoc]
theorem body_take {l : List Tp} {k : Nat} {t : Tp} (h : l[k]? = some t) : bodyTp (l.take (k + 1)) = bodyTp (l.take k) ++ (lineB t ++ [10]) := by rw [take_snoc_of h, body_snoc]
theorem body_le : ∀ {l : List Tp}, (∀ t ∈ l, errTp t = 0) → (bodyTp l).length ≤ l.length * 12293
  | [], _ => Nat.zero_le _
  | t :: l, h => by
    have h1 := lineB_le (h t (by simp))
    have h2 := body_le (l := l) fun u hu => h u (by simp [hu])
    have e : bodyTp (t :: l) = (lineB t ++ [10]) ++ bodyTp l := by unfold bodyTp; rw [List.flatMap_cons]
    rw [e]
    simp only [List.length_append, List.length_cons, List.length_nil]
    omega
theorem lineS_data {t : Tp} (h : errTp t = 0) : (lineS t).data.toList = lineB t := by unfold lineS; rw [if_pos h, mkS_data]
/-- A fresh writer. -/
def Fresh (b : Nat) (w : World) : Prop := w.heap[b]? = some (.cells #[.pointer none, .slice none 0 0, .int .i64 0] 58 (0, 0))
theorem Fresh.ws {b B : Nat} {w : World} (h : Fresh b w) (hB : B ≤ b) : WS B b 0 [] w := .inl ⟨hB, .slice none 0 0, h, World.ownsRowF_nil _ _ _ _, by simp [Value.ownBlock]⟩
theorem Fresh.kept {b c : Nat} {w w' : World} (h : Fresh b w) (hk : OK8 c w w') (hne : b ≠ c) : Fresh b w' := hk b _ h (by simpa using hne) (by intro c fz e; cases e)
theorem RowTp.kept {g c : Nat} {l : List Tp} {rest : List Value} {w w' : World} (h : RowTp g l rest w) (hk : OK8 c w w') (hne : g ≠ c) : RowTp g l rest w' := hk g _ h (by simpa using hne) (by intro c fz e; cases e)
/-- What File says. -/
def FileR (l : List Tp) (w : World) (e : Ending) (w' : World) : Prop := e = .returned (.tuple #[.string (fileP l).1, .int .i64 (fileP l).2]) ∧ Below w.heap.size w w'
theorem WIs.drop {T : TypeId} {ext bs : List Value} {B b : Nat} {w w' : World} (h : WIs T ext B b bs w) (hb : Below w.heap.size w w') : WIs T ext B b bs w' := h.step hb
set_option maxHeartbeats 8000000 in
set_option maxRecDepth 20000 in
theorem showFile (l : List Tp) (A : Option Addr) (c : Nat) (w : World) (hC : CtxT w) (hr : Rd w A (l.flatMap tpL)) (hz : ∀ t ∈ l, smallP t) (hl : l.length ≤ 1000) :
    Calls Tryz.prog 12 #[.slice A l.length c] w (FileR l w) := by
  have hR9 : ∀ e w', FileR l w e w' → FileR l w e w' := fun _ _ h => h
  obtain ⟨N, hN⟩ : ∃ N, l.length = N := ⟨_, rfl⟩
  have HN := Lib.hid hN
  have HC := Lib.hid hC
  have Hz := Lib.hid hz
  have hWa : Fresh w.heap.size _ := heap_two_1 w (.cells #[.pointer none, .slice none 0 0, .int .i64 0] 58) (.cells #[.pointer none, .slice none 0 0, .int .i64 0] 58)
  have hWb : Fresh (w.heap.size + 1) _ := heap_two_2 w (.cells #[.pointer none, .slice none 0 0, .int .i64 0] 58) (.cells #[.pointer none, .slice none 0 0, .int .i64 0] 58)
  have hBa : Below w.heap.size w ((w.alloc (.cells #[.pointer none, .slice none 0 0, .int .i64 0] 58)).alloc (.cells #[.pointer none, .slice none 0 0, .int .i64 0] 58)) := below_alloc ((Below.refl _ w).alloc (Nat.le_refl _) _)
  have HR := Lib.hid hr
  rw [hN] at hl ⊢
  clear hN hC hz hr
  go_enter Tryz.func12, Tryz.ntmps12
  go_wp2
  generalize (w.alloc (.cells #[.pointer none, .slice none 0 0, .int .i64 0] 58)).alloc (.cells #[.pointer none, .slice none 0 0, .int .i64 0] 58) = w0 at *
  have HWa := Lib.hid (hWa.ws (B := w.heap.size) (Nat.le_refl _))
  have HWb := Lib.hid hWb
  have HBa := Lib.hid hBa
  clear hWa hWb hBa
  go_loopw [16] (fun i wr => ∃ (k : Nat) (acc : List UInt8), k ≤ N ∧ i = .int .i64 k ∧ acc.length ≤ k * 12293 ∧ Hid (WS w.heap.size w.heap.size (errF (l.take k)) acc wr) ∧ Hid (Fresh (w.heap.size + 1) wr) ∧ Below w.heap.size w wr) (fun i _ => N - (intOf i).toNat)
  case atStart => exact ⟨0, [], by omega, rfl, by simp, HWa, HWb, HBa.out⟩
  case round =>
    obtain ⟨k, acc, hk, rfl, hacc, HW, HF, hB⟩ := hrel
    have HB := Lib.hid hB
    by_cases hlt : k < N
    · have hd1 : decide (k < N) = true := by simp; omega
      obtain ⟨t, ht⟩ : ∃ t, l[k]? = some t := ⟨_, List.getElem?_eq_getElem (by rw [HN.out]; exact hlt)⟩
      have hts := Hz.out t (List.mem_of_getElem? ht)
      obtain ⟨g, o, rfl, a0, a1, a2, a3, a4, a5, a6, a7, a8, a9, a10, a11⟩ := rd_at12 (HR.out.later hB) ht
      have hb1 : Below wr.heap.size wr (wr.alloc (.cells (tpC t) 31)) := (Below.refl _ wr).alloc (Nat.le_refl _) _
      have hbw : w.heap.size ≤ wr.heap.size := hB.size
      have hln := showWLine w.heap.size w.heap.size (errF (l.take k)) acc t (wr.alloc (.cells (tpC t) 31)) ((HC.out.step hB).step hb1) hts (HW.out.step hb1) (by omega) (by simp; omega)
      rw [← errF_take ht] at hln
      have hlS := lineS_le t
      have hac2 : (acc ++ ((lineS t).data.toList ++ [10])).length ≤ (k + 1) * 12293 := by
        simp only [List.length_append, List.length_cons, List.length_nil, size_toList]
        omega
      generalize acc ++ ((lineS t).data.toList ++ [10]) = acc2 at *
      have HF1 : Hid (Fresh (w.heap.size + 1) (wr.alloc (.cells (tpC t) 31))) := below_blk hb1 HF.out
      have HB1 := Lib.hid (hB.trans (hb1.mono hbw))
      clear hB ht hb1 hlS hts
      go_wp2_with fail
      refine hln.mono ?_
      rintro e w2 ⟨⟨u, rfl⟩, h2, b2, k2⟩
      have HX := Lib.hid (And.intro h2 (And.intro (Fresh.kept HF1.out k2 (by omega)) (HB1.out.trans b2)))
      clear h2 b2 k2 hln
      go_wp2
      go_roundw
      case rel => exact ⟨k + 1, acc2, by omega, by go_num, hac2, HX.out.1, HX.out.2.1, HX.out.2.2⟩
      case measure => simp [intOf]; omega
    · obtain rfl : k = N := by omega
      have hd1 : decide (k < k) = false := by simp
      have hW := HW.out
      rw [List.take_of_length_le (by rw [HN.out]; exact Nat.le_refl _)] at hW
      have c2 := hW.ext2
      clear hB HW hW
      by_cases he : errF l = 0
      · rw [he] at c2
        have hst := showSet l A c wr (HC.out.step HB.out) (HR.out.later HB.out) Hz.out (by rw [HN.out]; omega)
        rw [HN.out] at hst
        have hfp : Hid (fileP l = (mkS (bodyTp (setTp l)), 0)) := by show _ = _; unfold fileP; rw [if_pos he]
        have hml := set_len l
        rw [HN.out] at hml
        have hme := errF_set he
        have hmz : ∀ t ∈ setTp l, smallP t := fun t ht => Hz.out t ((set_mem l t).1 ht)
        unfold SetR at hst
        have HR8 : Hid (∀ e w', e = .returned (.tuple #[.string (mkS (bodyTp (setTp l))), .int .i64 0]) ∧ Below w.heap.size w w' → FileR l w e w') := by
          rintro e w' ⟨rfl, h2⟩
          exact ⟨by rw [hfp.out], h2⟩
        generalize setTp l = m at *
        obtain ⟨M, hM⟩ : ∃ M, m.length = M := ⟨_, rfl⟩
        have HM := Lib.hid hM
        rw [hM] at hst hml
        have Hme := Lib.hid hme
        have Hmz := Lib.hid hmz
        clear hM he hfp hme hmz
        go_wp2_with fail
        refine hst.mono ?_
        rintro e w3 ⟨v3, rfl, own3, hb3⟩
        have HB3 := Lib.hid (below_tr HB.out hb3)
        have HF3 : Hid (Fresh (w.heap.size + 1) w3) := below_blk hb3 HF.out
        have hz3 := hb3.size
        have hz0 := HB.out.size
        have hflt := (Array.getElem?_eq_some_iff.1 HF.out).1
        obtain ⟨A4, c4, rfl, -, -⟩ := own_slice own3
        have hrows : M = 0 ∨ ∃ g rest, A4 = some ⟨g, 0, none⟩ ∧ w.heap.size + 1 < g ∧ RowTp g m rest w3 := by
          rcases RowTp.of_own own3 with ⟨-, h0⟩ | ⟨g, cap, rest, hv, hg, hR, -⟩
          · exact .inl (by rw [← HM.out, h0]; rfl)
          · injection hv with hA _ _
            exact .inr ⟨g, rest, hA, by omega, hR⟩
        have Hrows := Lib.hid hrows
        clear own3 hb3 hst hrows c2 hflt
        go_wp2
        go_loopw [36] (fun i wx => ∃ k : Nat, k ≤ M ∧ i = .int .i64 k ∧ Hid (WS w.heap.size (w.heap.size + 1) 0 (bodyTp (m.take k)) wx) ∧ Hid (k = 0 → Fresh (w.heap.size + 1) wx) ∧ Hid (M = 0 ∨ ∃ g rest, A4 = some ⟨g, 0, none⟩ ∧ w.heap.size + 1 < g ∧ RowTp g m rest wx) ∧ Below w.heap.size w wx) (fun i _ => M - (intOf i).toNat)
        case atStart => exact ⟨0, by omega, rfl, HF3.out.ws (by omega), fun _ => HF3.out, Hrows, HB3.out⟩
        case round =>
          obtain ⟨j, hj, rfl, HW4, HF4, HR4, hB4⟩ := hrel
          have HB4 := Lib.hid hB4
          by_cases hlt2 : j < M
          · have hd2 : decide (j < M) = true := by simp; omega
            obtain ⟨t, ht⟩ : ∃ t, m[j]? = some t := ⟨_, List.getElem?_eq_getElem (by rw [HM.out]; exact hlt2)⟩
            have hts := Hmz.out t (List.mem_of_getElem? ht)
            have hte := Hme.out t (List.mem_of_getElem? ht)
            obtain ⟨g, rest, rfl, hg, hR⟩ : ∃ g rest, A4 = some ⟨g, 0, none⟩ ∧ w.heap.size + 1 < g ∧ RowTp g m rest wr := by
              rcases HR4.out with h0 | h0
              · omega
              · exact h0
            obtain ⟨a0, a1, a2, a3, a4, a5, a6, a7, a8, a9, a10, a11⟩ := hR.at12 ht
            have hb1 : Below wr.heap.size wr (wr.alloc (.cells (tpC t) 31)) := (Below.refl _ wr).alloc (Nat.le_refl _) _
            have hbw : w.heap.size ≤ wr.heap.size := hB4.size
            have hacc : (bodyTp (m.take j)).length ≤ 100000000 := by
              have h1 := body_le (l := m.take j) fun u hu => Hme.out u (List.mem_of_mem_take hu)
              rw [List.length_take, HM.out] at h1
              omega
            have hln := showWLine w.heap.size (w.heap.size + 1) 0 (bodyTp (m.take j)) t (wr.alloc (.cells (tpC t) 31)) ((HC.out.step hB4).step hb1) hts (HW4.out.step hb1) hacc (by simp; omega)
            rw [if_pos rfl, hte, lineS_data hte, ← body_take ht] at hln
            have HR5 := Lib.hid (And.intro hg (show RowTp g m rest (wr.alloc (.cells (tpC t) 31)) from below_blk hb1 hR))
            have HB1 := Lib.hid (hB4.trans (hb1.mono hbw))
            obtain ⟨acc2, hac⟩ : ∃ a, bodyTp (m.take (j + 1)) = a := ⟨_, rfl⟩
            rw [hac] at hln
            have Hac := Lib.hid hac
            clear hB4 ht hb1 hts hte hacc hR hac
            go_wp2_with fail
            refine hln.mono ?_
            rintro e w5 ⟨⟨u, rfl⟩, h2, b2, k2⟩
            have HX := Lib.hid (And.intro h2 (And.intro (RowTp.kept HR5.out.2 k2 (by have := HR5.out.1; omega)) (HB1.out.trans b2)))
            clear h2 b2 k2 hln
            go_wp2
            go_roundw
            case rel => exact ⟨j + 1, by omega, by go_num, (by show WS _ _ _ _ _; rw [Hac.out]; exact HX.out.1), (fun h => by omega), .inr ⟨g, rest, rfl, hg, HX.out.2.1⟩, HX.out.2.2⟩
            case measure => simp [intOf]; omega
          · obtain rfl : j = M := by omega
            have hd2 : decide (j < j) = false := by simp
            have hfull : m.take j = m := List.take_of_length_le (by rw [HM.out]; exact Nat.le_refl _)
            rw [hfull] at HW4
            by_cases hj0 : j = 0
            · have hst := wStr0 (T := 58) (ext := [.int .i64 0]) w.heap.size (w.heap.size + 1) wr (HF4.out hj0) hB4.size
              have hm0 : m = [] := List.eq_nil_of_length_eq_zero (by rw [HM.out]; exact hj0)
              have hbe : Hid (mkS (bodyTp m) = ⟨#[]⟩) := by show _ = _; rw [hm0]; rfl
              clear hB4 hfull hm0
              go_wp2_with fail
              refine hst.mono ?_
              rintro e w5 ⟨rfl, b5⟩
              have HB5 := Lib.hid (HB4.out.trans b5)
              clear b5 hst
              go_wp2
              refine bodyPost_ret (v := .tuple #[.string ⟨#[]⟩, .int .i64 0]) (by simp [results, Tryz.results12, go_sem]) rfl ?_
              exact HR8.out _ _ ⟨by rw [hbe.out], HB5.out⟩
            · have hne : bodyTp m ≠ [] := by
                intro h0
                obtain ⟨t, ht⟩ : ∃ t, m[0]? = some t := ⟨_, List.getElem?_eq_getElem (by rw [HM.out]; omega)⟩
                have h1 : m = t :: m.drop 1 := by rw [← drop_cons_of ht]; rfl
                rw [h1] at h0
                unfold bodyTp at h0
                rw [List.flatMap_cons] at h0
                simp at h0
              have hst := wStr (T := 58) (ext := [.int .i64 0]) w.heap.size (w.heap.size + 1) (bodyTp m) wr HW4.out hne
              have hbe : Hid (mkS (bodyTp m) = ⟨(bodyTp m).toArray⟩) := rfl
              rw [← hbe.out] at hst
              generalize mkS (bodyTp m) = full at *
              clear hB4 hfull hne
              go_wp2_with fail
              refine hst.mono ?_
              rintro e w5 ⟨rfl, -, b5⟩
              have HB5 := Lib.hid (HB4.out.trans b5)
              clear b5 hst
              go_wp2
              refine bodyPost_ret (v := .tuple #[.string full, .int .i64 0]) (by simp [results, Tryz.results12, go_sem]) rfl ?_
              exact HR8.out _ _ ⟨rfl, HB5.out⟩
      · have hfp : Hid (fileP l = (⟨#[]⟩, errF l)) := by show _ = _; unfold fileP; rw [if_neg he]
        have hq : (errF l != (0 : Int)) = true := by simpa using he
        have c2' : ∀ nq, (wr.drewN nq).cell? ⟨w.heap.size, 2, none⟩ = some (.int .i64 (errF l)) := fun _ => c2
        generalize errF l = er at *
        clear he
        go_wp2
        go_quiet (fail)
        go_wp2
        refine bodyPost_ret (v := .tuple #[.string ⟨#[]⟩, .int .i64 er]) (by simp [results, Tryz.results12, go_sem]) rfl ?_
        exact hR9 _ _ ⟨by rw [hfp.out], HB.out.os, HB.out.tape, HB.out.output, HB.out.size, HB.out.block⟩
end Go.Proofs.YtpnlabjgmdhicaaGreatDoor
namespace Go.Proofs.YtpnlabjgmdhicaaGreatDoor
open Go Go.ChangeShapes Go.WideShapes Go.ChangeAt Go.RowKit Go.Lib Go.Joins Go.Deep Fm

section
variable {H : Type} {enc : TypeId × Value → H} {P : Program}

/-- No string, no slice of a datum is longer than the reach. -/
def Sized (P : Program) (t : TypeId) (d : DataW H) : Prop := ∀ m ∈ d.weights P t, m ≤ reachBytes
/-- Cells that can be read, with this fuel, as a type's datum, are what R says. -/
def Opens (enc : TypeId × Value → H) (P : Program) (w : World) (f : Nat) (t : TypeId) (sz : Nat) {α : Type} (R : List Value → α → Prop) (Z : α → Prop) : Prop :=
  ∀ (cs : List Value) (d : DataW H) (ps : List MemPlace), DataW.trod enc P w 0 (fun _ => true) true f t cs = some (d, ps) → Sized P t d → ∃ a, R cs a ∧ cs.length = sz ∧ Z a

theorem weightsAll_mem {e : TypeId} : ∀ {l : List (DataW H)} {d : DataW H}, d ∈ l → ∀ m ∈ d.weights P e, m ∈ DataW.weightsAll P e l
  | x :: r, d, hd, m, hm => by
    rw [DataW.weightsAll, List.mem_append]
    rcases List.mem_cons.1 hd with h | h
    · left; rw [← h]; exact hm
    · right; exact weightsAll_mem h m hm
theorem weightsEach_mem : ∀ {ts : List TypeId} {ds : List (DataW H)} {i : Nat} {t : TypeId} {d : DataW H}, ts[i]? = some t → ds[i]? = some d → ∀ m ∈ d.weights P t, m ∈ DataW.weightsEach P ts ds := fun ht hd m hm => DataW.weights_mem_each ht hd m hm
theorem Sized.field {t u : TypeId} {fs : Array Field} {parts : List (DataW H)} (h : Sized P t (.agg parts)) (hu : P.underlying t = some (.struct fs)) {i : Nat} {d : DataW H} (ht : (fs.toList.map (·.type))[i]? = some u) (hd : parts[i]? = some d) : Sized P u d := by
  intro m hm
  refine h m ?_
  simp only [DataW.weights, hu]
  exact weightsEach_mem ht hd m hm
theorem sized_str {t : TypeId} {s : ByteArray} (h : Sized P t (.lit (.string s.data.toList) : DataW H)) : s.size ≤ 140737488351232 := by
  have := h s.data.toList.length (by simp [DataW.weights])
  rw [size_toList] at this
  exact Nat.le_trans this (by decide)

/-- A slice, opened: a list. -/
theorem open_list {w : World} {f F : Nat} {t e : TypeId} {sz : Nat} {α : Type} {R : List Value → α → Prop} {Z : α → Prop} (ht : P.underlying t = some (.slice e)) (hc : P.cellsOf e = sz) (hsz : 0 < sz) (hf : f ≤ F + 1)
    (he : Opens enc P w F e sz R Z) {cs : List Value} {d : DataW H} {ps : List MemPlace} (h : DataW.trod enc P w 0 (fun _ => true) true f t cs = some (d, ps)) (hs : Sized P t d) :
    ∃ (l : List α) (A : Option Addr) (c : Nat), cs = [.slice A l.length c] ∧ l.length ≤ c ∧ RdL sz R w A l ∧ (∀ a ∈ l, Z a) ∧ c * P.bytesOf e ≤ reachBytes := by
  rcases DataW.trod_slice ht h with ⟨hv, hx⟩ | ⟨a, len, cap, elems, rest, n, rfl, rfl, hx, hb, hl, hm, hlen, hel, hsp, hns⟩
  · exact ⟨[], none, 0, hv, Nat.le_refl _, RdL.nil _ _ _ _, (by intro a ha; simp at ha), (by simp)⟩
  · have hd : d = .slice (elems.map (·.1)) (rest.map (·.1)) := congrArg Prod.fst hx
    subst hd
    have hcap : cap * P.bytesOf e ≤ reachBytes := by
      have := hs (((elems.map (·.1)).length + (rest.map (·.1)).length) * P.bytesOf e) (by simp [DataW.weights, ht])
      rw [List.length_map, List.length_map, hlen, (hsp rfl).1] at this
      rwa [show len + (cap - len) = cap by omega] at this
    by_cases h0 : len = 0
    · subst h0
      exact ⟨[], some a, cap, rfl, hl, RdL.nil _ _ _ _, (by intro a ha; simp at ha), hcap⟩
    have hspot : ∃ b o, a = ⟨b, o, none⟩ := by
      obtain ⟨y, hy⟩ : ∃ y, elems[0]? = some y := ⟨_, List.getElem?_eq_getElem (by omega)⟩
      have hk2 := hel 0 (by omega)
      rw [hy, Option.bind_eq_some_iff] at hk2
      obtain ⟨ds, hcs, htr⟩ := hk2
      obtain ⟨_, hdl, hcell⟩ := World.cells?_some hcs
      have h1 := hcell 0 (by omega)
      rw [List.getElem?_eq_getElem (by omega)] at h1
      have h2 := World.cell?_spot h1
      obtain ⟨b, o, s⟩ := a
      have h3 : s = none := by simpa [Addr.add] using h2
      exact ⟨b, o, by rw [h3]⟩
    obtain ⟨b, o, rfl⟩ := hspot
    have step : ∀ k, k ≤ len → ∃ (l : List α) (xs : List Value), l.length = k ∧ All sz R xs l ∧ (∀ a ∈ l, Z a) ∧ ∀ j u, xs[j]? = some u → w.cell? ⟨b, o + j, none⟩ = some u := by
      intro k
      induction k with
      | zero => exact fun _ => ⟨[], [], rfl, rfl, (by intro a ha; simp at ha), fun j u hu => by simp at hu⟩
      | succ k ih =>
        intro hk
        obtain ⟨l, xs, h1, h2, h3, h4⟩ := ih (by omega)
        obtain ⟨y, hy⟩ : ∃ y, elems[k]? = some y := ⟨_, List.getElem?_eq_getElem (by omega)⟩
        have hk2 := hel k (by omega)
        rw [hy, Option.bind_eq_some_iff] at hk2
        obtain ⟨ds, hcs, htr⟩ := hk2
        obtain ⟨_, hdl, hcell⟩ := World.cells?_some hcs
        have hsy : Sized P e y.1 := fun m hm => hs m (by
          simp only [DataW.weights, ht, List.mem_cons, List.mem_append]
          exact .inr (.inl (weightsAll_mem (List.mem_map_of_mem (List.mem_of_getElem? hy)) m hm)))
        obtain ⟨x, hx1, hx2, hx3⟩ := he ds y.1 y.2 (DataW.trod_le (by omega) htr) hsy
        rw [hc] at hdl hcell
        refine ⟨l ++ [x], xs ++ ds, by simp [h1], h2.append (All.one hx2 hx1), ?_, ?_⟩
        · intro z hz
          rcases List.mem_append.1 hz with hz | hz
          · exact h3 z hz
          · simp only [List.mem_singleton] at hz; rw [hz]; exact hx3
        · intro j u hu
          have hxl : xs.length = k * sz := by rw [h2.len, h1]
          by_cases hj : j < k * sz
          · rw [List.getElem?_append_left (by omega)] at hu
            exact h4 j u hu
          · rw [List.getElem?_append_right (by omega), hxl] at hu
            have hj2 : j - k * sz < sz := by
              have := (List.getElem?_eq_some_iff.1 hu).1
              omega
            have h5 := hcell (j - k * sz) hj2
            rw [hu, add_zero_spot, add_zero_spot] at h5
            rw [show o + j = o + k * sz + (j - k * sz) by omega]
            exact h5
    obtain ⟨l, xs, h1, h2, h3, h4⟩ := step len (Nat.le_refl _)
    subst h1
    exact ⟨l, some ⟨b, o, none⟩, cap, rfl, hl, ⟨xs, .inr ⟨b, o, rfl, h4⟩, h2⟩, h3, hcap⟩
end
end Go.Proofs.YtpnlabjgmdhicaaGreatDoor
namespace Go.Proofs.YtpnlabjgmdhicaaGreatDoor
open Go Go.ChangeShapes Go.WideShapes Go.ChangeAt Go.RowKit Go.Lib Go.Joins Go.Deep Fm Tx

section
variable {H : Type} {enc : TypeId × Value → H}
theorem Ot.sized_arg {P : Program} {ts : List TypeId} {ds : List (DataW H)} {j : Nat} {t : TypeId} {d : DataW H} (hreach : (DataW.weightsEach P ts ds).all (· ≤ reachBytes) = true) (htj : ts[j]? = some t) (hdj : ds[j]? = some d) : Sized P t d := by
  intro m hm
  have := List.all_eq_true.1 hreach m (DataW.weights_mem_each htj hdj m hm)
  simpa using this
/-- Sizes that any argument has. -/
def hugeTp (t : Tp) : Prop := hugeT t.s ∧ hugeT t.p ∧ hugeT t.o
set_option maxRecDepth 100000 in
theorem Ot.opens_term (w : World) (f : Nat) : Opens enc Tryz.prog w f 29 4 (fun cs (t : Tm) => cs = (tC t).toList) (fun t => hugeT t) := by
  intro cs d ps h hs
  obtain ⟨xs, n, _, hx, hl, hlen, hf⟩ := DataW.trod_struct Tryz.underlying29 h
  have hd : d = .agg (xs.map (·.1)) := congrArg Prod.fst hx
  subst hd
  have hc : Tryz.prog.cellsOf 29 = 4 := by kernel_rfl
  have c1 : Tryz.prog.cellsOf 9 = 1 := by kernel_rfl
  have c0 : Tryz.prog.cellsOf 27 = 1 := by kernel_rfl
  rw [hc] at hl
  match cs, hl, xs, hlen with
  | [v0, v1, v2, v3], _, [y0, y1, y2, y3], _ =>
    have g0 := hf 0 _ rfl
    have g1 := hf 1 _ rfl
    have g2 := hf 2 _ rfl
    have g3 := hf 3 _ rfl
    simp [c0, c1] at g0 g1 g2 g3
    obtain ⟨k, e0, _, _⟩ := DataW.trod_int Tryz.underlying27 g0
    obtain ⟨x, e1, q1, _⟩ := DataW.trod_string Tryz.underlying9 g1
    obtain ⟨l, e2, q2, _⟩ := DataW.trod_string Tryz.underlying9 g2
    obtain ⟨y, e3, q3, _⟩ := DataW.trod_string Tryz.underlying9 g3
    simp at e0 e1 e2 e3
    refine ⟨⟨k, x, l, y⟩, by simp [e0, e1, e2, e3], rfl, ?_⟩
    have hs1 : Sized Tryz.prog 9 y1.1 := hs.field Tryz.underlying29 (i := 1) rfl rfl
    have hs2 : Sized Tryz.prog 9 y2.1 := hs.field Tryz.underlying29 (i := 2) rfl rfl
    have hs3 : Sized Tryz.prog 9 y3.1 := hs.field Tryz.underlying29 (i := 3) rfl rfl
    rw [q1] at hs1
    rw [q2] at hs2
    rw [q3] at hs3
    exact ⟨Nat.le_trans (sized_str hs1) (by decide), Nat.le_trans (sized_str hs2) (by decide), Nat.le_trans (sized_str hs3) (by decide)⟩
set_option maxRecDepth 100000 in
theorem Ot.opens_trip (w : World) (f : Nat) : Opens enc Tryz.prog w f 31 12 (fun cs (t : Tp) => cs = (tpC t).toList) (fun t => hugeTp t) := by
  intro cs d ps h hs
  obtain ⟨xs, n, _, hx, hl, hlen, hf⟩ := DataW.trod_struct Tryz.underlying31 h
  have hd : d = .agg (xs.map (·.1)) := congrArg Prod.fst hx
  subst hd
  have hc : Tryz.prog.cellsOf 31 = 12 := by kernel_rfl
  have c1 : Tryz.prog.cellsOf 29 = 4 := by kernel_rfl
  rw [hc] at hl
  match cs, hl, xs, hlen with
  | [v0, v1, v2, v3, v4, v5, v6, v7, v8, v9, v10, v11], _, [y0, y1, y2], _ =>
    have g0 := hf 0 _ rfl
    have g1 := hf 1 _ rfl
    have g2 := hf 2 _ rfl
    simp [c1] at g0 g1 g2
    obtain ⟨s, e0, _, z0⟩ := Ot.opens_term w _ _ y0.1 y0.2 g0 (hs.field Tryz.underlying31 (i := 0) rfl rfl)
    obtain ⟨p, e1, _, z1⟩ := Ot.opens_term w _ _ y1.1 y1.2 g1 (hs.field Tryz.underlying31 (i := 1) rfl rfl)
    obtain ⟨o, e2, _, z2⟩ := Ot.opens_term w _ _ y2.1 y2.2 g2 (hs.field Tryz.underlying31 (i := 2) rfl rfl)
    simp at e0 e1 e2
    refine ⟨⟨s, p, o⟩, ?_, rfl, ⟨z0, z1, z2⟩⟩
    simp [e0, e1, e2]
set_option maxRecDepth 100000 in
theorem Ot.arg_trips {r : Reach} {b0 : Nat} {w : World} {v : Value} {d : DataW H} {ps : List MemPlace} (hv : Value.okWide Tryz.prog w r b0 22 v) (hd : DataW.Trod enc Tryz.prog w 0 (fun _ => true) true 22 v d ps) (hs : Sized Tryz.prog 22 d) :
    ∃ (l : List Tp) (A : Option Addr) (c : Nat), v = .slice A l.length c ∧ l.length ≤ c ∧ RdL 12 (fun cs (t : Tp) => cs = (tpC t).toList) w A l ∧ l.length ≤ 837723144947 ∧ ∀ t ∈ l, hugeTp t := by
  obtain ⟨A0, l0, c0, rfl⟩ := okWide_slice Tryz.underlying22 hv
  obtain ⟨fuel, hf⟩ := hd
  obtain ⟨l, A, c, hcs, hle, hrd, hz, hcap⟩ := open_list (F := fuel) Tryz.underlying22 (by kernel_rfl) (by omega) (Nat.le_succ _) (Ot.opens_trip w fuel) (show DataW.trod enc Tryz.prog w 0 (fun _ => true) true fuel 22 [.slice A0 l0 c0] = some (d, ps) from hf) hs
  have hby : Tryz.prog.bytesOf 31 = 168 := by kernel_rfl
  rw [hby] at hcap
  unfold reachBytes at hcap
  injection hcs with hcs _
  exact ⟨l, A, c, hcs, hle, hrd, by omega, hz⟩
end
end Go.Proofs.YtpnlabjgmdhicaaGreatDoor
