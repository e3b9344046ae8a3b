/- The answer's File. A list lent by the kit: in a block of its own, marks behind it; append within the capacity. The kit's lists of triples: lent, kept, written over. -/
import Derived.Test.YthdlepalglgmoaaGreatDoorJShSub
import Derived.Test.YthdlepalglgmoaaGreatDoorJShRef2
import Derived.Test.YthdlepalglgmoaaGreatDoorJOpenT
import Derived.Test.YthdlepalglgmoaaGreatDoorJMem
import Derived.OwnWalk
import Derived.Test.YthdlepalglgmoaaGreatDoorJShRow
import Derived.Test.YthdlepalglgmoaaGreatDoorJShSet2
namespace Go.Proofs.YthdlepalglgmoaaGreatDoor
open Go Go.RowKit Um Fm Lx Tx

theorem errF_first : ∀ {l : List Tp} {k : Nat} {t : Tp}, errF (l.take k) = 0 → l[k]? = some t → errTp t ≠ 0 → errF l = errTp t
  | [], _, _, _, h, _ => by simp at h
  | u :: l, 0, t, _, h, he => by
    simp only [List.getElem?_cons_zero, Option.some.injEq] at h
    subst h
    exact if_neg he
  | u :: l, k + 1, t, h0, h, he => by
    rw [List.getElem?_cons_succ] at h
    rw [List.take_succ_cons, errF] at h0
    split at h0
    · next hu =>
      rw [errF, if_pos hu]
      exact errF_first h0 h he
    · next hu => exact absurd h0 hu
theorem app_mkS (l : List UInt8) (t : Tp) (h : errTp t = 0) : mkS l ++ lineS t ++ ⟨#[10]⟩ = mkS (l ++ (lineB t ++ [10])) := by
  have e : (⟨#[10]⟩ : ByteArray) = mkS [10] := rfl
  unfold lineS
  rw [if_pos h, e, mkS_app, mkS_app, List.append_assoc]
set_option maxRecDepth 20000 in
set_option maxHeartbeats 8000000 in
theorem refFile11 (l : List Tp) (A : Option Addr) (c : Nat) (w : World) (hr : Rd w A (l.flatMap tpL)) (hz : ∀ t ∈ l, smallP t) (hl : l.length ≤ 1000) : Calls Tryz.prog 17 #[.slice A l.length c] w (FileR l w) := by
  have hR9 : ∀ e w', FileR l w e w' → FileR l w e w' := fun _ _ h => h
  have hst := fun W (hB : Below w.heap.size w W) => refSet11 l A c W (hr.later hB) hz hl
  obtain ⟨N, hN⟩ : ∃ N, l.length = N := ⟨_, rfl⟩
  have HN := Lib.hid hN
  have HR := Lib.hid hr
  have Hz := Lib.hid hz
  have Hst := Lib.hid hst
  rw [hN] at hl Hst ⊢
  clear hN hr hz hst
  go_enter Tryz.func17, Tryz.ntmps17
  go_wp2
  go_loopw [4] (fun i wr => ∃ k : Nat, k ≤ N ∧ i = .int .i64 k ∧ Hid (errF (l.take k) = 0) ∧ Below w.heap.size w wr) (fun i _ => N - (intOf i).toNat)
  case atStart => exact ⟨0, by omega, rfl, rfl, Below.refl _ _⟩
  case round =>
    obtain ⟨k, hk, rfl, HE, hB⟩ := hrel
    have HB := Lib.hid hB
    by_cases hlt : k < N
    · have hd1 : decide (k < N) = true := by simp; omega
      obtain ⟨t, ht⟩ : ∃ t, l[k]? = some t := ⟨_, List.getElem?_eq_getElem (by rw [HN.out]; exact hlt)⟩
      have hts := Hz.out t (List.mem_of_getElem? ht)
      obtain ⟨g, o, rfl, a0, a1, a2, a3, a4, a5, a6, a7, a8, a9, a10, a11⟩ := rd_at12 (HR.out.later hB) ht
      have hln := refLine11 t wr hts
      unfold LineR11 at hln
      have Ht := Lib.hid ht
      by_cases he : errTp t = 0
      · have HE2 : Hid (errF (l.take (k + 1)) = 0) := by show _ = _; rw [errF_take ht, if_pos HE.out, he]
        rw [he] at hln
        generalize lineS t = s at *
        clear hB ht he hts
        go_wp2_with fail
        refine hln.mono ?_
        rintro e w2 ⟨rfl, b2⟩
        have HB2 := Lib.hid (below_tr HB.out b2)
        clear b2 hln
        go_wp2
        go_roundw
        case rel => exact ⟨k + 1, by omega, by go_num, HE2, HB2.out⟩
        case measure => simp [intOf]; omega
      · have hf := errF_first HE.out ht he
        have hfp : fileP l = (⟨#[]⟩, errTp t) := by unfold fileP; rw [if_neg (by rw [hf]; exact he), hf]
        have HF := Lib.hid hfp
        have hq : (errTp t != (0 : Int)) = true := by simpa using he
        generalize lineS t = s at *
        generalize errTp t = er at *
        clear hB ht he hts hf hfp
        go_wp2_with fail
        refine hln.mono ?_
        rintro e w2 ⟨rfl, b2⟩
        have HB2 := Lib.hid (below_tr HB.out b2)
        clear b2 hln
        go_wp2
        refine bodyPost_ret (v := .tuple #[.string ⟨#[]⟩, .int .i64 er]) (by simp [results, Tryz.results17, go_sem]) rfl ?_
        exact hR9 _ _ ⟨by rw [HF.out], HB2.out⟩
    · obtain rfl : k = N := by omega
      have hd1 : decide (k < k) = false := by simp
      have he : errF l = 0 := by
        have := HE.out
        rwa [List.take_of_length_le (by rw [HN.out]; exact Nat.le_refl _)] at this
      have hset := Hst.out wr hB
      unfold SetR at hset
      have hml := set_len l
      rw [HN.out] at hml
      have hme := errF_set he
      have hmz : ∀ t ∈ setTp l, smallP t := fun t ht => Hz.out t ((set_mem l t).1 ht)
      have HR8 : Hid (∀ w', Below w.heap.size w w' → FileR l w (.returned (.tuple #[.string (mkS (bodyTp (setTp l))), .int .i64 0])) w') := by
        intro w' h2
        exact ⟨by unfold fileP; rw [if_pos he], h2⟩
      generalize setTp l = m at *
      obtain ⟨M, hM⟩ : ∃ M, m.length = M := ⟨_, rfl⟩
      have HM := Lib.hid hM
      rw [hM] at hset hml
      have Hme := Lib.hid hme
      have Hmz := Lib.hid hmz
      clear hM he hme hmz hB HE
      go_wp2_with fail
      refine hset.mono ?_
      rintro e w3 ⟨v3, rfl, own3, hb3⟩
      have HB3 := Lib.hid (below_tr HB.out hb3)
      obtain ⟨A4, c4, rfl, -, r4⟩ := own_slice own3
      have HR4 := Lib.hid r4
      clear own3 hb3 hset r4
      go_wp2
      go_loopw [8, 9] (fun s i wx => ∃ k : Nat, k ≤ M ∧ i = .int .i64 k ∧ s = .string (mkS (bodyTp (m.take k))) ∧ Below w3.heap.size w3 wx) (fun _ i _ => M - (intOf i).toNat)
      case atStart => exact ⟨0, by omega, rfl, rfl, Below.refl _ _⟩
      case round =>
        obtain ⟨j, hj, rfl, rfl, hB4⟩ := hrel
        have HB4 := Lib.hid hB4
        by_cases hlt2 : j < M
        · have hd2 : decide (j < M) = true := by simp; omega
          obtain ⟨t, ht⟩ : ∃ t, m[j]? = some t := ⟨_, List.getElem?_eq_getElem (by rw [HM.out]; exact hlt2)⟩
          have hts := Hmz.out t (List.mem_of_getElem? ht)
          have hte := Hme.out t (List.mem_of_getElem? ht)
          obtain ⟨g, o, rfl, a0, a1, a2, a3, a4, a5, a6, a7, a8, a9, a10, a11⟩ := rd_at12 (HR4.out.later hB4) ht
          have hln := refLine11 t wr hts
          unfold LineR11 at hln
          rw [hte] at hln
          have hacc : (mkS (bodyTp (m.take j))).size ≤ 100000000 := by
            have h1 := body_le (l := m.take j) fun u hu => Hme.out u (List.mem_of_mem_take hu)
            rw [List.length_take, HM.out] at h1
            rw [mkS_size]
            omega
          have hap := app_mkS (bodyTp (m.take j)) t hte
          rw [← body_take ht] at hap
          have Hap := Lib.hid hap
          have hlS := lineS_le t
          generalize lineS t = s at *
          generalize mkS (bodyTp (m.take j)) = acc at *
          clear hB4 ht hts hte hap
          go_wp2_with fail
          refine hln.mono ?_
          rintro e w5 ⟨rfl, b5⟩
          have HB5 := Lib.hid (below_tr HB4.out b5)
          clear b5 hln
          go_wp2
          go_roundw
          case rel => exact ⟨j + 1, by omega, by go_num, by rw [← Hap.out], HB5.out⟩
          case measure => simp [intOf]; omega
        · obtain rfl : j = M := by omega
          have hd2 : decide (j < j) = false := by simp
          have hfl : Hid (m.take j = m) := List.take_of_length_le (by rw [HM.out]; exact Nat.le_refl _)
          rw [hfl.out]
          generalize mkS (bodyTp m) = full at *
          clear hB4
          go_wp2
          refine bodyPost_ret (v := .tuple #[.string full, .int .i64 0]) (by simp [results, Tryz.results17, go_sem]) rfl ?_
          exact HR8.out _ (below_tr HB3.out HB4.out)
end Go.Proofs.YthdlepalglgmoaaGreatDoor
namespace Go.Proofs.YthdlepalglgmoaaGreatDoor
open Go Go.RowKit
def marksOf {α : Type} (f : Int → α) : List α := (List.range 12).map fun (j : Nat) => f (j : Int)
/-- A list lent: in a block of its own, marks behind it. -/
def LentB (T : TypeId) (w : World) (g : Nat) (xs : List Value) : Prop := ∃ cur : Array Value, w.heap[g]? = some (.cells cur T (0, 0)) ∧ cur.toList = xs
theorem LentB.rd {T : TypeId} {w : World} {g : Nat} {xs : List Value} (h : LentB T w g xs) : Rd w (some ⟨g, 0, none⟩) xs := by
  obtain ⟨cur, h1, h2⟩ := h
  exact Rd.of_block h1 h2
theorem LentB.lt {T : TypeId} {w : World} {g : Nat} {xs : List Value} (h : LentB T w g xs) : g < w.heap.size := by
  obtain ⟨cur, h1, h2⟩ := h
  rcases Nat.lt_or_ge g w.heap.size with hlt | hge
  · exact hlt
  · rw [Array.getElem?_eq_none hge] at h1; cases h1
theorem LentB.below {T : TypeId} {w w' : World} {g : Nat} {xs : List Value} (h : LentB T w g xs) {B : Nat} (hb : Below B w w') (hB : g < B) : LentB T w' g xs := by
  have hlt := h.lt
  obtain ⟨cur, h1, h2⟩ := h
  exact ⟨cur, by rw [hb.block g hB]; exact h1, h2⟩
theorem Rd.of_belowL {w w' : World} {A : Option Addr} {xs : List Value} (h : Rd w A xs) (hb : Below w.heap.size w w') : Rd w' A xs := h.below hb (Nat.le_refl _)
theorem LentB.of_own {w : World} {base g : Nat} {e : TypeId} {size n : Nat} {xs : List Value} (h : w.ownsRow base e size (.slice (some ⟨g, 0, none⟩) n n) n xs) : LentB e w g xs := by
  rcases h.2 with ⟨hv, _⟩ | ⟨g2, cap2, cur, hv, _, hh, _, _, hcs, ht⟩
  · cases hv
  · injection hv with hA _ hcap
    injection hA with hA
    injection hA with hA
    subst hA
    subst hcap
    refine ⟨cur, hh, ?_⟩
    rw [← ht, List.take_of_length_le]
    simp only [Array.length_toList]; omega
/-- append within the capacity, from whatever slice -/
theorem wpList_app_fits {P : Program} {w : World} {ops : Array Oper} {rest : List Oper} {o : Oper} {a : Act} {Q : Exit → Act → World → Prop} {s x : Operand} {t : TypeId}
    (ho : o.op = .call { callee := .builtin .append, args := #[s, x], argTypes := #[t, t] }) (hgd : o.guard = none)
    {e : TypeId} {z : Value} {size bytes : Nat} (ht : P.underlying t = some (.slice e)) (hinfo : (P.info? e).map (fun i => (i.zero, i.size, i.bytes)) = some (some z, size, bytes)) (hsz : 0 < size)
    {base g k cap : Nat} {xs : List Value} (hs : a.eval s = .slice (some ⟨g, 0, none⟩) k cap) (hown : w.ownsRow base e size (.slice (some ⟨g, 0, none⟩) k cap) k xs)
    {A : Option Addr} {m c : Nat} {news : List Value} (hx : a.eval x = .slice A m c) (hr : Rd w A news) (hl : news.length = m * size) (h1 : ∀ u ∈ news, u.oneCell' = true) (hfit : k + m ≤ cap)
    (h : ∀ w', w'.ownsRow base e size (.slice (some ⟨g, 0, none⟩) (k + m) cap) (k + m) (xs ++ news) → w.grownBy w' (some g) → wpList P ops Q rest (a.put o.dst (.slice (some ⟨g, 0, none⟩) (k + m) cap)) w') : wpList P ops Q (o :: rest) a w := by
  obtain ⟨i, hi, hz, hsize, hby⟩ := info_parts hinfo
  rcases hr with rfl | ⟨g', off, rfl, hc⟩
  · have hm : m = 0 := by
      rcases Nat.eq_zero_or_pos m with h0 | h0
      · exact h0
      · have := Nat.mul_pos h0 hsz
        simp at hl; omega
    subst hm
    rcases A with _ | ad
    · refine wpList_plain hgd fun K hK => ?_
      have hrun : (Builtin.append_ #[t, t] o.type #[.slice (some ⟨g, 0, none⟩) k cap, .slice none 0 c]).run P w = .ok (.slice (some ⟨g, 0, none⟩) k cap) w := by
        rcases hown.2 with ⟨hv, _⟩ | ⟨g2, cap2, cur, hv, _, _, hnc, _⟩
        · cases hv
        · injection hv with _ _ hcap
          subst hcap
          simp [Builtin.append_, run_underlying ht, sizeOf, typeInfo, hi, Builtin.lenOf, Builtin.firstCells, hnc, storeCells]
      unfold Oper.wp execOp
      simp only [ho, resolve, invoke, builtin, Sem.run_bind, Sem.run_pure, Result.andThen_ok, List.map_toArray, List.map_cons, List.map_nil, hs, hx, hrun]
      exact hK _ _ (h w (by simpa using hown) (World.grownBy.refl _ _))
    · exact wpList_append_fits w hgd s x t ho base e i size ht hi hsize g k cap xs hs hown ad 0 c [] hx hl (by simp) (by simp) hfit h
  · exact wpList_append_fits w hgd s x t ho base e i size ht hi hsize g k cap xs hs hown ⟨g', off, none⟩ m c news hx hl (fun j u hu => by rw [add_zero_spot]; exact hc j u hu) h1 hfit h
theorem marksOf_get {α : Type} (f : Int → α) (k : Nat) (h : k < 12) : (marksOf f)[k]? = some (f (k : Int)) := by
  simp [marksOf, List.getElem?_range h]
theorem marks_at {α : Type} (f : Int → α) (l : List α) (k : Nat) (h : l.length ≤ k) (h2 : k < l.length + 12) : (l ++ marksOf f)[k]? = some (f ((k : Int) - l.length)) := by
  rw [List.getElem?_append_right h, marksOf_get f _ (by omega)]
  rw [show ((k - l.length : Nat) : Int) = (k : Int) - l.length by omega]
theorem kitMark1 (i : Int) (w : World) (h0 : 0 ≤ i) (h1 : i ≤ 1000000) :
    Calls Tryz.prog 36 #[.int .i64 1, .int .i64 i] w fun e w' => e = .returned (.int .i64 (8000024 + i)) ∧ w = w' := by
  go_enter Tryz.func36, Tryz.ntmps36
  go_wp2
  go_ret
  exact ⟨by simp; try omega, rfl⟩
theorem kitMark2 (i : Int) (w : World) (h0 : 0 ≤ i) (h1 : i ≤ 1000000) :
    Calls Tryz.prog 36 #[.int .i64 2, .int .i64 i] w fun e w' => (∃ m : Int, e = .returned (.int .i64 m)) ∧ w = w' := by
  go_enter Tryz.func36, Tryz.ntmps36
  go_wp2
  go_ret
  exact ⟨⟨_, rfl⟩, rfl⟩
end Go.Proofs.YthdlepalglgmoaaGreatDoor
namespace Go.Proofs.YthdlepalglgmoaaGreatDoor
open Go Go.RowKit Um Fm Lx Tx

def mkTp (i : Int) : Tp := ⟨⟨8000024 + i, ⟨#[]⟩, ⟨#[]⟩, ⟨#[]⟩⟩, zTm, zTm⟩
theorem markTp (i : Int) (w : World) (h0 : 0 ≤ i) (h1 : i ≤ 1000000) :
    Calls Tryz.prog 24 #[.int .i64 1, .int .i64 i] w fun e w' => e = .returned (.agg #[.int .i64 (8000024 + i), .string ⟨#[]⟩, .string ⟨#[]⟩, .string ⟨#[]⟩, .int .i64 0, .string ⟨#[]⟩, .string ⟨#[]⟩, .string ⟨#[]⟩, .int .i64 0, .string ⟨#[]⟩, .string ⟨#[]⟩, .string ⟨#[]⟩]) ∧ Below w.heap.size w w' := by
  have hm := fun W => kitMark1 i W h0 h1
  generalize 8000024 + i = s at *
  go_enter Tryz.func24, Tryz.ntmps24
  go_wp2_with (refine (hm _).mono ?_; rintro e w3 ⟨rfl, rfl⟩)
  exact bodyPost_ret (v := .agg #[.int .i64 s, .string ⟨#[]⟩, .string ⟨#[]⟩, .string ⟨#[]⟩, .int .i64 0, .string ⟨#[]⟩, .string ⟨#[]⟩, .string ⟨#[]⟩, .int .i64 0, .string ⟨#[]⟩, .string ⟨#[]⟩, .string ⟨#[]⟩]) (by simp [results, Tryz.results24, go_sem]) rfl ⟨rfl, (by repeat (first | exact Below.refl _ _ | assumption | exact (Below.refl _ _).alloc (Nat.le_refl _) _ | refine below_tr ?_ (by assumption) | refine below_alloc ?_ | refine below_tr ?_ (below_regrown _ _ _)))⟩
theorem markTp2 (i : Int) (w : World) (h0 : 0 ≤ i) (h1 : i ≤ 1000000) :
    Calls Tryz.prog 24 #[.int .i64 2, .int .i64 i] w fun e w' => (∃ s : Int, e = .returned (.agg #[.int .i64 s, .string ⟨#[]⟩, .string ⟨#[]⟩, .string ⟨#[]⟩, .int .i64 0, .string ⟨#[]⟩, .string ⟨#[]⟩, .string ⟨#[]⟩, .int .i64 0, .string ⟨#[]⟩, .string ⟨#[]⟩, .string ⟨#[]⟩])) ∧ Below w.heap.size w w' := by
  have hm := fun W => kitMark2 i W h0 h1
  go_enter Tryz.func24, Tryz.ntmps24
  go_wp2_with (refine (hm _).mono ?_; rintro e w3 ⟨⟨s, rfl⟩, rfl⟩)
  exact bodyPost_ret (v := .agg #[.int .i64 s, .string ⟨#[]⟩, .string ⟨#[]⟩, .string ⟨#[]⟩, .int .i64 0, .string ⟨#[]⟩, .string ⟨#[]⟩, .string ⟨#[]⟩, .int .i64 0, .string ⟨#[]⟩, .string ⟨#[]⟩, .string ⟨#[]⟩]) (by simp [results, Tryz.results24, go_sem]) rfl ⟨⟨_, rfl⟩, (by repeat (first | exact Below.refl _ _ | assumption | exact (Below.refl _ _).alloc (Nat.le_refl _) _ | refine below_tr ?_ (by assumption) | refine below_alloc ?_ | refine below_tr ?_ (below_regrown _ _ _)))⟩

def LentITp (l : List Tp) (w : World) (v i : Value) (wr : World) : Prop := ∃ k : Nat, k ≤ 12 ∧ i = .int .i64 k ∧ v = .slice (some ⟨w.heap.size, 0, none⟩) (l.length + k) (l.length + 12) ∧ wr.ownsRow w.heap.size 29 12 (.slice (some ⟨w.heap.size, 0, none⟩) (l.length + k) (l.length + 12)) (l.length + k) ((l ++ (List.range k).map (fun j => mkTp ((j : Nat) : Int))).flatMap tpL) ∧ Below w.heap.size w wr
set_option maxRecDepth 10000 in
set_option maxHeartbeats 2000000 in
theorem lentTriples (l : List Tp) (A : Option Addr) (c : Nat) (w : World) (hr : Rd w A (l.flatMap tpL)) (hl : l.length ≤ 1048576) :
    Calls Tryz.prog 13 #[.slice A l.length c] w fun e w' => e = .returned (.slice (some ⟨w.heap.size, 0, none⟩) l.length (l.length + 12)) ∧ LentB 29 w' w.heap.size ((l ++ marksOf mkTp).flatMap tpL) ∧ Below w.heap.size w w' := by
  obtain ⟨i, hi, hz, hsize, hby⟩ := info_parts info_trip
  have hby2 : i.bytes * (l.length + 12) ≤ 281474976710656 := by rw [hby]; omega
  have hn : (l.flatMap tpL).length = l.length * 12 := tpL_len _
  have h1 : ∀ u ∈ l.flatMap tpL, u.oneCell' = true := fun u hu => by obtain ⟨t, _, ht⟩ := List.mem_flatMap.1 hu; exact tpL_one t u ht
  have Hi := Lib.hid hi
  have Hz := Lib.hid hz
  have Hsize := Lib.hid hsize
  clear hi hz hsize hby
  go_enter Tryz.func13, Tryz.ntmps13
  go_wp2_with (first
    | (at_make; refine wpList_make_own w rfl _ _ 31 rfl w.heap.size 29 i _ 12 Tryz.underlying31 Hi.out Hz.out Hsize.out .i64 .i64 _ (l.length + 12) rfl rfl (by omega) hby2 (by unfold maxLen; omega) (Nat.le_refl _) ?_; intro w1 hown1 hg1; have hb1 : Below w.heap.size w w1 := (Below.refl _ _).grown hg1 (Nat.le_refl _) (by simp))
    | (at_builtin; refine wpList_app_fits rfl rfl Tryz.underlying31 info_trip (by omega) rfl hown1 rfl (hr.of_belowL hb1) hn h1 (by omega) ?_; intro w2 hown2 hg2; have hb2 : Below w.heap.size w w2 := hb1.grown hg2 hb1.size (by intro k hk; injection hk with hk; omega)))
  rw [Nat.zero_add, List.nil_append] at hown2
  go_loopw [3, 4] (LentITp l w) (fun _ i _ => 12 - (intOf i).toNat)
  case atStart => exact ⟨0, by omega, rfl, by simp, by simpa using hown2, hb2⟩
  case round =>
    clear hown2 hb2 hown1 hb1 hg1 hg2 hr hn h1
    obtain ⟨k, hk, rfl, rfl, hown, hB⟩ := hrel
    by_cases hlt : k < 12
    · have hmk := fun W => markTp (k : Int) W (by omega) (by omega)
      have hms : (l ++ (List.range k).map (fun j => mkTp ((j : Nat) : Int))).flatMap tpL ++ [.int .i64 (8000024 + (k : Int)), .string ⟨#[]⟩, .string ⟨#[]⟩, .string ⟨#[]⟩, .int .i64 0, .string ⟨#[]⟩, .string ⟨#[]⟩, .string ⟨#[]⟩, .int .i64 0, .string ⟨#[]⟩, .string ⟨#[]⟩, .string ⟨#[]⟩] = (l ++ (List.range (k+1)).map (fun j => mkTp ((j : Nat) : Int))).flatMap tpL := by
        rw [List.range_succ]; simp [List.map_append, List.flatMap_append, tpL, mkTp, zTm]
      have Hms := Lib.hid hms
      clear hms
      generalize 8000024 + (k : Int) = s at *
      go_wp2_with fail
      refine (hmk _).mono ?_
      rintro e w3 ⟨rfl, hb3⟩
      have hz : w.heap.size ≤ w3.heap.size := Nat.le_trans hB.size hb3.size
      have hown3 := (own_below hown hb3 (Nat.le_refl _)).alloc (.cells #[.int .i64 s, .string ⟨#[]⟩, .string ⟨#[]⟩, .string ⟨#[]⟩, .int .i64 0, .string ⟨#[]⟩, .string ⟨#[]⟩, .string ⟨#[]⟩, .int .i64 0, .string ⟨#[]⟩, .string ⟨#[]⟩, .string ⟨#[]⟩] 29)
      go_wp2_with (at_builtin; refine wpList_app_fits rfl rfl Tryz.underlying31 info_trip (by omega) rfl hown3 rfl (Rd.of_block (heap_alloc_new w3 _) rfl) rfl (by intro u hu; simp only [List.mem_cons, List.not_mem_nil, or_false] at hu; rcases hu with rfl | rfl | rfl | rfl | rfl | rfl | rfl | rfl | rfl | rfl | rfl | rfl <;> rfl) (by omega) ?_; intro w4 hown4 hg4)
      have hb4 : Below w.heap.size w w4 := ((hB.trans (hb3.mono hB.size)).alloc hz _).grown hg4 (by simp; omega) (by intro k hk; injection hk with hk; omega)
      go_roundw
      case rel => exact ⟨k+1, by omega, by go_num, rfl, by rw [← Hms.out]; exact hown4, hb4⟩
      case measure => simp [intOf]; omega
    · have hk12 : k = 12 := by omega
      subst hk12
      have hfin := LentB.of_own hown
      have Hfin := Lib.hid hfin
      clear hfin hown
      go_wp2
      go_ret
      exact ⟨by simp, by first | exact Hfin.out | simpa [List.map_append, List.flatMap_append, marksOf] using Hfin.out, hB⟩
theorem LentB.front {T : TypeId} {w : World} {g : Nat} {xs ys : List Value} (h : LentB T w g (xs ++ ys)) : Rd w (some ⟨g, 0, none⟩) xs := by
  rcases h.rd with h0 | ⟨b, o, hA, hc⟩
  · exact .inl (by simp at h0; exact h0.1)
  · exact .inr ⟨b, o, hA, fun j u hu => hc j u (by rw [List.getElem?_append_left (List.getElem?_eq_some_iff.1 hu).1]; exact hu)⟩
set_option maxRecDepth 10000 in
set_option maxHeartbeats 4000000 in
theorem keptTriples (l : List Tp) (g : Nat) (A : Option Addr) (c : Nat) (w : World) (hg : LentB 29 w g ((l ++ marksOf mkTp).flatMap tpL)) (hr : Rd w A (l.flatMap tpL)) (hl : l.length ≤ 1048576) :
    Calls Tryz.prog 23 #[.slice (some ⟨g, 0, none⟩) l.length (l.length + 12), .slice A l.length c] w fun e w' => e = .returned (.bool true) ∧ Below w.heap.size w w' := by
  have hlm : (l ++ marksOf mkTp).length = l.length + 12 := by simp [marksOf]
  go_enter Tryz.func23, Tryz.ntmps23
  go_wp2
  go_loopw [6] (fun i wr => ∃ k : Nat, k ≤ l.length + 12 ∧ i = .int .i64 k ∧ Below w.heap.size w wr) (fun i _ => l.length + 12 - (intOf i).toNat)
  case atStart => exact ⟨0, by omega, rfl, Below.refl _ _⟩
  case round =>
    obtain ⟨k, hk, rfl, hB⟩ := hrel
    by_cases hlt : k < l.length + 12
    · have hlt0 := hlt
      have hrd := hg.rd.of_belowL hB
      have hrl := hr.of_belowL hB
      clear hr hg
      by_cases hkn : k < l.length
      · obtain ⟨x, hx⟩ : ∃ x, l[k]? = some x := ⟨_, List.getElem?_eq_getElem hkn⟩
        have hxm : (l ++ marksOf mkTp)[k]? = some x := by rw [List.getElem?_append_left hkn]; exact hx
        obtain ⟨g0, o0, he0, c0, c1, c2, c3, c4, c5, c6, c7, c8, c9, c10, c11⟩ := rd_at12 hrd hxm
        injection he0 with he0; injection he0 with h2 h3; subst h2; subst h3
        simp only [Nat.zero_add] at c0 c1 c2 c3 c4 c5 c6 c7 c8 c9 c10 c11
        obtain ⟨g1, o1, rfl, d0, d1, d2, d3, d4, d5, d6, d7, d8, d9, d10, d11⟩ := rd_at12 hrl hx
        have x0 : ∀ d os, (Sort.grow (redrawn wr d) os).cell? ⟨g, k * 12, none⟩ = some (.int .i64 x.s.k) := fun d os => cell_on c0 (below_regrown wr d os)
        have x1 : ∀ d os, (Sort.grow (redrawn wr d) os).cell? ⟨g, k * 12 + 1, none⟩ = some (.string x.s.x) := fun d os => cell_on c1 (below_regrown wr d os)
        have x2 : ∀ d os, (Sort.grow (redrawn wr d) os).cell? ⟨g, k * 12 + 2, none⟩ = some (.string x.s.l) := fun d os => cell_on c2 (below_regrown wr d os)
        have x3 : ∀ d os, (Sort.grow (redrawn wr d) os).cell? ⟨g, k * 12 + 3, none⟩ = some (.string x.s.y) := fun d os => cell_on c3 (below_regrown wr d os)
        have x4 : ∀ d os, (Sort.grow (redrawn wr d) os).cell? ⟨g, k * 12 + 4, none⟩ = some (.int .i64 x.p.k) := fun d os => cell_on c4 (below_regrown wr d os)
        have x5 : ∀ d os, (Sort.grow (redrawn wr d) os).cell? ⟨g, k * 12 + 5, none⟩ = some (.string x.p.x) := fun d os => cell_on c5 (below_regrown wr d os)
        have x6 : ∀ d os, (Sort.grow (redrawn wr d) os).cell? ⟨g, k * 12 + 6, none⟩ = some (.string x.p.l) := fun d os => cell_on c6 (below_regrown wr d os)
        have x7 : ∀ d os, (Sort.grow (redrawn wr d) os).cell? ⟨g, k * 12 + 7, none⟩ = some (.string x.p.y) := fun d os => cell_on c7 (below_regrown wr d os)
        have x8 : ∀ d os, (Sort.grow (redrawn wr d) os).cell? ⟨g, k * 12 + 8, none⟩ = some (.int .i64 x.o.k) := fun d os => cell_on c8 (below_regrown wr d os)
        have x9 : ∀ d os, (Sort.grow (redrawn wr d) os).cell? ⟨g, k * 12 + 9, none⟩ = some (.string x.o.x) := fun d os => cell_on c9 (below_regrown wr d os)
        have x10 : ∀ d os, (Sort.grow (redrawn wr d) os).cell? ⟨g, k * 12 + 10, none⟩ = some (.string x.o.l) := fun d os => cell_on c10 (below_regrown wr d os)
        have x11 : ∀ d os, (Sort.grow (redrawn wr d) os).cell? ⟨g, k * 12 + 11, none⟩ = some (.string x.o.y) := fun d os => cell_on c11 (below_regrown wr d os)
        have y0 : ∀ d os, (Sort.grow (redrawn wr d) os).cell? ⟨g1, o1 + k * 12, none⟩ = some (.int .i64 x.s.k) := fun d os => cell_on d0 (below_regrown wr d os)
        have y1 : ∀ d os, (Sort.grow (redrawn wr d) os).cell? ⟨g1, o1 + k * 12 + 1, none⟩ = some (.string x.s.x) := fun d os => cell_on d1 (below_regrown wr d os)
        have y2 : ∀ d os, (Sort.grow (redrawn wr d) os).cell? ⟨g1, o1 + k * 12 + 2, none⟩ = some (.string x.s.l) := fun d os => cell_on d2 (below_regrown wr d os)
        have y3 : ∀ d os, (Sort.grow (redrawn wr d) os).cell? ⟨g1, o1 + k * 12 + 3, none⟩ = some (.string x.s.y) := fun d os => cell_on d3 (below_regrown wr d os)
        have y4 : ∀ d os, (Sort.grow (redrawn wr d) os).cell? ⟨g1, o1 + k * 12 + 4, none⟩ = some (.int .i64 x.p.k) := fun d os => cell_on d4 (below_regrown wr d os)
        have y5 : ∀ d os, (Sort.grow (redrawn wr d) os).cell? ⟨g1, o1 + k * 12 + 5, none⟩ = some (.string x.p.x) := fun d os => cell_on d5 (below_regrown wr d os)
        have y6 : ∀ d os, (Sort.grow (redrawn wr d) os).cell? ⟨g1, o1 + k * 12 + 6, none⟩ = some (.string x.p.l) := fun d os => cell_on d6 (below_regrown wr d os)
        have y7 : ∀ d os, (Sort.grow (redrawn wr d) os).cell? ⟨g1, o1 + k * 12 + 7, none⟩ = some (.string x.p.y) := fun d os => cell_on d7 (below_regrown wr d os)
        have y8 : ∀ d os, (Sort.grow (redrawn wr d) os).cell? ⟨g1, o1 + k * 12 + 8, none⟩ = some (.int .i64 x.o.k) := fun d os => cell_on d8 (below_regrown wr d os)
        have y9 : ∀ d os, (Sort.grow (redrawn wr d) os).cell? ⟨g1, o1 + k * 12 + 9, none⟩ = some (.string x.o.x) := fun d os => cell_on d9 (below_regrown wr d os)
        have y10 : ∀ d os, (Sort.grow (redrawn wr d) os).cell? ⟨g1, o1 + k * 12 + 10, none⟩ = some (.string x.o.l) := fun d os => cell_on d10 (below_regrown wr d os)
        have y11 : ∀ d os, (Sort.grow (redrawn wr d) os).cell? ⟨g1, o1 + k * 12 + 11, none⟩ = some (.string x.o.y) := fun d os => cell_on d11 (below_regrown wr d os)
        have hself := fun W => run_eqTp x x W
        rw [sameTp_iff.2 rfl] at hself
        have hd1 : decide ((k : Int) < (l.length : Int)) = true := by simp; omega
        have hd2 : decide (l.length ≤ k) = false := by simp; omega
        clear hx hxm hrd hrl hlm c0 c1 c2 c3 c4 c5 c6 c7 c8 c9 c10 c11 d0 d1 d2 d3 d4 d5 d6 d7 d8 d9 d10 d11
        go_wp2
        refine wp_region_quiet_below (by kernel_rfl) (by kernel_rfl) ?_; (repeat (any_goals (go_big_quiet_step ((fail))))); all_goals (refine wpQuiet_nil ?_; intro _ hw9; obtain ⟨⟨d9, os9⟩, hw8⟩ := hw9; subst hw8)
        go_wp2
        go_roundw
        case rel => exact ⟨k+1, by omega, by go_num, (by repeat (first | exact Below.refl _ _ | assumption | exact (Below.refl _ _).alloc (Nat.le_refl _) _ | refine below_tr ?_ (by assumption) | refine below_alloc ?_ | refine below_tr ?_ (below_regrown _ _ _)))⟩
        case measure => simp [intOf]; omega
      · have hmk := fun W => markTp ((k : Int) - l.length) W (by omega) (by omega)
        have hxm : (l ++ marksOf mkTp)[k]? = some (mkTp ((k : Int) - l.length)) := marks_at _ _ _ (by omega) hlt
        obtain ⟨g0, o0, he0, c0, c1, c2, c3, c4, c5, c6, c7, c8, c9, c10, c11⟩ := rd_at12 hrd hxm
        injection he0 with he0; injection he0 with h2 h3; subst h2; subst h3
        simp only [Nat.zero_add] at c0 c1 c2 c3 c4 c5 c6 c7 c8 c9 c10 c11
        have hself := fun W => run_eqTp (mkTp ((k : Int) - l.length)) (mkTp ((k : Int) - l.length)) W
        rw [sameTp_iff.2 rfl] at hself
        simp only [mkTp, zTm] at hself hmk c0 c1 c2 c3 c4 c5 c6 c7 c8 c9 c10 c11
        generalize 8000024 + ((k : Int) - l.length) = s at *
        have x0 : ∀ d os, (Sort.grow (redrawn wr d) os).cell? ⟨g, k * 12, none⟩ = some (.int .i64 s) := fun d os => cell_on c0 (below_regrown wr d os)
        have x1 : ∀ d os, (Sort.grow (redrawn wr d) os).cell? ⟨g, k * 12 + 1, none⟩ = some (.string ⟨#[]⟩) := fun d os => cell_on c1 (below_regrown wr d os)
        have x2 : ∀ d os, (Sort.grow (redrawn wr d) os).cell? ⟨g, k * 12 + 2, none⟩ = some (.string ⟨#[]⟩) := fun d os => cell_on c2 (below_regrown wr d os)
        have x3 : ∀ d os, (Sort.grow (redrawn wr d) os).cell? ⟨g, k * 12 + 3, none⟩ = some (.string ⟨#[]⟩) := fun d os => cell_on c3 (below_regrown wr d os)
        have x4 : ∀ d os, (Sort.grow (redrawn wr d) os).cell? ⟨g, k * 12 + 4, none⟩ = some (.int .i64 0) := fun d os => cell_on c4 (below_regrown wr d os)
        have x5 : ∀ d os, (Sort.grow (redrawn wr d) os).cell? ⟨g, k * 12 + 5, none⟩ = some (.string ⟨#[]⟩) := fun d os => cell_on c5 (below_regrown wr d os)
        have x6 : ∀ d os, (Sort.grow (redrawn wr d) os).cell? ⟨g, k * 12 + 6, none⟩ = some (.string ⟨#[]⟩) := fun d os => cell_on c6 (below_regrown wr d os)
        have x7 : ∀ d os, (Sort.grow (redrawn wr d) os).cell? ⟨g, k * 12 + 7, none⟩ = some (.string ⟨#[]⟩) := fun d os => cell_on c7 (below_regrown wr d os)
        have x8 : ∀ d os, (Sort.grow (redrawn wr d) os).cell? ⟨g, k * 12 + 8, none⟩ = some (.int .i64 0) := fun d os => cell_on c8 (below_regrown wr d os)
        have x9 : ∀ d os, (Sort.grow (redrawn wr d) os).cell? ⟨g, k * 12 + 9, none⟩ = some (.string ⟨#[]⟩) := fun d os => cell_on c9 (below_regrown wr d os)
        have x10 : ∀ d os, (Sort.grow (redrawn wr d) os).cell? ⟨g, k * 12 + 10, none⟩ = some (.string ⟨#[]⟩) := fun d os => cell_on c10 (below_regrown wr d os)
        have x11 : ∀ d os, (Sort.grow (redrawn wr d) os).cell? ⟨g, k * 12 + 11, none⟩ = some (.string ⟨#[]⟩) := fun d os => cell_on c11 (below_regrown wr d os)
        have hd1 : decide ((k : Int) < (l.length : Int)) = false := by simp; omega
        have hd2 : decide (l.length ≤ k) = true := by simp; omega
        have e1 : IntKind.i64.wrap ((k : Int) - l.length) = (k : Int) - l.length := IntWalk.i64_in _ (by omega)
        clear hxm hrd hrl hlm c0 c1 c2 c3 c4 c5 c6 c7 c8 c9 c10 c11
        go_wp2
        refine wp_region_quiet_below (by kernel_rfl) (by kernel_rfl) ?_; (repeat (any_goals (go_big_quiet_step ((go_at_call 24; exact Calls.regrown_of (hmk _)))))); all_goals (refine wpQuiet_nil ?_; intro _ hw9; obtain ⟨⟨d9, os9⟩, hw8⟩ := hw9; subst hw8)
        go_wp2
        go_roundw
        case rel => exact ⟨k+1, by omega, by go_num, (by repeat (first | exact Below.refl _ _ | assumption | exact (Below.refl _ _).alloc (Nat.le_refl _) _ | refine below_tr ?_ (by assumption) | refine below_alloc ?_ | refine below_tr ?_ (below_regrown _ _ _)))⟩
        case measure => simp [intOf]; omega
    · go_wp2
      go_ret
      exact ⟨rfl, hB⟩
end Go.Proofs.YthdlepalglgmoaaGreatDoor
