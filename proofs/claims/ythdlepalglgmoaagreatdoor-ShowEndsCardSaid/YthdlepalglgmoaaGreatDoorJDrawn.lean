/- show.shown, show.Line; the answer's Line. show.Line; the answer's Line. What was drawn stays drawn: of every call. -/
import Derived.Test.YthdlepalglgmoaaGreatDoorJShFile
import Derived.Test.YthdlepalglgmoaaGreatDoorJR8g
import Derived.Test.YthdlepalglgmoaaGreatDoorJR8e
import Derived.Calls
import Derived.StepT
namespace Go.Proofs.YthdlepalglgmoaaGreatDoor
open Go Go.RowKit Um Fm Lx Tx

/-- A triple's line, as a text; none if there is an error. -/
def lineS (t : Tp) : ByteArray := if errTp t = 0 then mkS (lineB t) else ⟨#[]⟩
theorem mkS_app (a b : List UInt8) : mkS a ++ mkS b = mkS (a ++ b) := by
  apply ByteArray.ext
  show (mkS a ++ mkS b).data = _
  rw [ByteArray.data_append]
  show a.toArray ++ b.toArray = (a ++ b).toArray
  simp
theorem show_right {t : Tm} (h : rightB t = true) : showP t = if longB t = true then (⟨#[]⟩, 3) else (mkS (textL t), 0) := by
  unfold longB showP
  rw [if_pos h]
  split <;> simp_all
theorem text_le {t : Tm} (h : rightB t = true) (hl : longB t = false) : (textL t).length ≤ 4096 := by
  unfold longB showP at hl
  rw [if_pos h] at hl
  split at hl
  · simp at hl
  · omega
theorem longP_iff (t : Tp) : longP t = false ↔ longB t.s = false ∧ longB t.p = false ∧ longB t.o = false := by
  unfold longP
  simp only [List.any_cons, List.any_nil, Bool.or_false, Bool.or_eq_false_iff]
theorem lineB_le {t : Tp} (h : errTp t = 0) : (lineB t).length ≤ 12292 := by
  obtain ⟨h1, h2⟩ := err_none h
  obtain ⟨-, -, hs, hp, ho⟩ := trip_parts h1
  obtain ⟨ls, lp, lo⟩ := (longP_iff t).1 h2
  have a := text_le hs ls
  have b := text_le hp lp
  have c := text_le ho lo
  unfold lineB
  simp only [List.length_append, List.length_cons, List.length_nil]
  omega
theorem lineS_le (t : Tp) : (lineS t).size ≤ 12292 := by
  unfold lineS
  split
  · next h => rw [mkS_size]; exact lineB_le h
  · exact Nat.zero_le _
theorem join3 (a b c : List UInt8) : Lib.join [a, b, c] [32] = a ++ (32 :: (b ++ (32 :: c))) := by
  simp [Lib.join, List.intercalate]
/-- The texts of some terms. -/
def showTs (ts : List Tm) : List ByteArray := ts.map fun t => mkS (textL t)
set_option maxRecDepth 20000 in
set_option maxHeartbeats 4000000 in
theorem showShown (a b c : Tm) (A : Option Addr) (cp : Nat) (w : World) (hC : CtxT w) (hr : RdTs w A [a, b, c]) (ha : smallT a) (hb : smallT b) (hc : smallT c) (ra : rightB a = true) (rb : rightB b = true) (rc : rightB c = true) :
    Calls Tryz.prog 26 #[.slice A 3 cp] w fun e w' => e = .returned (if [a, b, c].any longB = true then .tuple #[.string ⟨#[]⟩, .int .i64 3] else .tuple #[.string (mkS (textL a ++ (32 :: (textL b ++ (32 :: textL c))))), .int .i64 0]) ∧ Below w.heap.size w w' := by
  have hsm : ∀ t ∈ [a, b, c], smallT t ∧ rightB t = true := by
    intro t ht
    simp only [List.mem_cons, List.not_mem_nil, or_false] at ht
    rcases ht with rfl | rfl | rfl
    · exact ⟨ha, ra⟩
    · exact ⟨hb, rb⟩
    · exact ⟨hc, rc⟩
  have hj := join3 (textL a) (textL b) (textL c)
  have HJ : Hid (Lib.join ((showTs [a, b, c]).map (·.data.toList)) [32] = textL a ++ (32 :: (textL b ++ (32 :: textL c)))) := by
    show _ = _
    rw [← hj]
    simp [showTs]
  have hlen : ([a, b, c].any longB = false) → (textL a ++ (32 :: (textL b ++ (32 :: textL c)))).length ≤ 20000 := by
    intro h
    simp only [List.any_cons, List.any_nil, Bool.or_false, Bool.or_eq_false_iff] at h
    have x := text_le ra h.1
    have y := text_le rb h.2.1
    have z := text_le rc h.2.2
    simp only [List.length_append, List.length_cons]
    omega
  have Hlen := Lib.hid hlen
  have HC := Lib.hid hC
  have HR := Lib.hid hr
  have Hsm := Lib.hid hsm
  clear hC hr hsm ha hb hc ra rb rc hj hlen
  generalize textL a ++ (32 :: (textL b ++ (32 :: textL c))) = full at *
  obtain ⟨ts, hts⟩ : ∃ ts, [a, b, c] = ts := ⟨_, rfl⟩
  have HN : Hid (ts.length = 3) := by show _ = _; rw [← hts]; rfl
  rw [hts] at HJ Hlen HR Hsm ⊢
  obtain ⟨res, hres⟩ : ∃ r, (if ts.any longB = true then Value.tuple #[.string ⟨#[]⟩, .int .i64 3] else Value.tuple #[.string (mkS full), .int .i64 0]) = r := ⟨_, rfl⟩
  rw [hres]
  have Hres := Lib.hid hres
  clear hts hres
  go_enter Tryz.func26, Tryz.ntmps26
  go_wp2
  go_loopw [4, 11] (fun v i wr => ∃ k : Nat, k ≤ 3 ∧ i = .int .i64 k ∧ Hid (∀ t ∈ ts.take k, longB t = false) ∧ wr.ownsRow w.heap.size 9 1 v k ((showTs (ts.take k)).map Value.string) ∧ Below w.heap.size w wr) (fun _ i _ => 3 - (intOf i).toNat)
  case atStart => exact ⟨0, by omega, rfl, by intro t ht; simp at ht, World.ownsRow_nil _ _ _ _, Below.refl _ _⟩
  case round =>
    obtain ⟨k, hk, rfl, HG, own, hB⟩ := hrel
    have HB := Lib.hid hB
    have Own := Lib.hid own
    obtain ⟨A1, c1, rfl, hc1, _⟩ := own_slice own
    by_cases hlt : k < 3
    · have hd1 : decide (k < 3) = true := by simp; omega
      obtain ⟨t, ht⟩ : ∃ t, ts[k]? = some t := ⟨_, List.getElem?_eq_getElem (by rw [HN.out]; exact hlt)⟩
      obtain ⟨g, o, rfl, e0, e1, e2, e3⟩ := (HR.out.later hB).at4 ht
      obtain ⟨hts, htr⟩ := Hsm.out t (List.mem_of_getElem? ht)
      have hb1 : Below w.heap.size w (wr.alloc (.cells #[.int .i64 t.k, .string t.x, .string t.l, .string t.y] 24)) := below_alloc hB
      have hsh := termShow t _ (HC.out.step hb1) hts
      rw [show_right htr] at hsh
      have htk : Hid (ts.take (k + 1) = ts.take k ++ [t]) := take_snoc_of ht
      have hmem : Hid (t ∈ ts) := List.mem_of_getElem? ht
      have HB1 := Lib.hid hb1
      clear hB own ht hb1 htr hts
      cases hl : longB t
      · rw [hl, if_neg (by simp)] at hsh
        have HG2 : Hid (∀ u ∈ ts.take (k + 1), longB u = false) := by
          intro u hu
          rw [htk.out, List.mem_append, List.mem_singleton] at hu
          rcases hu with hu | rfl
          · exact HG.out u hu
          · exact hl
        have hst : Hid ((showTs (ts.take (k + 1))).map Value.string = (showTs (ts.take k)).map Value.string ++ [.string (mkS (textL t))]) := by
          show _ = _
          rw [htk.out]; simp [showTs]
        generalize mkS (textL t) = s at *
        clear hl HG htk
        go_wp2_with fail
        refine hsh.mono ?_
        rintro e w2 ⟨rfl, hb2⟩
        have hb3 := below_tr HB1.out hb2
        have Own2 := Lib.hid (((own_below (own_below Own.out ((Below.refl _ wr).alloc (Nat.le_refl _) (.cells #[.int .i64 t.k, .string t.x, .string t.l, .string t.y] 24)) (Nat.le_refl _)) hb2 (Nat.le_refl _))).alloc (.cells #[.string s] 9))
        have HB3 := Lib.hid hb3
        have hz3 := hb3.size
        clear hb2 hb3
        go_wp2_with (at_builtin; refine wpList_appG (m := 1) rfl rfl Tryz.underlying61 info_str rfl (by omega) rfl Own2.out rfl (Rd.of_block (heap_alloc_new w2 _) rfl) rfl (by intro u hu; simp only [List.mem_cons, List.not_mem_nil, or_false] at hu; subst hu; rfl) (by omega) (by omega) (by simp; omega) ?_; intro v5 w5 own5 hb5 _; have HB5 := Lib.hid ((below_alloc HB3.out).trans hb5); have Own5 := Lib.hid own5; clear own5 hb5)
        go_roundw
        case rel => exact ⟨k + 1, by omega, by go_num, HG2, by rw [hst.out]; exact Own5.out, HB5.out⟩
        case measure => simp [intOf]; omega
      · rw [hl, if_pos rfl] at hsh
        have hany : Hid (ts.any longB = true) := List.any_eq_true.2 ⟨t, hmem.out, hl⟩
        clear hl HG htk
        go_wp2_with fail
        refine hsh.mono ?_
        rintro e w2 ⟨rfl, hb2⟩
        have HB3 := Lib.hid (below_tr HB1.out hb2)
        clear hb2
        go_wp2
        refine bodyPost_ret (v := .tuple #[.string ⟨#[]⟩, .int .i64 3]) (by simp [results, Tryz.results26, go_sem]) rfl ?_
        exact ⟨by rw [← Hres.out, if_pos hany.out], HB3.out⟩
    · obtain rfl : k = 3 := by omega
      have hd1 : decide ((3 : Nat) < 3) = false := rfl
      have hany : ts.any longB = false := by
        rw [List.any_eq_false]
        intro t ht
        have := HG.out t (by rw [List.take_of_length_le (by rw [HN.out]; exact Nat.le_refl _)]; exact ht)
        simp [this]
      have hfl := Hlen.out hany
      have Hany := Lib.hid hany
      rw [List.take_of_length_le (by rw [HN.out]; exact Nat.le_refl _)] at own
      have hsl : (showTs ts).length = 3 := by rw [showTs, List.length_map, HN.out]
      obtain ⟨A2, c2, he, _, hR2⟩ := own_slice own
      injection he with he1 _ he3
      subst he1; subst he3
      obtain ⟨g, o, rfl, hcl⟩ : ∃ g o, A1 = some ⟨g, o, none⟩ ∧ ∀ j u, ((showTs ts).map Value.string)[j]? = some u → wr.cell? ⟨g, o + j, none⟩ = some u := by
        rcases hR2 with h0 | ⟨g, o, hA, hc⟩
        · have := congrArg List.length h0
          rw [List.length_map, hsl] at this
          cases this
        · exact ⟨g, o, hA, hc⟩
      have hgl : g < wr.heap.size := cell_lt (hcl 0 _ (List.getElem?_eq_getElem (by rw [List.length_map, hsl]; omega)))
      have hjn := Tryz.strings_Join g o c1 (showTs ts) ⟨#[32]⟩ wr (fun j x hx => hcl j _ (by rw [List.getElem?_map, hx]; rfl)) hgl (by rw [hsl]; omega) (by rw [hsl]; exact hc1) (by show (Lib.join _ [32]).length ≤ _; rw [HJ.out]; omega)
      rw [hsl] at hjn
      change Calls Tryz.prog 39 #[.slice (some ⟨g, o, none⟩) 3 c1, .string ⟨#[32]⟩] wr (fun e w' => e = .returned (.string (mkS (Lib.join ((showTs ts).map (·.data.toList)) [32]))) ∧ Below wr.heap.size wr w') at hjn
      rw [HJ.out] at hjn
      rw [if_neg (by rw [hany]; simp)] at Hres
      generalize mkS full = s at *
      clear hB own hR2 hcl hgl hany
      go_wp2_with fail
      refine hjn.mono ?_
      rintro e w2 ⟨rfl, hb2⟩
      have HB2 := Lib.hid (below_tr HB.out hb2)
      clear hb2
      go_wp2
      refine bodyPost_ret (v := .tuple #[.string s, .int .i64 0]) (by simp [results, Tryz.results26, go_sem]) rfl ?_
      exact ⟨by rw [← Hres.out], HB2.out⟩
end Go.Proofs.YthdlepalglgmoaaGreatDoor
namespace Go.Proofs.YthdlepalglgmoaaGreatDoor
open Go Go.RowKit Um Fm Lx Tx

theorem lineS_parts {t : Tp} (h : errTp t = 0) : mkS (textL t.s ++ (32 :: (textL t.p ++ (32 :: textL t.o)))) ++ mkS [32, 46] = lineS t := by
  unfold lineS
  rw [if_pos h, mkS_app]
  congr 1
  unfold lineB
  simp
theorem errTp_no {t : Tp} (h : tripB t = false) : errTp t = 2 := by unfold errTp; rw [if_neg (by rw [h]; simp)]
theorem errTp_long {t : Tp} (h : tripB t = true) (hl : longP t = true) : errTp t = 3 := by unfold errTp; rw [if_pos h, if_pos hl]
theorem errTp_ok {t : Tp} (h : tripB t = true) (hl : longP t = false) : errTp t = 0 := by unfold errTp; rw [if_pos h, if_neg (by rw [hl]; simp)]
theorem lineS_no {t : Tp} (h : errTp t ≠ 0) : lineS t = ⟨#[]⟩ := if_neg h
/-- What Line says. -/
def LineR11 (t : Tp) (w : World) (e : Ending) (w' : World) : Prop := e = .returned (.tuple #[.string (lineS t), .int .i64 (errTp t)]) ∧ Below w.heap.size w w'
set_option maxRecDepth 20000 in
set_option maxHeartbeats 4000000 in
theorem showLine (t : Tp) (w : World) (hC : CtxT w) (hs : smallP t) : Calls Tryz.prog 14 #[tpA t] w (LineR11 t w) := by
  have hb0 : Below w.heap.size w (w.alloc (.cells (tpC t) 29)) := (Below.refl _ w).alloc (Nat.le_refl _) _
  have hga := heap_alloc_new w (.cells (tpC t) 29)
  have hT := termTriple t _ (hC.step hb0) hs
  have HB0 := Lib.hid hb0
  have HG := Lib.hid hga
  have HC := Lib.hid hC
  have Hs := Lib.hid hs
  clear hC hs
  cases hr : tripB t
  · rw [hr] at hT
    have h1 := errTp_no hr
    have h2 := lineS_no (t := t) (by rw [h1]; omega)
    unfold LineR11
    rw [h1, h2]
    clear hr h1 h2 hb0 hga HG
    go_enter Tryz.func14, Tryz.ntmps14
    go_wp2_with fail
    refine hT.mono ?_
    rintro e w1 ⟨rfl, b1⟩
    have HB1 := Lib.hid (below_tr HB0.out b1)
    clear b1
    go_wp2
    refine bodyPost_ret (v := .tuple #[.string ⟨#[]⟩, .int .i64 2]) (by simp [results, Tryz.results14, go_sem]) rfl ?_
    exact ⟨rfl, HB1.out⟩
  · rw [hr] at hT
    obtain ⟨-, -, r1, r2, r3⟩ := trip_parts hr
    have HL : Hid (longP t = [t.s, t.p, t.o].any longB) := rfl
    have Hr := Lib.hid hr
    have Hrt := Lib.hid (And.intro r1 (And.intro r2 r3))
    clear hr hb0 hga r1 r2 r3
    go_enter Tryz.func14, Tryz.ntmps14
    go_wp2_with fail
    refine hT.mono ?_
    rintro e w1 ⟨rfl, b1⟩
    have hblk := below_blk b1 HG.out
    have a0 := cells_at hblk 0 rfl
    have a1 := cells_at hblk 1 rfl
    have a2 := cells_at hblk 2 rfl
    have a3 := cells_at hblk 3 rfl
    have a4 := cells_at hblk 4 rfl
    have a5 := cells_at hblk 5 rfl
    have a6 := cells_at hblk 6 rfl
    have a7 := cells_at hblk 7 rfl
    have a8 := cells_at hblk 8 rfl
    have a9 := cells_at hblk 9 rfl
    have a10 := cells_at hblk 10 rfl
    have a11 := cells_at hblk 11 rfl
    have HB1 := Lib.hid (below_tr HB0.out b1)
    have hb2 : Below w1.heap.size w1 (w1.alloc (.cells (tpC t) 24)) := (Below.refl _ w1).alloc (Nat.le_refl _) _
    have hsn := showShown t.s t.p t.o (some ⟨w1.heap.size, 0, none⟩) 3 (w1.alloc (.cells (tpC t) 24)) ((HC.out.step HB1.out).step hb2) ⟨_, Rd.of_block (heap_alloc_new w1 _) rfl, All.of_flat (f := tmC) [t.s, t.p, t.o] fun _ _ => rfl⟩ Hs.out.1 Hs.out.2.1 Hs.out.2.2 Hrt.out.1 Hrt.out.2.1 Hrt.out.2.2
    rw [← HL.out] at hsn
    have HB2 := Lib.hid (below_tr HB1.out hb2)
    clear b1 hblk hT hb2
    cases hl : longP t
    · have h1 := errTp_ok Hr.out hl
      have h2 := lineS_parts h1
      rw [hl, if_neg (by simp)] at hsn
      have H1 := Lib.hid h1
      have hz : (textL t.s ++ (32 :: (textL t.p ++ (32 :: textL t.o)))).length ≤ 20000 := by
        have := lineB_le h1
        unfold lineB at this
        simp only [List.length_append, List.length_cons, List.length_nil] at this ⊢
        omega
      rw [← mkS_size] at hz
      generalize mkS (textL t.s ++ (32 :: (textL t.p ++ (32 :: textL t.o)))) = s at *
      have H2 : Hid (s ++ ⟨#[32, 46]⟩ = lineS t) := h2
      clear h1 h2 hl
      go_wp2_with fail
      refine hsn.mono ?_
      rintro e w2 ⟨rfl, b2⟩
      have HB3 := Lib.hid (below_tr HB2.out b2)
      clear b2
      go_wp2
      refine bodyPost_ret (v := .tuple #[.string (s ++ ⟨#[32, 46]⟩), .int .i64 0]) (by simp [results, Tryz.results14, go_sem]) rfl ?_
      exact ⟨by rw [H2.out, H1.out], HB3.out⟩
    · have h1 := errTp_long Hr.out hl
      have h2 := lineS_no (t := t) (by rw [h1]; omega)
      rw [hl, if_pos rfl] at hsn
      have H1 := Lib.hid h1
      have H2 := Lib.hid h2
      clear h1 h2 hl
      go_wp2_with fail
      refine hsn.mono ?_
      rintro e w2 ⟨rfl, b2⟩
      have HB3 := Lib.hid (below_tr HB2.out b2)
      clear b2
      go_wp2
      refine bodyPost_ret (v := .tuple #[.string ⟨#[]⟩, .int .i64 3]) (by simp [results, Tryz.results14, go_sem]) rfl ?_
      exact ⟨by rw [H1.out, H2.out], HB3.out⟩
end Go.Proofs.YthdlepalglgmoaaGreatDoor
namespace Go.Proofs.YthdlepalglgmoaaGreatDoor.Dr
open Go
theorem ask_le {α : Type} (k : Ask α) : ∀ w : World, w.drawn ≤ (w.ask k).2.drawn := by
  induction k with
  | done a => intro w; simp [World.ask]
  | ask what range k ih =>
    intro w
    rw [World.ask]
    split
    · exact ih _ w
    · exact Nat.le_trans (Nat.le_succ _) (ih _ { w with drawn := w.drawn + 1 })
theorem sys_le (w : World) (c : Sys) : w.drawn ≤ (w.sys c).2.drawn := by
  have h := ask_le (Kernel.perform c w.os) w
  unfold World.sys
  generalize w.ask (Kernel.perform c w.os) = r at *
  obtain ⟨⟨r, os⟩, w'⟩ := r
  cases r <;> first | exact Nat.le_refl _ | exact h
theorem view_le {p : Program} {w : World} {at_ : Addr} {u : TypeId} {k : Addr} {v : Value} {atomic : Bool} {r : World × List Addr} (h : w.viewStore p at_ u k v atomic = .ok r) : r.1.drawn = w.drawn := by
  unfold World.viewStore at h
  simp only [bind, Except.bind, pure, Except.pure] at h
  repeat' split at h
  all_goals first | (cases h; rfl) | cases h
theorem far_le {p : Program} {w : World} {a : Addr} {v : Value} {atomic : Bool} {r : World × List Addr} (h : w.farStore p a v atomic = .ok r) : r.1.drawn = w.drawn := by
  unfold World.farStore at h
  split at h
  · next at_ u _ =>
    cases hq : w.viewStore p at_ u a v atomic with
    | ok r' => rw [hq] at h; cases h; exact view_le hq
    | error e => rw [hq] at h; cases h
  · cases h
def Result.w {α : Type} : Result α → World
  | .ok _ w => w
  | .halt _ w => w
theorem freeze_le (w : World) (a : Addr) (n : Nat) : (w.freeze a n).drawn = w.drawn := by unfold World.freeze; split <;> rfl
theorem run_le {α : Type} (p : Program) (s : Sem α) : ∀ w : World, w.drawn ≤ (Result.w (s.run p w)).drawn := by
  induction s with
  | pure a => intro w; rw [Sem.run]; exact Nat.le_refl _
  | load m a k ih =>
    intro w; rw [Sem.run]
    split
    · exact ih _ w
    · split
      · exact ih _ w
      · exact Nat.le_refl _
  | store m a v k ih =>
    intro w
    have key : ∀ (u : Value), w.drawn ≤ (Result.w (match w.cell? a with
        | some _ => if w.frozen? a then .halt (.unsupported (.unsafePointer "a write to bytes that a string shares")) w else k.run p (w.setCell a u)
        | none => match w.farStore p a u (m == .atomic) with
          | .ok (w, _) => k.run p w
          | .error h => .halt h w)).drawn := by
      intro u
      split
      · split
        · exact Nat.le_refl _
        · exact ih (w.setCell a u)
      · split
        · next h => exact Nat.le_trans (Nat.le_of_eq (far_le h).symm) (ih _)
        · exact Nat.le_refl _
    cases v <;> first | exact key _ | exact Nat.le_refl _
  | new o k ih => intro w; rw [Sem.run]; exact ih w.heap.size { w with heap := w.heap.push o }
  | shape r k ih => intro w; rw [Sem.run]; exact ih _ _
  | freeze a n k ih => intro w; rw [Sem.run]; exact Nat.le_trans (Nat.le_of_eq (freeze_le w a n).symm) (ih _)
  | frozen a k ih => intro w; rw [Sem.run]; exact ih _ _
  | getObj r k ih =>
    intro w; rw [Sem.run]
    split
    · exact Nat.le_refl _
    · exact ih _ _
    · exact Nat.le_refl _
  | setObj r o k ih =>
    intro w; rw [Sem.run]
    split
    · exact Nat.le_refl _
    · exact ih { w with heap := w.heap.setIfInBounds r o }
    · exact Nat.le_refl _
  | choose q k ih =>
    intro w; rw [Sem.run]
    split
    · exact ih _ _
    · exact Nat.le_trans (Nat.le_succ _) (ih _ { w with drawn := w.drawn + 1 })
  | sys c k ih => intro w; rw [Sem.run]; exact Nat.le_trans (sys_le w c) (ih _ _)
  | program k ih => intro w; rw [Sem.run]; exact ih _ _
  | mark m k ih => intro w; rw [Sem.run]; exact ih _
  | halt h => intro w; rw [Sem.run]; exact Nat.le_refl _
/-- No draw is taken back. -/
def Up (n : Nat) : GStep → Prop
  | .go _ w _ | .comm _ _ _ _ w _ | .spawn _ _ w _ | .count _ w _ | .timer _ _ w _ | .alone _ _ w _ | .newcoro _ _ _ w _ | .coroswitch _ _ _ w _ | .collect _ w _ | .watch _ w _ => n ≤ w.drawn
  | .ended .. => True
theorem Up.after {n : Nat} {es : Array Event} {s : GStep} (h : Up n s) : Up n (s.after es) := by cases s <;> exact h
theorem Up.mono {n m : Nat} {s : GStep} (hn : n ≤ m) (h : Up m s) : Up n s := by cases s <;> first | exact Nat.le_trans hn h | trivial
theorem run_ok {α : Type} {p : Program} {s : Sem α} {w w' : World} {a : α} (h : s.run p w = .ok a w') : w.drawn ≤ w'.drawn := by have := run_le p s w; rw [h] at this; exact this
theorem run_halt {α : Type} {p : Program} {s : Sem α} {w w' : World} {a : Halt} (h : s.run p w = .halt a w') : w.drawn ≤ w'.drawn := by have := run_le p s w; rw [h] at this; exact this
theorem ite_up {n : Nat} {c : Prop} [Decidable c] {a b : GStep} (ha : Up n a) (hb : Up n b) : Up n (if c then a else b) := by split <;> assumption
theorem elim_up {α : Type} {n : Nat} {o : Option α} {b : GStep} {f : α → GStep} (hb : Up n b) (hf : ∀ x, Up n (f x)) : Up n (o.elim b f) := by cases o <;> first | exact hb | exact hf _
theorem endWith_up (w : World) (fd : Nat) (text : ByteArray) (o : Outcome) : Up w.drawn (endWith w fd text o) := by
  unfold endWith
  dsimp only
  split
  · split <;> trivial
  · trivial
  · trivial
theorem dieOf_up (fr : Frame) (ahead : List ByteArray) (m : String) (whole : Bool) (w : World) : Up w.drawn (dieOf fr ahead m whole w) := Nat.le_refl _
theorem endThrow_up (fr : Frame) (m : String) (w : World) : Up w.drawn (endThrow fr m w) := Nat.le_refl _
theorem endPrinting_up (p : Program) (fr : Frame) (v : Value) (w : World) : Up w.drawn (endPrinting p fr v w) := by
  unfold endPrinting
  dsimp only
  split
  · exact endThrow_up _ _ _
  · trivial
theorem endFatal_up (p : Program) (fr : Frame) (callers : List Frame) (dying : Option Dying) (m : String) (w : World) : Up w.drawn (endFatal p fr callers dying m w) := by
  unfold endFatal
  dsimp only
  split
  · next h => exact (dieOf_up _ _ _ _ _).mono (run_ok h)
  · trivial
  · trivial
theorem writeOn_up (p : Program) (fr : Frame) (d : Dying) (f : Fatal) (w : World) : Up w.drawn (writeOn p fr d f w) := by
  unfold writeOn
  dsimp only
  split
  · trivial
  · simp only [Sem.runT_eq]
    split
    · next h => rw [Prod.mk.injEq] at h; exact run_ok h.1
    · next h => rw [Prod.mk.injEq] at h; exact run_halt h.1
    · trivial
    · trivial
theorem die_up (p : Program) (fr : Frame) (d : Dying) (w : World) : Up w.drawn (die p fr d w) := by
  unfold die
  split
  · exact writeOn_up _ _ _ _ _
  · split
    · split
      · exact Nat.le_refl _
      · exact endWith_up _ _ _ _
    · dsimp only
      split
      · exact Nat.le_refl _
      · split
        · next h => exact run_ok h
        · trivial
      · simp only [Sem.runT_eq]
        apply Up.after
        split
        · next h => exact run_ok h
        · next h => exact run_ok h
        · trivial
        · next h => exact (endPrinting_up _ _ _ _).mono (run_halt h)
        · trivial
      · trivial
theorem doReturn_up (p : Program) (main : Bool) (fr : Frame) (callers : List Frame) (dying : Option Dying) (v : Value) (w : World) : Up w.drawn (doReturn p main fr callers dying v w) := by
  unfold doReturn
  repeat' first
    | exact Nat.le_refl _
    | trivial
    | split
theorem callDeferred_up (p : Program) (fr : Frame) (callers : List Frame) (dying : Option Dying) (d : Deferred) (w : World) : Up w.drawn (callDeferred p fr callers dying d w) := by
  unfold callDeferred
  simp only [Sem.runT_eq]
  refine ite_up ?_ ?_
  · trivial
  · apply Up.after
    split
    all_goals first
      | trivial
      | exact run_ok ‹_›
      | exact run_halt ‹_›
      | exact (endFatal_up _ _ _ _ _ _).mono (run_halt ‹_›)
      | exact (endThrow_up _ _ _).mono (run_halt ‹_›)
      | (split <;> exact run_ok ‹_›)
theorem unwind_up (p : Program) (main : Bool) (fr : Frame) (callers : List Frame) (dying : Option Dying) (w : World) : Up w.drawn (unwind p main fr callers dying w) := by
  unfold unwind
  split
  · simp only [Sem.runT_eq]
    apply Up.after
    split
    · next h => exact run_ok h
    · trivial
  · exact callDeferred_up _ _ _ _ _ _
  · split
    · trivial
    · split
      · trivial
      · split
        · exact Nat.le_refl _
        · split
          · split
            · exact Nat.le_refl _
            · split
              · next h => exact run_ok h
              · trivial
              · trivial
          · split
            · exact endPrinting_up _ _ _ _
            · trivial
    · split
      · exact doReturn_up _ _ _ _ _ _ _
      · simp only [Sem.runT_eq]
        apply Up.after
        split
        · next h => exact (doReturn_up _ _ _ _ _ _ _).mono (run_ok h)
        · trivial
        · trivial
theorem early_up (p : Program) (fr : Frame) (callers : List Frame) (dying : Option Dying) (g : Nat) (w : World) : Up w.drawn (early p fr callers dying g w) := by
  unfold early
  dsimp only
  repeat' first
    | exact Nat.le_refl _
    | trivial
    | exact run_ok ‹_›
    | (dsimp only [Up]; exact run_ok ‹_›)
    | split
theorem apply_up (p : Program) (fr : Frame) (callers : List Frame) (dying : Option Dying) (s : Sem Next) (w : World) (listen : Bool) : Up w.drawn (stepG.apply p listen fr callers dying s w) := by
  have key : ∀ (r : Result Next) (es : Array Event), r = s.run p w → Up w.drawn (stepG.apply p listen fr callers dying s w) := by
    intro r es hr
    unfold stepG.apply
    dsimp only
    apply Up.after
    have e : (if listen = true then s.runT p w #[] else (s.run p w, #[])).1 = s.run p w := by
      split
      · rw [Sem.runT_eq]
      · rfl
    rw [e]
    split
    all_goals first
      | trivial
      | exact run_ok ‹_›
      | exact run_halt ‹_›
      | exact (endFatal_up _ _ _ _ _ _).mono (run_halt ‹_›)
      | exact (endThrow_up _ _ _).mono (run_halt ‹_›)
      | exact (early_up _ _ _ _ _ _).mono (run_halt ‹_›)
      | (repeat' first | exact run_ok ‹_› | exact (endThrow_up _ _ _).mono (run_ok ‹_›) | split)
  exact key _ #[] rfl
theorem oper_up (p : Program) (fr : Frame) (callers : List Frame) (dying : Option Dying) (w : World) (listen : Bool) : Up w.drawn (stepG.oper p listen fr callers dying w) := by
  unfold stepG.oper
  repeat' first
    | trivial
    | exact apply_up _ _ _ _ _ _ _
    | split
theorem exec_up (p : Program) (main : Bool) (fr : Frame) (callers : List Frame) (dying : Option Dying) (w : World) (listen : Bool) : Up w.drawn (stepG.exec p main listen fr callers dying w) := by
  unfold stepG.exec
  simp only [Sem.runT_eq]
  repeat' first
    | trivial
    | exact Nat.le_refl _
    | exact apply_up _ _ _ _ _ _ _
    | exact oper_up _ _ _ _ _ _
    | exact run_ok ‹_›
    | exact run_halt ‹_›
    | exact (doReturn_up _ _ _ _ _ _ _).mono (run_ok ‹_›)
    | exact (apply_up _ _ _ _ _ _ _).mono (run_ok ‹_›)
    | refine elim_up ?_ fun _ => ?_
    | (refine Up.mono (run_ok ‹_›) (elim_up ?_ fun _ => ?_))
    | apply Up.after
    | split
theorem stepG_up (p : Program) (main : Bool) (g : Goroutine) (w : World) (listen : Bool) : Up w.drawn (stepG p main g w listen) := by
  obtain ⟨frame, callers, status, dying, offers⟩ := g
  unfold stepG
  dsimp only
  split
  · exact die_up _ _ _ _
  · exact exec_up _ _ _ _ _ _ _
  · exact unwind_up _ _ _ _ _ _
theorem waiting_le {rest : Rest} {cases : Array CommCase} {w w' : World} (h : waitingAt rest cases w = some w') : w'.drawn = w.drawn := by
  unfold waitingAt at h
  repeat' first
    | (cases h; rfl)
    | (cases h; done)
    | split at h
theorem comm_le (p : Program) (rest : Rest) (gs : Array Goroutine) (i : Nat) (g : Goroutine) (cases : Array CommCase) (blocking : Bool)
    (shape : CommShape) (w : World) (m' : Machine) (h : (communicate p rest gs i g cases blocking shape w).1 = .next m') : w.drawn ≤ m'.world.drawn := by
  unfold communicate at h
  simp only [] at h
  repeat' first
    | (simp at h; done)
    | (simp only [Stepped.next.injEq] at h; subst h; first
        | exact Nat.le_refl _
        | exact Nat.le_of_eq (waiting_le (by assumption)).symm
        | (dsimp only; exact run_ok (by assumption))
        | (dsimp only; exact run_halt (by assumption))
        | (dsimp only; refine Nat.le_trans ?_ (run_halt (by assumption)); exact run_ok (by assumption))
        | (dsimp only; refine Nat.le_trans ?_ (run_ok (by assumption)); exact run_ok (by assumption)))
    | split at h
theorem look_le (p : Program) (gs : Array Goroutine) (rest : Rest) (w : World) (m' : Machine)
    (h : look p gs rest w = .next m') : w.drawn ≤ m'.world.drawn := by
  unfold look at h
  simp only [] at h
  repeat' first
    | (simp at h; done)
    | (simp only [Stepped.next.injEq] at h; subst h; dsimp only; exact run_ok (by assumption))
    | split at h
theorem serve_le (p : Program) (m m' : Machine) (k : Nat) (h : serve p m k = .next m') : m'.world.drawn = m.world.drawn := by
  unfold serve at h
  simp only [] at h
  repeat' first
    | (simp at h; done)
    | (simp only [Stepped.next.injEq] at h; subst h; rfl)
    | split at h
theorem drain_le (w : World) (c : Nat) : (drain w c).2.drawn = w.drawn := by unfold drain; split <;> rfl
theorem retime_le (m : Machine) (k : Nat) (t : Timer) (a b : Nat) : (retime m k t a b).2.world.drawn = m.world.drawn := by
  unfold retime
  cases t.chan with
  | none => rfl
  | some c => exact drain_le m.world c
theorem named_le {m : Machine} {var : Addr} {f : Nat → Timer → Value × Machine} {r : Value × Machine} {n : Nat} (hf : ∀ k t, (f k t).2.world.drawn = n) (h : timerOp.named m var f = .ok r) : r.2.world.drawn = n := by
  unfold timerOp.named at h
  split at h
  · cases h; exact hf _ _
  · cases h
theorem opened_le {m m' : Machine} {var : Addr} (h : timerOp.opened m var = some m') : m'.world.drawn = m.world.drawn := by
  unfold timerOp.opened at h
  repeat' first
    | (cases h; rfl)
    | (cases h; done)
    | split at h
theorem timer_le (m : Machine) (op : TimerOp) (v : Value) (m' : Machine) (h : timerOp m op = .ok (v, m')) : m'.world.drawn = m.world.drawn := by
  unfold timerOp at h
  simp only [] at h
  split at h
  · repeat' first
      | (cases h; rfl)
      | (cases h; done)
      | split at h
  · exact named_le (r := (v, m')) (fun _ _ => retime_le _ _ _ _ _) h
  · split at h
    · next hm => exact (named_le (r := (v, m')) (fun _ _ => retime_le _ _ _ _ _) h).trans (opened_le hm)
    · cases h
  · cases h; rfl
theorem throw_eq {fr : Frame} {msg : String} {w w' : World} {g : Goroutine} {es : Array Event} (h : endThrow fr msg w = .go g w' es) : w'.drawn = w.drawn := by
  unfold endThrow dieOf at h
  cases h
  rfl
theorem runT_le (p : Program) (m m' : Machine) (i : Nat) (b : Bool) (h : (Go.runT p m i b).1 = .next m') : m.world.drawn ≤ m'.world.drawn := by
  simp only [Go.runT] at h
  generalize m.gs.swapAt! _ _ = gg at h
  have hu := stepG_up p (i == 0) gg.1 m.world b
  generalize stepG p (i == 0) gg.1 m.world b = s at h hu
  cases s <;> simp only [] at h <;> simp only [Up] at hu
  all_goals first
    | (simp at h; done)
    | exact Nat.le_trans hu (comm_le _ _ _ _ _ _ _ _ _ _ h)
    | exact Nat.le_trans hu (look_le _ _ _ _ _ h)
    | (simp only [Stepped.next.injEq] at h; subst h; exact hu)
    | (repeat' first
        | (simp at h; done)
        | (simp only [Stepped.next.injEq] at h; subst h; exact hu)
        | (simp only [Stepped.next.injEq] at h; subst h; exact Nat.le_trans hu (Nat.le_of_eq (timer_le _ _ _ _ (by assumption)).symm))
        | (simp only [Stepped.next.injEq] at h; subst h; exact Nat.le_trans hu (Nat.le_of_eq (throw_eq (by assumption)).symm))
        | split at h)
theorem run_adv {α : Type} {p : Program} {s : Sem α} {m : Machine} {t : Nat} {w' : World} {a : α} (h : s.run p (m.advanceTo t).world = .ok a w') : m.world.drawn ≤ w'.drawn := run_ok (w := (m.advanceTo t).world) h
theorem askOn_go (p : Program) (m m' : Machine) (i : Nat) (h : askOn p m = .goroutine m' i) : m.world.drawn ≤ m'.world.drawn := by
  unfold askOn at h
  simp only [] at h
  repeat' first
    | (simp at h; done)
    | (simp only [Move.goroutine.injEq] at h; obtain ⟨rfl, _⟩ := h; repeat' first
        | exact run_ok (by assumption)
        | exact run_adv (by assumption)
        | refine Nat.le_trans ?_ (run_adv (by assumption))
        | refine Nat.le_trans ?_ (run_ok (by assumption)))
    | split at h
theorem askOn_on (p : Program) (m m' : Machine) (ops : Array MemOp) (h : askOn p m = .machine (.next m') ops) : m.world.drawn ≤ m'.world.drawn := by
  unfold askOn at h
  simp only [] at h
  repeat' first
    | (simp at h; done)
    | (simp only [Move.machine.injEq] at h; have hs := serve_le _ _ _ _ h.1; rw [hs]; exact run_ok (by assumption))
    | (simp only [Move.machine.injEq, Stepped.next.injEq] at h; obtain ⟨rfl, _⟩ := h; first
        | (dsimp only [Machine.advanceTo]; exact run_ok (by assumption))
        | (dsimp only [Machine.advanceTo]; refine Nat.le_trans ?_ (run_ok (by assumption)); exact run_ok (by assumption)))
    | split at h
theorem ask_go (p : Program) (m m' : Machine) (i : Nat) (h : ask p m = .goroutine m' i) : m.world.drawn ≤ m'.world.drawn := by
  unfold ask at h
  repeat' first
    | (simp at h; done)
    | exact askOn_go p m m' i h
    | exact Nat.le_trans (Nat.le_trans (run_ok (by assumption)) (look_le _ _ _ _ _ (by assumption))) (askOn_go p _ m' i h)
    | exact Nat.le_trans (run_ok (by assumption)) (askOn_go p _ m' i h)
    | split at h
theorem ask_on (p : Program) (m m' : Machine) (ops : Array MemOp) (h : ask p m = .machine (.next m') ops) : m.world.drawn ≤ m'.world.drawn := by
  unfold ask at h
  repeat' first
    | (simp at h; done)
    | exact askOn_on p m m' ops h
    | (simp only [Move.machine.injEq] at h; exact Nat.le_trans (run_ok (by assumption)) (look_le _ _ _ _ _ h.1))
    | exact Nat.le_trans (Nat.le_trans (run_ok (by assumption)) (look_le _ _ _ _ _ (by assumption))) (askOn_on p _ m' ops h)
    | exact Nat.le_trans (run_ok (by assumption)) (askOn_on p _ m' ops h)
    | split at h
theorem move_go (p : Program) (m m' : Machine) (i : Nat) (h : move p m = .goroutine m' i) : m.world.drawn ≤ m'.world.drawn := by
  unfold move at h
  repeat' first
    | (simp at h; done)
    | (have := ask_go p _ m' i h; exact this)
    | (simp only [Move.goroutine.injEq] at h; obtain ⟨rfl, _⟩ := h; exact Nat.le_refl _)
    | split at h
theorem move_on (p : Program) (m m' : Machine) (ops : Array MemOp) (h : move p m = .machine (.next m') ops) : m.world.drawn ≤ m'.world.drawn := by
  unfold move at h
  repeat' first
    | (simp at h; done)
    | (have := ask_on p _ m' ops h; exact this)
    | split at h
theorem step_le (p : Program) (m m' : Machine) (h : step p m = .next m') : m.world.drawn ≤ m'.world.drawn := by
  unfold step at h
  simp only [stepT] at h
  split at h
  next m₁ i hm => exact Nat.le_trans (move_go p m m₁ i hm) (runT_le p m₁ m' i _ h)
  next s ops hm =>
    simp only [] at h
    subst h
    exact move_on p m m' ops hm
theorem runN_le (p : Program) : ∀ (n : Nat) (m m' : Machine), runN p n m = .next m' → m.world.drawn ≤ m'.world.drawn
  | 0, m, m', h => by
    rw [runN] at h
    cases h
    exact Nat.le_refl _
  | n + 1, m, m', h => by
    rw [runN] at h
    cases hs : step p m with
    | next m1 =>
      rw [hs] at h
      exact Nat.le_trans (step_le p m m1 hs) (runN_le p n m1 m' h)
    | ended o w => rw [hs] at h; cases h
theorem steps_le {p : Program} {m m' : Machine} (h : Steps p m m') : m.world.drawn ≤ m'.world.drawn := by
  obtain ⟨n, hn⟩ := h
  exact runN_le p n m m' hn
/-- What a call has drawn stays drawn. -/
theorem calls_le {P : Program} {f : FuncId} {args : Array Value} {w : World} {R : Ending → World → Prop} (h : Calls P f args w R) (hR : ∀ e w', R e w' → ∃ v, e = .returned v) :
    Calls P f args w fun e w' => R e w' ∧ w.drawn ≤ w'.drawn := by
  intro cs
  obtain ⟨e, w', fr, h1, h2, h3, h4⟩ := h cs
  obtain ⟨v, rfl⟩ := hR e w' h1
  exact ⟨_, w', fr, ⟨h1, steps_le h2⟩, h2, h3, h4⟩
end Go.Proofs.YthdlepalglgmoaaGreatDoor.Dr
