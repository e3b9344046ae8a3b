/- The reference's Text, Signs. The program's package utf, walked: at, next, Signs, Text. The program's package lex, walked: number. The program's package lex, walked: escape. The reference's Label, Tag. -/
import Derived.Test.YtpnlabjgmdhicaaGreatDoorJUtfNext
import Derived.Test.YtpnlabjgmdhicaaGreatDoorJUtfProg5
import Derived.Test.YtpnlabjgmdhicaaGreatDoorJWr3
import Derived.Test.YtpnlabjgmdhicaaGreatDoorJUtfRef
namespace Go.Proofs.YtpnlabjgmdhicaaGreatDoor
open Go Go.RowKit Um

theorem intInfo : (Tryz.prog.info? 3).map (fun i => (i.zero, i.size, i.bytes)) = some (some (.int .i64 0), 1, 8) := by kernel_rfl

set_option maxHeartbeats 1000000 in
theorem refSigns (s : ByteArray) (w : World) (hs : s.size ≤ 2000000) :
    Calls Tryz.prog 125 #[.string s] w fun e w' => ∃ v n, e = .returned (.tuple #[v, .int .i64 (sigR s.data.toList).2.1, .int .i64 (sigR s.data.toList).2.2]) ∧
      w'.ownsRow w.heap.size 3 1 v n ((sigR s.data.toList).1.map (Value.int .i64)) ∧ Below w.heap.size w w' := by
  go_enter Tryz.func125, Tryz.ntmps125
  go_wp2
  go_loopw [5, 6] (fun v i wr => ∃ k n : Nat, ∃ acc : List Int, k ≤ s.size ∧ n ≤ k ∧ i = .int .i64 k ∧ wr.ownsRow w.heap.size 3 1 v n (acc.map (Value.int .i64)) ∧ Below w.heap.size w wr ∧ Hid (sgRest s.data.toList k acc)) (fun _ i _ => s.size - (intOf i).toNat)
  case atStart => exact ⟨0, 0, [], by omega, by omega, rfl, by simpa using World.ownsRow_nil _ _ _ _, Below.refl _ _, sgRest_start _⟩
  case round =>
    obtain ⟨k, n, acc, hk, hnk, rfl, hown, hB, H⟩ := hrel
    have hsz : s.data.toList.length = s.size := size_toList s
    by_cases hlt : k < s.size
    · have hnx := fun W => refNext s k W hlt (by omega)
      by_cases h0 : (nx (from_ s k)).2 = 0
      · have hres := Lib.hid (sgRest_bad H.out (by rw [hsz]; exact hlt) h0)
        rw [h0] at hnx
        clear hsz
        generalize (nx (from_ s k)).1 = x at hnx
        go_wp2_with (go_at_call 126; refine (hnx _).mono ?_; rintro e w1 ⟨rfl, hb1⟩)
        go_ret3
        refine ⟨_, 0, by rw [hres.out]; rfl, ?_, hB.trans (hb1.mono hB.size)⟩
        rw [hres.out]
        simpa using World.ownsRow_nil _ _ _ _
      · have hres := Lib.hid (sgRest_go H.out (by rw [hsz]; exact hlt) h0)
        obtain ⟨h1, h2, h3⟩ := nx_step s k h0
        clear hsz
        generalize (nx (from_ s k)).1 = x at hnx h3 hres
        generalize (nx (from_ s k)).2 = d at hnx h0 h1 h2 hres
        have hd : (d : Int) ≠ 0 := by omega
        have hd1 : ((d : Int) == 0) = false := by simpa using hd
        go_wp2_with (first
          | (go_at_call 126; refine (hnx _).mono ?_; rintro e w1 ⟨rfl, hb1⟩; have hown1 := own_below hown hb1 (Nat.le_refl _); have hB1 := hB.trans (hb1.mono hB.size))
          | (at_builtin; refine wpList_app rfl rfl Tryz.underlying77 intInfo rfl (by omega) rfl (hown1.alloc _) rfl (Rd.of_block (heap_alloc_new w1 _) rfl) rfl (ints_oneCell _ [(x : Int)]) (by omega) (by omega) (by have := hB1.size; simp; omega) ?_; intro v2 w2 hown2 hb2))
        go_roundw
        case rel =>
          refine ⟨k+d, n+1, acc ++ [(x : Int)], by omega, by omega, by go_num, by simpa using hown2, (hB1.alloc hB1.size _).trans hb2, hres.out⟩
        case measure => simp [intOf]; omega
    · have hkl : k = s.size := by omega
      have hres := Lib.hid (sgRest_end H.out (by rw [hsz]; omega))
      clear hkl hsz
      go_wp2
      go_ret3
      refine ⟨_, n, by rw [hres.out]; rfl, ?_, hB⟩
      rw [hres.out]
      exact hown

theorem refAlpha (c : Int) (w : World) (h0 : 0 ≤ c) (h1 : c < 256) :
    Calls Tryz.prog 130 #[.int .u8 c] w fun e w' => e = .returned (.bool (alphaB c)) ∧ w = w' := by
  go_enter Tryz.func130, Tryz.ntmps130
  go_wp2
  all_goals
    go_ret
    refine ⟨?_, rfl⟩
    simp [alphaB, inB, *]
  all_goals omega

theorem refDigit (c : Int) (w : World) (h0 : 0 ≤ c) (h1 : c < 256) :
    Calls Tryz.prog 131 #[.int .u8 c] w fun e w' => e = .returned (.bool (digitB c)) ∧ w = w' := by
  go_enter Tryz.func131, Tryz.ntmps131
  go_wp2
  all_goals
    go_ret
    refine ⟨?_, rfl⟩
    simp [digitB, *]
  all_goals omega
end Go.Proofs.YtpnlabjgmdhicaaGreatDoor
namespace Go.Proofs.YtpnlabjgmdhicaaGreatDoor
open Go Go.RowKit Um
set_option maxHeartbeats 2000000 in
theorem utfSigns (s : ByteArray) (w : World) (hC : Ctx w) (hs : s.size ≤ 1000000) :
    Calls Tryz.prog 101 #[.string s] w fun e w' => ∃ v n, e = .returned (.tuple #[v, .int .i64 (sigR s.data.toList).2.1, .int .i64 (sigR s.data.toList).2.2]) ∧
      w'.ownsRow w.heap.size 3 1 v n ((sigR s.data.toList).1.map (Value.int .i64)) ∧ Below w.heap.size w w' := by
  go_enter Tryz.func101, Tryz.ntmps101
  go_wp2
  go_loopw [2] (fun v wr => ∃ k n : Nat, ∃ acc : List Int, k ≤ s.size ∧ n ≤ k ∧ CurAt wr w.heap.size s k ∧ wr.ownsRow (w.heap.size + 1) 3 1 v n (acc.map (Value.int .i64)) ∧ Below w.heap.size w wr ∧ w.heap.size + 1 ≤ wr.heap.size ∧ Hid (sgRest s.data.toList k acc)) (fun _ wr => s.size - (intOf ((wr.cell? ⟨w.heap.size, 1, none⟩).getD undef)).toNat)
  case atStart => exact ⟨0, 0, [], by omega, by omega, heap_alloc_new w _, by simpa using World.ownsRow_nil _ _ _ _, (Below.refl _ _).alloc (Nat.le_refl _) _, by simp, sgRest_start _⟩
  case round =>
    obtain ⟨k, n, acc, hk, hnk, hcu, hown, hB, hsz1, H⟩ := hrel
    have hsz : s.data.toList.length = s.size := size_toList s
    have f0 := hcu.c0
    have f1 := hcu.c1
    by_cases hlt : k < s.size
    · have hnx := fun W h1 h2 => curNext s k w.heap.size W h1 h2 hk (Nat.le_trans hs (by decide))
      have hCr := hC.step hB
      by_cases h0 : (nx (from_ s k)).2 = 0
      · have hres := Lib.hid (sgRest_bad H.out (by rw [hsz]; exact hlt) h0)
        rw [h0] at hnx
        clear hsz
        generalize (nx (from_ s k)).1 = x at hnx
        go_wp2_with (go_at_call 138; refine (hnx _ ?_ ?_).mono ?_; exact hCr; exact hcu; rintro e w1 ⟨rfl, hg1, hc1⟩)
        have f2 := hc1.c1
        have f3 := hc1.c0
        have hB1 := below_grown hB hg1 (by omega) (Nat.le_refl _)
        go_quiet (fail)
        go_wp2
        go_ret3
        refine ⟨_, 0, by rw [hres.out]; rfl, ?_, hB1.trans ⟨rfl, rfl, rfl, Nat.le_refl _, fun _ _ => rfl⟩⟩
        rw [hres.out]
        simpa using World.ownsRow_nil _ _ _ _
      · have hres := Lib.hid (sgRest_go H.out (by rw [hsz]; exact hlt) h0)
        obtain ⟨h1, h2, h3⟩ := nx_step s k h0
        clear hsz
        have hpos : decide (0 < (nx (from_ s k)).2) = true := by simp; omega
        rw [hpos] at hnx
        clear hpos
        generalize (nx (from_ s k)).1 = x at hnx h3 hres
        generalize (nx (from_ s k)).2 = d at hnx h0 h1 h2 hres
        go_wp2_with (first
          | (go_at_call 138; refine (hnx _ ?_ ?_).mono ?_; exact hCr; exact hcu; rintro e w1 ⟨rfl, hg1, hc1⟩; have hown1 := own_grown hown hg1 (by omega); have hB1 := below_grown hB hg1 (by omega) (Nat.le_refl _); have hz1 : wr.heap.size ≤ w1.heap.size := hg1.size)
          | (at_builtin; refine wpList_app rfl rfl Tryz.underlying77 intInfo rfl (by omega) rfl (hown1.alloc _) rfl (Rd.of_block (heap_alloc_new w1 _) rfl) rfl (ints_oneCell _ [(x : Int)]) (by omega) (by omega) (by simp; omega) ?_; intro v2 w2 hown2 hb2))
        have hcu2 := (show CurAt (w1.alloc (.cells #[.int .i64 x] 3)) w.heap.size s (k + d) from (Below.heap_alloc w1 _ _ (by omega)).trans hc1).keep hb2 (by omega)
        go_roundw
        case rel =>
          refine ⟨k+d, n+1, acc ++ [(x : Int)], by omega, by omega, hcu2, by simpa using hown2, (hB1.alloc hB1.size _).trans (hb2.mono (by omega)), by have := hb2.size; simp at this; omega, hres.out⟩
        case measure =>
          have e1 := hcu2.c1
          have e2 := hcu.c1
          simp only [e1, e2]
          simp [intOf]; omega
    · have hkl : k = s.size := by omega
      have hres := Lib.hid (sgRest_end H.out (by rw [hsz]; omega))
      clear hkl hsz
      go_wp2
      go_ret3
      refine ⟨_, n, by rw [hres.out]; rfl, ?_, hB⟩
      rw [hres.out]
      exact ⟨hown.1, hown.2.imp id fun ⟨g, cap, cur, h1, h2, h3⟩ => ⟨g, cap, cur, h1, by omega, h3⟩⟩
end Go.Proofs.YtpnlabjgmdhicaaGreatDoor
namespace Go.Proofs.YtpnlabjgmdhicaaGreatDoor
open Go Go.RowKit Um Lx

/-- What a number's sign makes of a reader. -/
def NumR (w0 : World) (b : Nat) (s : ByteArray) (k many : Nat) (xs : List Int) : Option Nat → Ending → World → Prop
  | some n, e, w' => e = .returned (.bool true) ∧ RI w0 b s (k + many) (xs ++ Lib.encodeRuneZ n) w'
  | none, e, w' => e = .returned (.bool false) ∧ RI w0 b s k xs w'
theorem RI.moveI {w0 w : World} {b : Nat} {s : ByteArray} {k : Nat} {xs : List Int} (h : RI w0 b s k xs w) {k' : Nat} {z : Int} (hz : z = k') : RI w0 b s k' xs (w.setCell ⟨b, 1, none⟩ (.int .i64 z)) := hz ▸ h.move k'
theorem put_cell (w : World) (b : Nat) (z v : Value) (T : TypeId) : ((w.setCell ⟨b, 1, none⟩ z).alloc (.cells #[v] T)).cell? ⟨w.heap.size, 0, none⟩ = some v := by
  have h : (w.setCell ⟨b, 1, none⟩ z).heap.size = w.heap.size := by simp [World.setCell]
  rw [← h, World.cell?]
  simp only
  rw [heap_alloc_new]
  rfl
theorem rest_toList (s : ByteArray) (k : Nat) : (s.extract k s.size).data.toList = from_ s k := by
  rw [extract_toList, from_, List.take_of_length_le]
  simp
theorem from_len (s : ByteArray) (k : Nat) : (from_ s k).length = s.size - k := from_length s k
set_option maxRecDepth 10000 in
set_option maxHeartbeats 2000000 in
theorem lexNumber (many : Nat) (hm0 : 0 < many) (hm : many ≤ 8) (s : ByteArray) (k b : Nat) (xs : List Int) (hx : xs.length ≤ 4000000) (w0 w : World) (h : RI w0 b s k xs w) (hk : k ≤ s.size) (hs : s.size ≤ 1000000) :
    Calls Tryz.prog 202 #[.pointer (some ⟨b, 0, none⟩), .int .i64 many] w (NumR w0 b s k many xs (numL many (from_ s k))) := by
  have hr := fun W (hW : RI w0 b s k xs W) => lexRest s k b W hW.c0 hW.c1 hk
  have hsz : (s.extract k s.size).size = s.size - k := by simp [ByteArray.size_extract]
  have H := Lib.hid h
  have hr0 := hr w h
  clear h
  by_cases hlen : s.size - k < many
  · have Hn : Hid (numL many (from_ s k) = none) := by
      show _ = _
      unfold numL; rw [if_pos (by rw [from_len]; exact hlen)]
    clear hm0 hm
    go_enter Tryz.func202, Tryz.ntmps202
    go_wp2_with (go_at_call 140; refine hr0.mono ?_; rintro e w1 ⟨rfl, hb⟩; have hd : decide (((s.extract k s.size).size : Int) < many) = true := by rw [hsz]; simp; omega)
    go_ret
    rw [Hn.out]
    exact ⟨rfl, H.out.step hb⟩
  · obtain ⟨r, hrr⟩ : ∃ r, s.extract k s.size = r := ⟨_, rfl⟩
    have hrl : r.data.toList = from_ s k := by rw [← hrr]; exact rest_toList s k
    have hrz : r.size = s.size - k := by rw [← hrr]; exact hsz
    simp only [hrr] at hr hr0
    clear hrr hsz
    have htz : (r.extract 0 many).size = many := by rw [ByteArray.size_extract]; omega
    have htl : (r.extract 0 many).data.toList = (from_ s k).take many := by rw [extract_toList, List.drop_zero, hrl, Nat.sub_zero]
    have hd : decide (r.size < many) = false := by simp; omega
    have hle : many ≤ r.size := by omega
    have Hn : Hid (numL many (from_ s k) = (hexN ((from_ s k).take many) 0).bind fun n => if isB n then some n else none) := by
      show _ = _
      unfold numL; rw [if_neg (by rw [from_len]; exact hlen)]
    rw [← htl] at Hn
    have Htl := Lib.hid htl
    clear htl hrl hlen hrz
    cases hx16 : hexN (r.extract 0 many).data.toList 0 with
    | none =>
      have hp := fun W (hW : RI w0 b s k xs W) => parse16_none (r.extract 0 many) (by omega) (by omega) W hW.err hx16
      rw [hx16] at Hn
      clear hx16 htz hm0 hm
      go_enter Tryz.func202, Tryz.ntmps202
      go_wp2_with fail
      refine hr0.mono ?_
      rintro e w1 ⟨rfl, hb1⟩
      have H1 := Lib.hid (H.out.step hb1)
      go_wp2_with fail
      refine (hr w1 H1.out).mono ?_
      rintro e w2 ⟨rfl, hb2⟩
      have H2 := Lib.hid (H1.out.step hb2)
      go_wp2_with fail
      refine (hp w2 H2.out).mono ?_
      rintro e w3 ⟨⟨ty, p, rfl⟩, hb3⟩
      have H3 := Lib.hid (H2.out.step hb3)
      go_wp2
      go_ret
      rw [Hn.out]
      exact ⟨rfl, H3.out⟩
    | some n =>
      have hp := fun W => parse16_some (r.extract 0 many) n (by omega) (by omega) W hx16
      have hnb := hexN_bound _ _ _ hx16
      rw [size_toList, htz] at hnb
      have h8 : 16 ^ many ≤ 4294967296 := Nat.pow_le_pow_right (by decide : 0 < 16) (by omega : many ≤ 8)
      have hn8 : n < 4294967296 := by omega
      rw [hx16] at Hn
      clear hx16 htz hm0 hnb h8
      have his := fun W => utfIs (n : Int) W
      cases hq : isB (n : Int)
      · rw [hq] at his
        have HQ := Lib.hid hq
        clear hq
        go_enter Tryz.func202, Tryz.ntmps202
        go_wp2_with fail
        refine hr0.mono ?_
        rintro e w1 ⟨rfl, hb1⟩
        have H1 := Lib.hid (H.out.step hb1)
        go_wp2_with fail
        refine (hr w1 H1.out).mono ?_
        rintro e w2 ⟨rfl, hb2⟩
        have H2 := Lib.hid (H1.out.step hb2)
        go_wp2_with fail
        refine (hp w2).mono ?_
        rintro e w3 ⟨rfl, hb3⟩
        have H3 := Lib.hid (H2.out.step hb3)
        go_wp2_with (go_at_call 159; refine (his _).mono ?_; rintro e w4 ⟨rfl, rfl⟩)
        go_ret
        rw [Hn.out, Option.bind_some, HQ.out]
        exact ⟨rfl, H3.out⟩
      · rw [hq] at his
        obtain ⟨hn0, hn1⟩ := (isB_iff n).1 hq
        have hn2 : n ≤ 1114111 := by omega
        have HQ := Lib.hid hq
        clear hq hn0 hn1
        have hle2 : many ≤ 1000000 := by omega
        have hk2 : k ≤ 1000000 := by omega
        have hput := fun W g (hW : RI w0 b s (k + many) xs W) hg => lexPut (n : Int) (by omega) (by omega) s (k + many) b xs hx g w0 W hW hg
        go_enter Tryz.func202, Tryz.ntmps202
        go_wp2_with fail
        refine hr0.mono ?_
        rintro e w1 ⟨rfl, hb1⟩
        have H1 := Lib.hid (H.out.step hb1)
        go_wp2_with fail
        refine (hr w1 H1.out).mono ?_
        rintro e w2 ⟨rfl, hb2⟩
        have H2 := Lib.hid (H1.out.step hb2)
        go_wp2_with fail
        refine (hp w2).mono ?_
        rintro e w3 ⟨rfl, hb3⟩
        have H3 := Lib.hid (H2.out.step hb3)
        have c1 := H3.out.c1
        have f1 := H3.out.fz 1
        go_wp2_with (go_at_call 159; refine (his _).mono ?_; rintro e w4 ⟨rfl, rfl⟩)
        have H4 := (H3.out.moveI (k' := k + many) (z := (k : Int) + many) (by omega)).step ((Below.refl _ _).alloc (Nat.le_refl _) (.cells #[.int .i32 n] 21))
        refine (hput _ _ H4 (put_cell _ _ _ _ _)).mono ?_
        rintro e w5 ⟨rfl, H5⟩
        have H5 := Lib.hid H5
        go_wp2
        go_ret
        rw [Hn.out, Option.bind_some, HQ.out]
        exact ⟨rfl, H5.out⟩
end Go.Proofs.YtpnlabjgmdhicaaGreatDoor
namespace Go.Proofs.YtpnlabjgmdhicaaGreatDoor
open Go Go.RowKit Um Lx

theorem pre1 {a : UInt8} (ha : a.toNat ≠ 0) (l : List UInt8) : Lib.hasPrefix l [a] = decide (c0 l = a.toNat) := by
  cases l with
  | nil => simp [Lib.hasPrefix, c0]; omega
  | cons x t =>
    simp only [Lib.hasPrefix, List.isPrefixOf, Bool.and_true, c0, List.getD_cons_zero]
    rw [Bool.eq_iff_iff, beq_iff_eq, decide_eq_true_iff]
    exact ⟨fun h => by rw [h], fun h => (UInt8.toNat_inj.1 h).symm⟩
theorem pre2 {a b : UInt8} (ha : a.toNat ≠ 0) (hb : b.toNat ≠ 0) (l : List UInt8) : Lib.hasPrefix l [a, b] = (decide (c0 l = a.toNat) && decide (c1 l = b.toNat)) := by
  cases l with
  | nil => simp [Lib.hasPrefix, c0, c1]; omega
  | cons x t =>
    have h1 := pre1 ha (x :: t)
    have h2 : c1 (x :: t) = c0 t := by simp [c1, c0]
    rw [h2, ← h1, ← pre1 hb t]
    simp [Lib.hasPrefix, List.isPrefixOf]
def fromB : ByteArray := ⟨#[116, 98, 110, 114, 102, 34, 39, 92]⟩
def toB : ByteArray := ⟨#[9, 8, 10, 13, 12, 34, 39, 92]⟩
theorem esc_at (c : Nat) (hc : c < 256) : (escOf c = none ∧ Lib.indexByte fromB.data.toList ((c : Int).toNat.toUInt8) = -1) ∨ (∃ (n j : Nat), escOf c = some n ∧ j < 8 ∧ Lib.indexByte fromB.data.toList ((c : Int).toNat.toUInt8) = (j : Int) ∧ bn toB j = n ∧ n < 128) := by
  have key : ∀ c : Fin 256, (match escOf c.val with
    | none => decide (Lib.indexByte fromB.data.toList ((c.val : Int).toNat.toUInt8) = -1)
    | some n => decide (0 ≤ Lib.indexByte fromB.data.toList ((c.val : Int).toNat.toUInt8) ∧ (Lib.indexByte fromB.data.toList ((c.val : Int).toNat.toUInt8)).toNat < 8 ∧ bn toB (Lib.indexByte fromB.data.toList ((c.val : Int).toNat.toUInt8)).toNat = n ∧ n < 128)) = true := by decide +kernel
  have h := key ⟨c, hc⟩
  simp only at h
  cases hx : escOf c with
  | none => rw [hx] at h; exact .inl ⟨rfl, of_decide_eq_true h⟩
  | some n =>
    rw [hx] at h
    obtain ⟨h1, h2, h3, h4⟩ := of_decide_eq_true h
    exact .inr ⟨n, _, rfl, h2, by omega, h3, h4⟩
/-- What an escape makes of a reader. -/
def Failed (w0 : World) (b : Nat) (s : ByteArray) (w' : World) : Prop := ∃ k' xs', RI w0 b s k' xs' w'
def EscR (w0 : World) (b : Nat) (s : ByteArray) (k : Nat) (xs : List Int) (p : Nat × Nat) (e : Ending) (w' : World) : Prop :=
  (p.2 = 0 ∧ e = .returned (.bool false) ∧ Failed w0 b s w') ∨ (p.2 ≠ 0 ∧ e = .returned (.bool true) ∧ RI w0 b s (k + p.2) (xs ++ Lib.encodeRuneZ p.1) w')
theorem EscR.num {w0 : World} {b : Nat} {s : ByteArray} {k many : Nat} {xs : List Int} {o : Option Nat} {e : Ending} {w' : World} (h : NumR w0 b s (k + 2) many xs o e w') : EscR w0 b s k xs (optP (2 + many) o) e w' := by
  cases o with
  | none => exact .inl ⟨rfl, h.1, _, _, h.2⟩
  | some n => exact .inr ⟨by show 2 + many ≠ 0; omega, h.1, by have := h.2; rwa [Nat.add_assoc] at this⟩
theorem NumR.ret {w0 : World} {b : Nat} {s : ByteArray} {k many : Nat} {xs : List Int} {o : Option Nat} {e : Ending} {w' : World} (h : NumR w0 b s k many xs o e w') : ∃ q : Bool, e = .returned (.bool q) := by
  cases o with
  | none => exact ⟨_, h.1⟩
  | some n => exact ⟨_, h.1⟩
theorem from_drop (s : ByteArray) (k d : Nat) : from_ s (k + d) = (from_ s k).drop d := by unfold from_; rw [List.drop_drop]
set_option maxRecDepth 10000 in
set_option maxHeartbeats 2000000 in
theorem lexEscape (lit : Bool) (s : ByteArray) (k b : Nat) (xs : List Int) (hx : xs.length ≤ 4000000) (w0 w : World) (h : RI w0 b s k xs w) (hk : k < s.size) (hs : s.size ≤ 1000000) (h92 : c0 (from_ s k) = 92) :
    Calls Tryz.prog 177 #[.pointer (some ⟨b, 0, none⟩), .bool lit] w (EscR w0 b s k xs (escL lit (from_ s k))) := by
  have he1 := lexEat ⟨#[92, 117]⟩ s k b xs w0 w h (by omega) hs (by decide)
  have hp1 : preB ⟨#[92, 117]⟩ s k = decide (c1 (from_ s k) = 117) := by
    unfold preB
    rw [pre2 (a := 92) (b := 117) (by decide) (by decide), h92]; rfl
  have hp2 : preB ⟨#[92, 85]⟩ s k = decide (c1 (from_ s k) = 85) := by
    unfold preB
    rw [pre2 (a := 92) (b := 85) (by decide) (by decide), h92]; rfl
  by_cases h117 : c1 (from_ s k) = 117
  · have hl : 1 < (from_ s k).length := c1_len (by omega)
    rw [from_len] at hl
    have hn := fun W (hW : RI w0 b s (k + 2) xs W) => lexNumber 4 (by decide) (by decide) s (k + 2) b xs hx w0 W hW (by omega) hs
    rw [from_drop] at hn
    have Hes : Hid (escL lit (from_ s k) = optP 6 (numL 4 ((from_ s k).drop 2))) := by show _ = _; unfold escL; rw [if_pos h117]
    unfold EatR eatK at he1
    rw [hp1, decide_eq_true h117] at he1
    clear hp1 hp2 h117 h92 hl h
    go_enter Tryz.func177, Tryz.ntmps177
    go_wp2_with fail
    refine he1.mono ?_
    rintro e w1 ⟨rfl, H1⟩
    have H1 := Lib.hid H1
    go_wp2_with fail
    refine (hn w1 H1.out).mono ?_
    intro e w2 h2
    obtain ⟨q, rfl⟩ := h2.ret
    have H2 := Lib.hid h2
    clear h2
    go_wp2
    go_ret
    rw [Hes.out]
    exact EscR.num H2.out
  by_cases h85 : c1 (from_ s k) = 85
  · have hl : 1 < (from_ s k).length := c1_len (by omega)
    rw [from_len] at hl
    have hn := fun W (hW : RI w0 b s (k + 2) xs W) => lexNumber 8 (by decide) (by decide) s (k + 2) b xs hx w0 W hW (by omega) hs
    rw [from_drop] at hn
    have Hes : Hid (escL lit (from_ s k) = optP 10 (numL 8 ((from_ s k).drop 2))) := by show _ = _; unfold escL; rw [if_neg h117, if_pos h85]
    have he2 := fun W (hW : RI w0 b s k xs W) => lexEat ⟨#[92, 85]⟩ s k b xs w0 W hW (by omega) hs (by decide)
    unfold EatR eatK at he1 he2
    rw [hp1, decide_eq_false h117] at he1
    rw [hp2, decide_eq_true h85] at he2
    clear hp1 hp2 h117 h85 h92 hl h
    go_enter Tryz.func177, Tryz.ntmps177
    go_wp2_with fail
    refine he1.mono ?_
    rintro e w1 ⟨rfl, H1⟩
    have H1 := Lib.hid H1
    go_wp2_with fail
    refine (he2 w1 H1.out).mono ?_
    rintro e w2 ⟨rfl, H2⟩
    have H2 := Lib.hid H2
    go_wp2_with fail
    refine (hn w2 H2.out).mono ?_
    intro e w3 h3
    obtain ⟨q, rfl⟩ := h3.ret
    have H3 := Lib.hid h3
    clear h3
    go_wp2
    go_ret
    rw [Hes.out]
    exact EscR.num H3.out
  have he2 := fun W (hW : RI w0 b s k xs W) => lexEat ⟨#[92, 85]⟩ s k b xs w0 W hW (by omega) hs (by decide)
  unfold EatR eatK at he1 he2
  rw [hp1, decide_eq_false h117] at he1
  rw [hp2, decide_eq_false h85] at he2
  have Hes : Hid (escL lit (from_ s k) = if lit then optP 2 (escOf (c1 (from_ s k))) else (0, 0)) := by show _ = _; unfold escL; rw [if_neg h117, if_neg h85]
  have Hk := Lib.hid hk
  clear hp1 hp2 h117 h85 h92 h
  cases lit
  · go_enter Tryz.func177, Tryz.ntmps177
    go_wp2_with fail
    refine he1.mono ?_
    rintro e w1 ⟨rfl, H1⟩
    have H1 := Lib.hid H1
    go_wp2_with fail
    refine (he2 w1 H1.out).mono ?_
    rintro e w2 ⟨rfl, H2⟩
    have H2 := Lib.hid H2
    go_wp2
    go_ret
    rw [Hes.out]
    exact .inl ⟨rfl, rfl, _, _, H2.out⟩
  · have hr := fun W (hW : RI w0 b s k xs W) => lexRest s k b W hW.c0 hW.c1 (by omega)
    have hsz : (s.extract k s.size).size = s.size - k := by simp [ByteArray.size_extract]
    obtain ⟨r, hrr⟩ : ∃ r, s.extract k s.size = r := ⟨_, rfl⟩
    have hrl : r.data.toList = from_ s k := by rw [← hrr]; exact rest_toList s k
    have hrz : r.size = s.size - k := by rw [← hrr]; exact hsz
    simp only [hrr] at hr
    clear hrr hsz
    by_cases hlen : r.size < 2
    · have hc1 : c1 (from_ s k) = 0 := by
        unfold c1
        rw [List.getD_eq_getElem?_getD, List.getElem?_eq_none (by rw [from_len]; omega)]; rfl
      rw [hc1] at Hes
      have hd : decide ((r.size : Int) < 2) = true := by simp; omega
      clear hc1 hrl hrz hlen
      go_enter Tryz.func177, Tryz.ntmps177
      go_wp2_with fail
      refine he1.mono ?_
      rintro e w1 ⟨rfl, H1⟩
      have H1 := Lib.hid H1
      go_wp2_with fail
      refine (he2 w1 H1.out).mono ?_
      rintro e w2 ⟨rfl, H2⟩
      have H2 := Lib.hid H2
      go_wp2_with fail
      refine (hr w2 H2.out).mono ?_
      rintro e w3 ⟨rfl, hb3⟩
      have H3 := Lib.hid (H2.out.step hb3)
      go_wp2
      go_ret
      rw [Hes.out]
      exact .inl ⟨rfl, rfl, _, _, H3.out⟩
    · have hd : decide ((r.size : Int) < 2) = false := by simp; omega
      have hge : 1 < r.size := by omega
      have hb1 : bn r 1 = c1 (from_ s k) := by unfold bn c1; rw [hrl]
      have hcl : c1 (from_ s k) < 256 := by rw [← hb1]; exact bn_lt _ _
      have hib := fun W => Tryz.strings_IndexByte fromB (c1 (from_ s k) : Int) W
      rcases esc_at _ hcl with ⟨ho, hi⟩ | ⟨n, j, ho, hj, hi, hbj, hn⟩
      · rw [hi] at hib
        rw [ho] at Hes
        clear ho hi hrl hrz hlen hcl
        generalize c1 (from_ s k) = cc at *
        go_enter Tryz.func177, Tryz.ntmps177
        go_wp2_with fail
        refine he1.mono ?_
        rintro e w1 ⟨rfl, H1⟩
        have H1 := Lib.hid H1
        go_wp2_with fail
        refine (he2 w1 H1.out).mono ?_
        rintro e w2 ⟨rfl, H2⟩
        have H2 := Lib.hid H2
        go_wp2_with fail
        refine (hr w2 H2.out).mono ?_
        rintro e w3 ⟨rfl, hb3⟩
        have H3 := Lib.hid (H2.out.step hb3)
        clear hb3
        go_wp2_with fail
        refine (hr w3 H3.out).mono ?_
        rintro e w4 ⟨rfl, hb4⟩
        have H4 := Lib.hid (H3.out.step hb4)
        clear hb4
        go_wp2_with fail
        refine (hib w4).mono ?_
        rintro e w5 ⟨rfl, rfl⟩
        go_wp2
        go_ret
        rw [Hes.out]
        exact .inl ⟨rfl, rfl, _, _, H4.out⟩
      · rw [hi] at hib
        rw [ho] at Hes
        have hput := fun W g (hW : RI w0 b s (k + 2) xs W) hg => lexPut (n : Int) (by omega) (by omega) s (k + 2) b xs hx g w0 W hW hg
        have hk2 : k ≤ 1000000 := by omega
        have hbj2 : bn ⟨#[9, 8, 10, 13, 12, 34, 39, 92]⟩ j = n := hbj
        clear ho hi hrl hrz hlen hcl hbj
        generalize c1 (from_ s k) = cc at *
        go_enter Tryz.func177, Tryz.ntmps177
        go_wp2_with fail
        refine he1.mono ?_
        rintro e w1 ⟨rfl, H1⟩
        have H1 := Lib.hid H1
        go_wp2_with fail
        refine (he2 w1 H1.out).mono ?_
        rintro e w2 ⟨rfl, H2⟩
        have H2 := Lib.hid H2
        go_wp2_with fail
        refine (hr w2 H2.out).mono ?_
        rintro e w3 ⟨rfl, hb3⟩
        have H3 := Lib.hid (H2.out.step hb3)
        clear hb3
        go_wp2_with fail
        refine (hr w3 H3.out).mono ?_
        rintro e w4 ⟨rfl, hb4⟩
        have H4 := Lib.hid (H3.out.step hb4)
        clear hb4
        have c1 := H4.out.c1
        have f1 := H4.out.fz 1
        go_wp2_with fail
        refine (hib w4).mono ?_
        rintro e w5 ⟨rfl, rfl⟩
        go_wp2_with fail
        have H5 := (H4.out.moveI (k' := k + 2) (z := (k : Int) + 2) (by omega)).step ((Below.refl _ _).alloc (Nat.le_refl _) (.cells #[.int .i32 n] 21))
        refine (hput _ _ H5 (put_cell _ _ _ _ _)).mono ?_
        rintro e w6 ⟨rfl, H6⟩
        have H6 := Lib.hid H6
        go_wp2
        go_ret
        rw [Hes.out]
        exact .inr ⟨by show 2 ≠ 0; decide, rfl, H6.out⟩
end Go.Proofs.YtpnlabjgmdhicaaGreatDoor
namespace Go.Proofs.YtpnlabjgmdhicaaGreatDoor
open Go Go.RowKit Um

theorem lab_close1 {l : List UInt8} {k d x best : Nat} (h : labRest l false (k + d) (if x = 46 then best else k + d)) (hx : ((x : Int) != 46) = true) (hd : d ≠ 0) : labRest l (k + d == 0) (k + d) (k + d) := by
  have h1 : (k + d == 0) = false := by simp; omega
  have h2 : ¬ x = 46 := by rw [bne_iff_ne] at hx; omega
  rw [h1]; rwa [if_neg h2] at h
theorem lab_close2 {l : List UInt8} {k d x best : Nat} (h : labRest l false (k + d) (if x = 46 then best else k + d)) (hx : ((x : Int) != 46) = false) (hd : d ≠ 0) : labRest l (k + d == 0) (k + d) best := by
  have h1 : (k + d == 0) = false := by simp; omega
  have h2 : x = 46 := by simp at hx; omega
  rw [h1]; rwa [if_pos h2] at h

set_option maxHeartbeats 2000000 in
theorem refLabel (s : ByteArray) (w : World) (hs : s.size ≤ 2000000) :
    Calls Tryz.prog 91 #[.string s] w fun e w' => e = .returned (.int .i64 (label s.data.toList)) ∧ Below w.heap.size w w' := by
  go_enter Tryz.func91, Tryz.ntmps91
  go_wp2
  go_loopw [3, 4] (fun b i wr => ∃ k best : Nat, k ≤ s.size ∧ b = .int .i64 best ∧ i = .int .i64 k ∧ (k = 0 → best = 0) ∧ Below w.heap.size w wr ∧ Hid (labRest s.data.toList (k == 0) k best)) (fun _ i _ => s.size - (intOf i).toNat)
  case atStart => exact ⟨0, 0, by omega, rfl, rfl, fun _ => rfl, Below.refl _ _, labRest_start _⟩
  case round =>
    obtain ⟨k, best, hk, rfl, rfl, hb0, hB, H⟩ := hrel
    have hsz : s.data.toList.length = s.size := size_toList s
    by_cases hlt : k < s.size
    · have hnx := fun W => refNext s k W hlt (by omega)
      by_cases h0 : (nx (from_ s k)).2 = 0
      · have hres := Lib.hid (labRest_end H.out (.inr h0))
        rw [h0] at hnx
        clear hsz hb0
        generalize (nx (from_ s k)).1 = x at hnx
        go_wp2_with (go_at_call 126; refine (hnx _).mono ?_; rintro e w1 ⟨rfl, hb1⟩)
        go_ret
        exact ⟨by rw [hres.out]; rfl, hB.trans (hb1.mono hB.size)⟩
      · have hout := labRest_out H.out
        have hgo := labRest_go H.out (by rw [hsz]; exact hlt) h0
        obtain ⟨h1, h2, h3⟩ := nx_step s k h0
        clear hsz H
        have e1 : (List.drop k s.data.toList) = from_ s k := rfl
        rw [e1] at hout hgo
        clear e1
        generalize (nx (from_ s k)).1 = x at hnx h3 hout hgo
        generalize (nx (from_ s k)).2 = d at hnx h0 h1 h2 hgo
        have Hout := Lib.hid hout
        have Hgo := Lib.hid hgo
        have Hb0 := Lib.hid hb0
        clear hout hgo hb0
        have hd1 : ((d : Int) == 0) = false := by simp; omega
        have hfi := fun W => refFirst (x : Int) W
        have hle := fun W => refLetter (x : Int) W
        have hin := fun (W : World) (g : Nat) hW => refIn (x : Int) beginL (some ⟨g, 0, none⟩) 6 W (by decide) hW
        by_cases hk0 : k = 0
        · have hz : ((k : Int) == 0) = true := by simp [hk0]
          have hb0 := Lib.hid (Hb0.out hk0)
          have Hk0 := Lib.hid hk0
          have Hst := Lib.hid (show (k == 0) = true by simp [hk0])
          rw [Hst.out] at Hgo Hout
          clear hk0
          by_cases hbeg : beginB x = true
          · have hlet := begin_letter x hbeg
            rw [hlet] at hle
            have Hgo2 := Lib.hid (Hgo.out hbeg)
            clear hlet
            unfold beginB at hbeg
            by_cases hf : firstB x = true
            · rw [hf] at hfi
              clear hbeg hf
              go_wp2_with (first
                | (go_at_call 126; refine (hnx _).mono ?_; rintro e w1 ⟨rfl, hb1⟩; have hB1 := hB.trans (hb1.mono hB.size))
                | (go_at_call 127; refine (hfi _).mono ?_; rintro e w2 ⟨rfl, hb2⟩; have hB2 := hB1.trans (hb2.mono hB1.size))
                | (go_at_call 129; refine (hle _).mono ?_; rintro e w3 ⟨rfl, hb3⟩; have hB3 := hB2.trans (hb3.mono hB2.size)))
              · have hx : ((x : Int) != 46) = true := by assumption
                go_roundw
                case rel => exact ⟨k+d, k+d, by omega, by go_num, by go_num, fun h => by omega, hB3, lab_close1 Hgo2.out hx h0⟩
                case measure => simp [intOf]; omega
              · have hx : ((x : Int) != 46) = false := by assumption
                go_roundw
                case rel => exact ⟨k+d, best, by omega, rfl, by go_num, fun h => by omega, hB3, lab_close2 Hgo2.out hx h0⟩
                case measure => simp [intOf]; omega
            · have hf : firstB x = false := by simpa using hf
              rw [hf] at hfi hbeg
              have hi : inB x beginL = true := by simpa using hbeg
              rw [hi] at hin
              clear hbeg hf hi
              go_wp2_with (first
                | (go_at_call 126; refine (hnx _).mono ?_; rintro e w1 ⟨rfl, hb1⟩; have hB1 := hB.trans (hb1.mono hB.size))
                | (go_at_call 127; refine (hfi _).mono ?_; rintro e w2 ⟨rfl, hb2⟩; have hB2 := hB1.trans (hb2.mono hB1.size))
                | (go_at_call 128; refine (hin _ _ ?_).mono ?_; exact Rd.of_block (heap_alloc_new w2 _) rfl; rintro e w4 ⟨rfl, rfl⟩; have hB4 := hB2.alloc hB2.size (.cells #[.int .i64 95, .int .i64 95, .int .i64 58, .int .i64 58, .int .i64 48, .int .i64 57] 3))
                | (go_at_call 129; refine (hle _).mono ?_; rintro e w3 ⟨rfl, hb3⟩; have hB3 := hB4.trans (hb3.mono hB4.size)))
              · have hx : ((x : Int) != 46) = true := by assumption
                go_roundw
                case rel => exact ⟨k+d, k+d, by omega, by go_num, by go_num, fun h => by omega, hB3, lab_close1 Hgo2.out hx h0⟩
                case measure => simp [intOf]; omega
              · have hx : ((x : Int) != 46) = false := by assumption
                go_roundw
                case rel => exact ⟨k+d, best, by omega, rfl, by go_num, fun h => by omega, hB3, lab_close2 Hgo2.out hx h0⟩
                case measure => simp [intOf]; omega
          · have hbeg : beginB x = false := by simpa using hbeg
            have Hout2 := Lib.hid (Hout.out hbeg)
            unfold beginB at hbeg
            have hf : firstB x = false := by simp at hbeg; exact hbeg.1
            have hi : inB x beginL = false := by simp at hbeg; exact hbeg.2
            rw [hf] at hfi
            rw [hi] at hin
            clear hbeg hf hi
            go_wp2_with (first
              | (go_at_call 126; refine (hnx _).mono ?_; rintro e w1 ⟨rfl, hb1⟩; have hB1 := hB.trans (hb1.mono hB.size))
              | (go_at_call 127; refine (hfi _).mono ?_; rintro e w2 ⟨rfl, hb2⟩; have hB2 := hB1.trans (hb2.mono hB1.size))
              | (go_at_call 128; refine (hin _ _ ?_).mono ?_; exact Rd.of_block (heap_alloc_new w2 _) rfl; rintro e w4 ⟨rfl, rfl⟩; have hB4 := hB2.alloc hB2.size (.cells #[.int .i64 95, .int .i64 95, .int .i64 58, .int .i64 58, .int .i64 48, .int .i64 57] 3)))
            go_ret
            exact ⟨by rw [Hout2.out, hb0.out]; rfl, hB4⟩
        · have hz : ((k : Int) == 0) = false := by simp; omega
          have Hst := Lib.hid (show (k == 0) = false by simp [hk0])
          rw [Hst.out] at Hgo Hout
          clear hk0 Hb0
          rw [show mayB false x = (letterB x || decide ((x : Int) = 46)) from rfl] at Hgo Hout
          by_cases hl : letterB x = true
          · have Hgo2 := Lib.hid (Hgo.out (by rw [hl]; rfl))
            rw [hl] at hle
            clear hl
            go_wp2_with (first
              | (go_at_call 126; refine (hnx _).mono ?_; rintro e w1 ⟨rfl, hb1⟩; have hB1 := hB.trans (hb1.mono hB.size))
              | (go_at_call 129; refine (hle _).mono ?_; rintro e w3 ⟨rfl, hb3⟩; have hB3 := hB1.trans (hb3.mono hB1.size)))
            · have hx : ((x : Int) != 46) = true := by assumption
              go_roundw
              case rel => exact ⟨k+d, k+d, by omega, by go_num, by go_num, fun h => by omega, hB3, lab_close1 Hgo2.out hx h0⟩
              case measure => simp [intOf]; omega
            · have hx : ((x : Int) != 46) = false := by assumption
              go_roundw
              case rel => exact ⟨k+d, best, by omega, rfl, by go_num, fun h => by omega, hB3, lab_close2 Hgo2.out hx h0⟩
              case measure => simp [intOf]; omega
          · have hl : letterB x = false := by simpa using hl
            rw [hl] at hle Hgo Hout
            clear hl
            by_cases hd : (x : Int) = 46
            · have Hgo2 := Lib.hid (Hgo.out (by rw [hd]; rfl))
              have hd1 : ((x : Int) != 46) = false := by simp [hd]
              clear hd
              go_wp2_with (first
                | (go_at_call 126; refine (hnx _).mono ?_; rintro e w1 ⟨rfl, hb1⟩; have hB1 := hB.trans (hb1.mono hB.size))
                | (go_at_call 129; refine (hle _).mono ?_; rintro e w3 ⟨rfl, hb3⟩; have hB3 := hB1.trans (hb3.mono hB1.size)))
              go_roundw
              case rel => exact ⟨k+d, best, by omega, rfl, by go_num, fun h => by omega, hB3, lab_close2 Hgo2.out hd1 h0⟩
              case measure => simp [intOf]; omega
            · have Hout2 := Lib.hid (Hout.out (by simp [hd]))
              have hd1 : ((x : Int) != 46) = true := by simp [hd]
              clear hd
              go_wp2_with (first
                | (go_at_call 126; refine (hnx _).mono ?_; rintro e w1 ⟨rfl, hb1⟩; have hB1 := hB.trans (hb1.mono hB.size))
                | (go_at_call 129; refine (hle _).mono ?_; rintro e w3 ⟨rfl, hb3⟩; have hB3 := hB1.trans (hb3.mono hB1.size)))
              go_ret
              exact ⟨by rw [Hout2.out]; rfl, hB3⟩
    · have hres := Lib.hid (labRest_end H.out (.inl (by rw [hsz]; omega)))
      clear hsz hb0
      go_wp2
      go_ret
      exact ⟨by rw [hres.out]; rfl, hB⟩
set_option maxHeartbeats 2000000 in
theorem refTag (s : ByteArray) (w : World) (hs : s.size ≤ 2000000) :
    Calls Tryz.prog 92 #[.string s] w fun e w' => e = .returned (.int .i64 (tag s.data.toList)) ∧ w = w' := by
  have hsz : s.data.toList.length = s.size := size_toList s
  have Hsz := Lib.hid hsz
  clear hsz
  go_enter Tryz.func92, Tryz.ntmps92
  go_wp2
  go_loop [3] (fun i => ∃ k : Nat, k ≤ s.size ∧ i = .int .i64 k ∧ Hid (span alphaB s.data.toList = k + span alphaB (s.data.toList.drop k))) (fun i => s.size - (intOf i).toNat)
  case atStart => exact ⟨0, by omega, rfl, by show _ = _; simp⟩
  case round =>
    obtain ⟨k, hk, rfl, H⟩ := hrel
    have hb := bn_lt s k
    have hal := fun W => refAlpha (bn s k) W (by omega) (by omega)
    have go : alphaB (bn s k) = true → k < s.size → span alphaB s.data.toList = (k+1) + span alphaB (s.data.toList.drop (k+1)) := fun ha hlt => by
      rw [H.out, span_drop _ _ _ (by rw [Hsz.out]; exact hlt), bn_getD, if_pos ha]; omega
    have stop : (k < s.size → alphaB (bn s k) = false) → span alphaB s.data.toList = k := fun ha => by
      rw [H.out]
      rcases Nat.lt_or_ge k s.size with h | h
      · rw [span_drop _ _ _ (by rw [Hsz.out]; exact h), bn_getD, ha h]; rfl
      · rw [span_end _ _ _ (by rw [Hsz.out]; exact h)]; rfl
    have Hgo := Lib.hid go
    have Hstop := Lib.hid stop
    clear go stop H
    by_cases hlt : k < s.size ∧ alphaB (bn s k) = true
    · obtain ⟨hlt, ha⟩ := hlt
      rw [ha] at hal
      have hg := Lib.hid (Hgo.out ha hlt)
      clear ha
      go_wp2_with (go_at_call 130; refine (hal _).mono ?_; rintro e w1 ⟨rfl, rfl⟩)
      go_round
      case rel => exact ⟨k+1, by omega, by go_num, hg⟩
      case measure => simp [intOf]; omega
    · have hsp := Hstop.out (fun h => by
        cases hh : alphaB (bn s k) with
        | false => rfl
        | true => exact absurd ⟨h, hh⟩ hlt)
      have hT : tagRest s.data.toList k := by unfold tagRest tag; rw [hsp]
      have HT := Lib.hid hT
      clear hsp hT Hgo Hstop
      have key : ∀ b : Bool, (k < s.size → alphaB (bn s k) = b) → b = false ∨ ¬ k < s.size → True := fun _ _ _ => trivial
      clear key
      by_cases hlt2 : k < s.size
      case' pos =>
        have ha : alphaB (bn s k) = false := by
          cases hh : alphaB (bn s k) with
          | false => rfl
          | true => exact absurd ⟨hlt2, hh⟩ hlt
        rw [ha] at hal
        clear ha
      all_goals
        clear hlt
        go_wp2_with (go_at_call 130; refine (hal _).mono ?_; rintro e w1 ⟨rfl, rfl⟩)
        clear hb hal
        go_loop [3] (fun i => ∃ n : Nat, n ≤ s.size ∧ i = .int .i64 n ∧ Hid (tagRest s.data.toList n)) (fun i => s.size - (intOf i).toNat)
        case atStart => exact ⟨k, by omega, rfl, HT⟩
        case round =>
          clear HT
          obtain ⟨n, hn, rfl, HT⟩ := hrel
          have hb := bn_lt s n
          have hout := fun h => tagRest_out HT.out h
          have hgo := fun h => tagRest_go HT.out h
          rw [Hsz.out, bn_getD] at hout hgo
          have Hout := Lib.hid hout
          have Hgo := Lib.hid hgo
          clear hout hgo
          by_cases h0 : 0 < n
          case' neg =>
            have Hres := Lib.hid (Hout.out (fun h => h0 h.1))
            go_wp2
            go_ret
            exact ⟨by rw [Hres.out]; rfl, rfl⟩
          by_cases h1 : n < s.size
          case' neg =>
            have Hres := Lib.hid (Hout.out (fun h => h1 h.2.1))
            go_wp2
            go_ret
            exact ⟨by rw [Hres.out]; rfl, rfl⟩
          by_cases h2 : bn s n = 45
          case' neg =>
            have Hres := Lib.hid (Hout.out (fun h => h2 h.2.2.1))
            have h3 : ((bn s n : Int) == 45) = false := by simp; omega
            clear h2
            go_wp2
            go_ret
            exact ⟨by rw [Hres.out]; rfl, rfl⟩
          have h3 : ((bn s n : Int) == 45) = true := by simp; omega
          have H2 := Lib.hid h2
          clear h2
          go_wp2
          go_loop [4] (fun i => ∃ m : Nat, n + 1 ≤ m ∧ m ≤ s.size ∧ i = .int .i64 m ∧ Hid (span alnumB (s.data.toList.drop (n + 1)) = (m - (n + 1)) + span alnumB (s.data.toList.drop m))) (fun i => s.size - (intOf i).toNat)
          case atStart => exact ⟨n + 1, by omega, by omega, by go_num, by show _ = _; omega⟩
          case round =>
            obtain ⟨m, hm1, hm2, rfl, H⟩ := hrel
            have hbm := bn_lt s m
            have hal := fun W => refAlpha (bn s m) W (by omega) (by omega)
            have hdi := fun W => refDigit (bn s m) W (by omega) (by omega)
            have go : alnumB (bn s m) = true → m < s.size → span alnumB (s.data.toList.drop (n + 1)) = ((m + 1) - (n + 1)) + span alnumB (s.data.toList.drop (m+1)) := fun ha hlt => by
              rw [H.out, span_drop _ _ m (by rw [Hsz.out]; exact hlt), bn_getD, if_pos ha]; omega
            have stop : (m < s.size → alnumB (bn s m) = false) → span alnumB (s.data.toList.drop (n + 1)) = m - (n + 1) := fun ha => by
              rw [H.out]
              rcases Nat.lt_or_ge m s.size with h | h
              · rw [span_drop _ _ m (by rw [Hsz.out]; exact h), bn_getD, ha h]; rfl
              · rw [span_end _ _ m (by rw [Hsz.out]; exact h)]; rfl
            have Hg := Lib.hid go
            have Hs := Lib.hid stop
            clear go stop H
            by_cases hlt : m < s.size
            · by_cases ha : alphaB (bn s m) = true
              · have hg := Lib.hid (Hg.out (by unfold alnumB; rw [ha]; rfl) hlt)
                rw [ha] at hal
                clear ha Hg Hs
                go_wp2_with (go_at_call 130; refine (hal _).mono ?_; rintro e w1 ⟨rfl, rfl⟩)
                go_round
                case rel => exact ⟨m+1, by omega, by omega, by go_num, hg⟩
                case measure => simp [intOf]; omega
              · have ha : alphaB (bn s m) = false := by simpa using ha
                rw [ha] at hal
                by_cases hd : digitB (bn s m) = true
                · have hg := Lib.hid (Hg.out (by unfold alnumB; rw [hd]; simp) hlt)
                  rw [hd] at hdi
                  clear ha hd Hg Hs
                  go_wp2_with (first
                    | (go_at_call 130; refine (hal _).mono ?_; rintro e w1 ⟨rfl, rfl⟩)
                    | (go_at_call 131; refine (hdi _).mono ?_; rintro e w1 ⟨rfl, rfl⟩))
                  go_round
                  case rel => exact ⟨m+1, by omega, by omega, by go_num, hg⟩
                  case measure => simp [intOf]; omega
                · have hd : digitB (bn s m) = false := by simpa using hd
                  have hs' := Hs.out (fun _ => by unfold alnumB; rw [ha, hd]; rfl)
                  rw [hd] at hdi
                  clear ha hd Hg Hs
                  by_cases hz : m = n + 1
                  · have hz1 : ((m : Int) == (n : Int) + 1) = true := by simp; omega
                    have Hres := Lib.hid (Hout.out (fun h => h.2.2.2 (by rw [hs']; omega)))
                    clear hs' hz
                    go_wp2_with (first
                      | (go_at_call 130; refine (hal _).mono ?_; rintro e w1 ⟨rfl, rfl⟩)
                      | (go_at_call 131; refine (hdi _).mono ?_; rintro e w1 ⟨rfl, rfl⟩))
                    go_ret
                    exact ⟨by rw [Hres.out]; rfl, rfl⟩
                  · have hz1 : ((m : Int) == (n : Int) + 1) = false := by simp; omega
                    have hr := Hgo.out ⟨h0, h1, H2.out, by rw [hs']; omega⟩
                    rw [hs', show n + 1 + (m - (n + 1)) = m from by omega] at hr
                    have Hr := Lib.hid hr
                    clear hs' hz hr
                    go_wp2_with (first
                      | (go_at_call 130; refine (hal _).mono ?_; rintro e w1 ⟨rfl, rfl⟩)
                      | (go_at_call 131; refine (hdi _).mono ?_; rintro e w1 ⟨rfl, rfl⟩))
                    go_round
                    case rel => exact ⟨m, by omega, rfl, Hr⟩
                    case measure => simp [intOf]; omega
            · have hs' := Hs.out (fun h => absurd h hlt)
              clear Hg Hs
              by_cases hz : m = n + 1
              · have hz1 : ((m : Int) == (n : Int) + 1) = true := by simp; omega
                have Hres := Lib.hid (Hout.out (fun h => h.2.2.2 (by rw [hs']; omega)))
                clear hs' hz
                go_wp2
                go_ret
                exact ⟨by rw [Hres.out]; rfl, rfl⟩
              · have hz1 : ((m : Int) == (n : Int) + 1) = false := by simp; omega
                have hr := Hgo.out ⟨h0, h1, H2.out, by rw [hs']; omega⟩
                rw [hs', show n + 1 + (m - (n + 1)) = m from by omega] at hr
                have Hr := Lib.hid hr
                clear hs' hz hr
                go_wp2
                go_round
                case rel => exact ⟨m, by omega, rfl, Hr⟩
                case measure => simp [intOf]; omega
end Go.Proofs.YtpnlabjgmdhicaaGreatDoor
