/- The program's package lex, walked: number. -/
import Derived.Test.YtjigcembbigbnaaDoorJLex3
import Derived.Test.YtjigcembbigbnaaDoorJUtfProg3b
namespace Go.Proofs.YtjigcembbigbnaaDoor
open Go Go.RowKit Um Lx

/-- What a number's sign makes of a reader. -/
def NumR (w0 : World) (b : Nat) (s : ByteArray) (k many : Nat) (xs : List Int) : Option Nat → Ending → World → Prop
  | some n, e, w' => e = .returned (.bool true) ∧ RI w0 b s (k + many) (xs ++ Lib.encodeRuneZ n) w'
  | none, e, w' => e = .returned (.bool false) ∧ RI w0 b s k xs w'
theorem RI.moveI {w0 w : World} {b : Nat} {s : ByteArray} {k : Nat} {xs : List Int} (h : RI w0 b s k xs w) {k' : Nat} {z : Int} (hz : z = k') : RI w0 b s k' xs (w.setCell ⟨b, 1, none⟩ (.int .i64 z)) := hz ▸ h.move k'
theorem put_cell (w : World) (b : Nat) (z v : Value) (T : TypeId) : ((w.setCell ⟨b, 1, none⟩ z).alloc (.cells #[v] T)).cell? ⟨w.heap.size, 0, none⟩ = some v := by
  have h : (w.setCell ⟨b, 1, none⟩ z).heap.size = w.heap.size := by simp [World.setCell]
  rw [← h, World.cell?]
  simp only
  rw [heap_alloc_new]
  rfl
theorem rest_toList (s : ByteArray) (k : Nat) : (s.extract k s.size).data.toList = from_ s k := by
  rw [extract_toList, from_, List.take_of_length_le]
  simp
theorem from_len (s : ByteArray) (k : Nat) : (from_ s k).length = s.size - k := from_length s k
set_option maxRecDepth 10000 in
set_option maxHeartbeats 2000000 in
theorem lexNumber (many : Nat) (hm0 : 0 < many) (hm : many ≤ 8) (s : ByteArray) (k b : Nat) (xs : List Int) (hx : xs.length ≤ 4000000) (w0 w : World) (h : RI w0 b s k xs w) (hk : k ≤ s.size) (hs : s.size ≤ 1000000) :
    Calls Tryd.prog 58 #[.pointer (some ⟨b, 0, none⟩), .int .i64 many] w (NumR w0 b s k many xs (numL many (from_ s k))) := by
  have hr := fun W (hW : RI w0 b s k xs W) => lexRest s k b W hW.c0 hW.c1 hk
  have hsz : (s.extract k s.size).size = s.size - k := by simp [ByteArray.size_extract]
  have H := Lib.hid h
  have hr0 := hr w h
  clear h
  by_cases hlen : s.size - k < many
  · have Hn : Hid (numL many (from_ s k) = none) := by
      show _ = _
      unfold numL; rw [if_pos (by rw [from_len]; exact hlen)]
    clear hm0 hm
    go_enter Tryd.func58, Tryd.ntmps58
    go_wp2_with (go_at_call 21; refine hr0.mono ?_; rintro e w1 ⟨rfl, hb⟩; have hd : decide (((s.extract k s.size).size : Int) < many) = true := by rw [hsz]; simp; omega)
    go_ret
    rw [Hn.out]
    exact ⟨rfl, H.out.step hb⟩
  · obtain ⟨r, hrr⟩ : ∃ r, s.extract k s.size = r := ⟨_, rfl⟩
    have hrl : r.data.toList = from_ s k := by rw [← hrr]; exact rest_toList s k
    have hrz : r.size = s.size - k := by rw [← hrr]; exact hsz
    simp only [hrr] at hr hr0
    clear hrr hsz
    have htz : (r.extract 0 many).size = many := by rw [ByteArray.size_extract]; omega
    have htl : (r.extract 0 many).data.toList = (from_ s k).take many := by rw [extract_toList, List.drop_zero, hrl, Nat.sub_zero]
    have hd : decide (r.size < many) = false := by simp; omega
    have hle : many ≤ r.size := by omega
    have Hn : Hid (numL many (from_ s k) = (hexN ((from_ s k).take many) 0).bind fun n => if isB n then some n else none) := by
      show _ = _
      unfold numL; rw [if_neg (by rw [from_len]; exact hlen)]
    rw [← htl] at Hn
    have Htl := Lib.hid htl
    clear htl hrl hlen hrz
    cases hx16 : hexN (r.extract 0 many).data.toList 0 with
    | none =>
      have hp := fun W (hW : RI w0 b s k xs W) => parse16_none (r.extract 0 many) (by omega) (by omega) W hW.err hx16
      rw [hx16] at Hn
      clear hx16 htz hm0 hm
      go_enter Tryd.func58, Tryd.ntmps58
      go_wp2_with fail
      refine hr0.mono ?_
      rintro e w1 ⟨rfl, hb1⟩
      have H1 := Lib.hid (H.out.step hb1)
      go_wp2_with fail
      refine (hr w1 H1.out).mono ?_
      rintro e w2 ⟨rfl, hb2⟩
      have H2 := Lib.hid (H1.out.step hb2)
      go_wp2_with fail
      refine (hp w2 H2.out).mono ?_
      rintro e w3 ⟨⟨ty, p, rfl⟩, hb3⟩
      have H3 := Lib.hid (H2.out.step hb3)
      go_wp2
      go_ret
      rw [Hn.out]
      exact ⟨rfl, H3.out⟩
    | some n =>
      have hp := fun W => parse16_some (r.extract 0 many) n (by omega) (by omega) W hx16
      have hnb := hexN_bound _ _ _ hx16
      rw [size_toList, htz] at hnb
      have h8 : 16 ^ many ≤ 4294967296 := Nat.pow_le_pow_right (by decide : 0 < 16) (by omega : many ≤ 8)
      have hn8 : n < 4294967296 := by omega
      rw [hx16] at Hn
      clear hx16 htz hm0 hnb h8
      have his := fun W => utfIs (n : Int) W
      cases hq : isB (n : Int)
      · rw [hq] at his
        have HQ := Lib.hid hq
        clear hq
        go_enter Tryd.func58, Tryd.ntmps58
        go_wp2_with fail
        refine hr0.mono ?_
        rintro e w1 ⟨rfl, hb1⟩
        have H1 := Lib.hid (H.out.step hb1)
        go_wp2_with fail
        refine (hr w1 H1.out).mono ?_
        rintro e w2 ⟨rfl, hb2⟩
        have H2 := Lib.hid (H1.out.step hb2)
        go_wp2_with fail
        refine (hp w2).mono ?_
        rintro e w3 ⟨rfl, hb3⟩
        have H3 := Lib.hid (H2.out.step hb3)
        go_wp2_with (go_at_call 38; refine (his _).mono ?_; rintro e w4 ⟨rfl, rfl⟩)
        go_ret
        rw [Hn.out, Option.bind_some, HQ.out]
        exact ⟨rfl, H3.out⟩
      · rw [hq] at his
        obtain ⟨hn0, hn1⟩ := (isB_iff n).1 hq
        have hn2 : n ≤ 1114111 := by omega
        have HQ := Lib.hid hq
        clear hq hn0 hn1
        have hle2 : many ≤ 1000000 := by omega
        have hk2 : k ≤ 1000000 := by omega
        have hput := fun W g (hW : RI w0 b s (k + many) xs W) hg => lexPut (n : Int) (by omega) (by omega) s (k + many) b xs hx g w0 W hW hg
        go_enter Tryd.func58, Tryd.ntmps58
        go_wp2_with fail
        refine hr0.mono ?_
        rintro e w1 ⟨rfl, hb1⟩
        have H1 := Lib.hid (H.out.step hb1)
        go_wp2_with fail
        refine (hr w1 H1.out).mono ?_
        rintro e w2 ⟨rfl, hb2⟩
        have H2 := Lib.hid (H1.out.step hb2)
        go_wp2_with fail
        refine (hp w2).mono ?_
        rintro e w3 ⟨rfl, hb3⟩
        have H3 := Lib.hid (H2.out.step hb3)
        have c1 := H3.out.c1
        have f1 := H3.out.fz 1
        go_wp2_with (go_at_call 38; refine (his _).mono ?_; rintro e w4 ⟨rfl, rfl⟩)
        have H4 := (H3.out.moveI (k' := k + many) (z := (k : Int) + many) (by omega)).step ((Below.refl _ _).alloc (Nat.le_refl _) (.cells #[.int .i32 n] 21))
        refine (hput _ _ H4 (put_cell _ _ _ _ _)).mono ?_
        rintro e w5 ⟨rfl, H5⟩
        have H5 := Lib.hid H5
        go_wp2
        go_ret
        rw [Hn.out, Option.bind_some, HQ.out]
        exact ⟨rfl, H5.out⟩
end Go.Proofs.YtjigcembbigbnaaDoor
