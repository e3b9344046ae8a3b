/- Layer 9's laws, walked: awake, tells, same, blank; LexTells. -/
import Derived.Test.YtjigcembbigbnaaDoorJR9e
namespace Go.Proofs.YtjigcembbigbnaaDoor
open Go Go.RowKit Um Lx

/-- Tokens in memory. -/
def RdTk (w : World) (A : Option Addr) (ts : List Tok) : Prop := Rd w A (ts.flatMap tokC)
theorem flat3 : ∀ {ts : List Tok} {i : Nat} {t : Tok}, ts[i]? = some t → (ts.flatMap tokC)[i * 3]? = some (.int .i64 t.k) ∧ (ts.flatMap tokC)[i * 3 + 1]? = some (.string t.x) ∧ (ts.flatMap tokC)[i * 3 + 2]? = some (.int .i64 t.p)
  | [], _, _, h => by simp at h
  | u :: r, 0, t, h => by
    simp only [List.getElem?_cons_zero, Option.some.injEq] at h
    subst h
    rw [List.flatMap_cons]
    exact ⟨rfl, rfl, rfl⟩
  | u :: r, i + 1, t, h => by
    rw [List.getElem?_cons_succ] at h
    obtain ⟨h1, h2, h3⟩ := flat3 h
    rw [List.flatMap_cons]
    have e : ∀ j, (tokC u ++ r.flatMap tokC)[(i + 1) * 3 + j]? = (r.flatMap tokC)[i * 3 + j]? := fun j => by
      rw [List.getElem?_append_right (by show 3 ≤ _; omega)]
      congr 1
      show _ - 3 = _
      omega
    exact ⟨(e 0).trans h1, (e 1).trans h2, (e 2).trans h3⟩
theorem RdTk.at3 {w : World} {A : Option Addr} {ts : List Tok} (h : RdTk w A ts) {i : Nat} {t : Tok} (ht : ts[i]? = some t) :
    ∃ g o, A = some ⟨g, o, none⟩ ∧ w.cell? ⟨g, o + i * 3, none⟩ = some (.int .i64 t.k) ∧ w.cell? ⟨g, o + i * 3 + 1, none⟩ = some (.string t.x) ∧ w.cell? ⟨g, o + i * 3 + 2, none⟩ = some (.int .i64 t.p) := by
  obtain ⟨h1, h2, h3⟩ := flat3 ht
  rcases h with h0 | ⟨g, o, hA, hc⟩
  · rw [h0] at h1; cases h1
  · exact ⟨g, o, hA, hc _ _ h1, hc _ _ h2, hc _ _ h3⟩
theorem RdTk.later {w w' : World} {A : Option Addr} {ts : List Tok} (h : RdTk w A ts) (hb : Below w.heap.size w w') : RdTk w' A ts := Rd.later h hb
/-- What Line says, as a slice. -/
def LineS (s : ByteArray) (w : World) (e : Ending) (w' : World) : Prop := ∃ (A : Option Addr) (c : Nat), e = .returned (.tuple #[.slice A (lineL s.data.toList).1.length c, .int .i64 (lineL s.data.toList).2.1, .int .i64 (lineL s.data.toList).2.2]) ∧
  (lineL s.data.toList).1.length ≤ c ∧ RdTk w' A (lineL s.data.toList).1 ∧ Below w.heap.size w w'
theorem lexLineS (s : ByteArray) (w : World) (hC : CtxL w) (hs : s.size ≤ 1000000) : Calls Tryd.prog 9 #[.string s] w (LineS s w) := by
  refine (lexLine s w hC hs).mono ?_
  rintro e w' ⟨v, rfl, own, hb⟩
  obtain ⟨A, c, rfl, hc, hr⟩ := own_slice own
  exact ⟨A, c, rfl, hc, hr, hb⟩
theorem refLineS (s : ByteArray) (w : World) (hs : s.size ≤ 1000000) : Calls Tryd.prog 14 #[.string s] w (LineS s w) := by
  refine (refLine s w hs).mono ?_
  rintro e w' ⟨v, rfl, own, hb⟩
  obtain ⟨A, c, rfl, hc, hr⟩ := own_slice own
  exact ⟨A, c, rfl, hc, hr, hb⟩
theorem line_len (s : ByteArray) : (lineL s.data.toList).1.length ≤ s.size := by
  rw [← size_toList]
  unfold lineL
  split
  · split
    · rename_i ts h
      exact lnL_len _ _ _ h
    · exact Nat.zero_le _
  · exact Nat.zero_le _
def exA : ByteArray := ⟨#[60, 97, 62, 32, 34, 98, 34, 64, 101, 110, 32, 46, 32, 35, 32, 99]⟩
def exB : ByteArray := ⟨#[95, 58, 97, 46, 32]⟩
def exAt : List Tok := [⟨1, ⟨#[97]⟩, 0⟩, ⟨3, ⟨#[98]⟩, 4⟩, ⟨4, ⟨#[101, 110]⟩, 7⟩, ⟨6, ⟨#[]⟩, 11⟩]
def exBt : List Tok := [⟨2, ⟨#[97]⟩, 0⟩, ⟨6, ⟨#[]⟩, 3⟩]
theorem exA_line : lineL exA.data.toList = (exAt, 0, 0) := by kernel_rfl
theorem exB_line : lineL exB.data.toList = (exBt, 0, 0) := by kernel_rfl
set_option maxRecDepth 10000 in
theorem lawAwake9 (w : World) (hC : CtxL w) : Calls Tryd.prog 7 #[] w fun e w' => e = .returned (.bool true) ∧ Below w.heap.size w w' := by
  have h1 := lexLineS exA w hC (by decide)
  have h2 := fun W (hW : CtxL W) => lexLineS exB W hW (by decide)
  unfold LineS at h1 h2
  rw [exA_line] at h1
  rw [exB_line] at h2
  have HC := Lib.hid hC
  clear hC
  go_enter Tryd.func7, Tryd.ntmps7
  go_wp2_with fail
  refine h1.mono ?_
  rintro e w1 ⟨A1, c1, rfl, hc1, hr1, hb1⟩
  have HC1 := Lib.hid (HC.out.step hb1)
  go_wp2_with fail
  refine (h2 w1 HC1.out).mono ?_
  rintro e w2 ⟨A2, c2, rfl, hc2, hr2, hb2⟩
  have hr1' := hr1.later hb2
  obtain ⟨g, o, rfl, a1, a2, a3⟩ := hr1'.at3 (i := 1) (t := ⟨3, ⟨#[98]⟩, 4⟩) rfl
  obtain ⟨g', o', he, a4, a5, a6⟩ := hr1'.at3 (i := 2) (t := ⟨4, ⟨#[101, 110]⟩, 7⟩) rfl
  injection he with he; injection he with h5 h6; subst h5; subst h6
  obtain ⟨g', o', he, a7, a8, a9⟩ := hr1'.at3 (i := 3) (t := ⟨6, ⟨#[]⟩, 11⟩) rfl
  injection he with he; injection he with h5 h6; subst h5; subst h6
  obtain ⟨p, q, rfl, b1, b2, b3⟩ := hr2.at3 (i := 0) (t := ⟨2, ⟨#[97]⟩, 0⟩) rfl
  obtain ⟨p', q', he, b4, b5, b6⟩ := hr2.at3 (i := 1) (t := ⟨6, ⟨#[]⟩, 3⟩) rfl
  injection he with he; injection he with h5 h6; subst h5; subst h6
  have HB := Lib.hid (below_tr hb1 hb2)
  clear hr1 hr1' hr2 hb1 hb2 h1 h2
  simp only [exAt, exBt, List.length_cons, List.length_nil] at hc1 hc2 ⊢
  go_wp2
  go_ret
  exact ⟨rfl, HB.out⟩
end Go.Proofs.YtjigcembbigbnaaDoor
