/- The program's package order, walked: Answer at a right table -/
import Derived.Test.YtoejnneknpoanaaGreatDoorJOrd20
import Derived.Great.Walk
set_option maxHeartbeats 8000000
set_option maxRecDepth 100000
namespace Go.Proofs.YtoejnneknpoanaaGreatDoor
open Go Go.RowKit Fm Tx Om Mp
def ans3 (vars names:List ByteArray) (nf:Nat) (fils:List (ExT nf)) (keys:List Ky) (rows:List (List Tm)):List ByteArray × List (List Tm):=if projN vars names=0 then (names,(sortL vars keys (keepL vars nf fils rows)).map (projL (placesL vars names))) else (vars,sortL vars keys (keepL vars nf fils rows))
def ans4 (vars names:List ByteArray) (nf:Nat) (fils:List (ExT nf)) (keys:List Ky) (dist:Bool) (rows:List (List Tm)):List (List Tm):=if dist then onceL (ans3 vars names nf fils keys rows).2 else (ans3 vars names nf fils keys rows).2
def ansSt (vars names:List ByteArray) (nf:Nat) (fils:List (ExT nf)) (keys:List Ky) (dist:Bool) (off lim:Int) (rows:List (List Tm)):Nat->List ByteArray × List (List Tm)
 | 0=>(vars,rows)
 | 1=>(vars,keepL vars nf fils rows)
 | 2=>(vars,sortL vars keys (keepL vars nf fils rows))
 | 3=>ans3 vars names nf fils keys rows
 | 4=>((ans3 vars names nf fils keys rows).1,ans4 vars names nf fils keys dist rows)
 | _=>((ans3 vars names nf fils keys rows).1,if off<0∨lim < -1 then ans4 vars names nf fils keys dist rows else cutL off lim (ans4 vars names nf fils keys dist rows))
def ansEr (vars names:List ByteArray) (keys:List Ky) (off lim:Int):Nat->Int
 | 1=>sortN vars keys
 | 2=>projN vars names
 | 4=>if off<0∨lim < -1 then 6 else 0
 | _=>0
theorem ans2_mem {vars:List ByteArray} {nf:Nat} {fils:List (ExT nf)} {keys:List Ky} {rows:List (List Tm)} {r:List Tm} (h:r∈sortL vars keys (keepL vars nf fils rows)):r∈rows:=keep_mem ((sortL_perm _ _ _).mem_iff.1 h)
theorem ans2_len (vars:List ByteArray) (nf:Nat) (fils:List (ExT nf)) (keys:List Ky) (rows:List (List Tm)):(sortL vars keys (keepL vars nf fils rows)).length<=rows.length:=by
 rw[(sortL_perm _ _ _).length_eq]
 exact keep_len _ _ _ _
theorem ans3_len (vars names:List ByteArray) (nf:Nat) (fils:List (ExT nf)) (keys:List Ky) (rows:List (List Tm)):(ans3 vars names nf fils keys rows).2.length<=rows.length:=by
 unfold ans3
 split
 ·rw[List.length_map];exact ans2_len _ _ _ _ _
 ·exact ans2_len _ _ _ _ _
theorem places_ok {vars names:List ByteArray} (h:projN vars names=0):∀p∈placesL vars names,0<=p/\p<vars.length:=by
 refine places_in ?_
 unfold projN at h
 split at h
 ·cases h
 ·split at h
  ·cases h
  ·rename_i h2
   simpa using h2
theorem once_len {α:Type} [DecidableEq α] (l:List α):(onceL l).length<=l.length:=by
 have h1:∀(acc:List α) (r:α),(onceF acc r).length<=acc.length+1:=λacc r=>by
  unfold onceF
  split<;>simp
 have h2:∀(l acc:List α),(l.foldl onceF acc).length<=acc.length+l.length:=by
  intro l
  induction l with
  | nil=>intro acc;simp
  | cons x l ih =>
   intro acc
   have:=ih (onceF acc x)
   have:=h1 acc x
   simp only[List.foldl_cons,List.length_cons]
   omega
 have:=h2 l []
 simpa[onceL] using this
theorem ans3_key {vars names:List ByteArray} {nf:Nat} {fils:List (ExT nf)} {keys:List Ky} {rows:List (List Tm)} (hlq:names.length<=1000000) (hw:∀r∈rows,r.length=vars.length) (hk:∀r∈rows,keyRow r):∀r∈(ans3 vars names nf fils keys rows).2,keyRow r:=by
 unfold ans3
 split
 ·rename_i hN
  intro r hr
  obtain⟨q,hq,rfl⟩:=List.mem_map.1 hr
  have hq2:=ans2_mem hq
  refine⟨?_,λt ht=>(hk q hq2).2 t (proj_mem (λp hp=>?_) ht)⟩
  ·rw[proj_len];unfold placesL;rw[List.length_map];exact hlq
  ·rw[hw q hq2];exact places_ok hN p hp
 ·exact λr hr=>hk r (ans2_mem hr)
theorem ordSteps (W0:World) (hC:CtxT W0) (hP:PowV W0) (b:Nat) (vars names:List ByteArray) (nf:Nat) (fils:List (ExT nf)) (keys:List Ky) (b0 dist:Bool) (off lim:Int) (rows:List (List Tm)) (A2 A4 A5:Option Addr) (n2 c2 n4 c4 n5 c5:Nat) (q3:Value)
  (h2:names.length=n2) (hl2:n2<=1000000) (hc2:n2<=c2) (hr2:Rd W0 A2 (names.map Value.string)) (h4:fils.length=n4) (hl4:n4<=1000000) (hzf:∀x∈fils,szE nf x) (hr4:RdEs nf W0 A4 fils) (h5:keys.length=n5) (hl5:n5<=1000000) (hr5:RdKey W0 A5 keys)
  (hlv:vars.length<=1000000) (hl:rows.length<=1000000) (hw:∀r∈rows,r.length=vars.length) (hk:∀r∈rows,keyRow r) (hs:∀r∈rows,smallRow r) :
  Steps W0 b [.bool b0,.bool dist,.slice A2 n2 c2,q3,.slice A4 n4 c4,.slice A5 n5 c5,.int .i64 lim,.int .i64 off] (ansSt vars names nf fils keys dist off lim rows) (ansEr vars names keys off lim) where
 s0:=λW hB hW=>ordKeep W0 b nf fils A4 c4 n4 vars rows _ _ _ _ _ _ _ W h4 hl4 hlv hzf hr4 hB hW hk hl
 s1:=λW hB hW=>ordSorted W0 hC b vars _ keys _ _ _ _ _ _ _ A5 n5 c5 W hB hW h5 hl5 hr5 (λr hr=>hs r (keep_mem hr)) (λr hr=>hw r (keep_mem hr)) hlv (Nat.le_trans (keep_len _ _ _ _) hl)
 s2:=λW hB hW=>by
  refine(ordProject W0 b vars names _ _ _ _ _ _ _ _ A2 n2 c2 W hB hW h2 hl2 hc2 hr2 (λr hr=>hw r (ans2_mem hr)) hlv (Nat.le_trans (ans2_len _ _ _ _ _) hl)).mono λe w' h=>?_
  show StepR W0 b (ans3 vars names nf fils keys rows).1 (ans3 vars names nf fils keys rows).2 _ (projN vars names) e w'
  unfold ans3
  by_cases hN:projN vars names=0
  ·rw[if_pos hN,hN];exact h.2 hN
  ·rw[if_neg hN];exact h.1 hN
 s3:=λW hB hW=>ordDistinct W0 hP b _ _ dist _ _ W hB hW (ans3_key (by omega) hw hk) (Nat.le_trans (ans3_len _ _ _ _ _ _) hl)
 s4:=λW hB hW=>by
  have hl9:(ans4 vars names nf fils keys dist rows).length<=1000000:=by
   unfold ans4
   split
   ·exact Nat.le_trans (once_len _) (Nat.le_trans (ans3_len _ _ _ _ _ _) hl)
   ·exact Nat.le_trans (ans3_len _ _ _ _ _ _) hl
  show Calls _ _ _ _ (StepI W0 b (ans3 vars names nf fils keys rows).1 (if off<0∨lim < -1 then ans4 vars names nf fils keys dist rows else cutL off lim (ans4 vars names nf fils keys dist rows)) _ (if off<0∨lim < -1 then 6 else 0))
  by_cases h:off<0∨lim < -1
  ·rw[if_pos h,if_pos h]
   exact ordCutNo W0 b _ _ _ _ _ _ _ _ off lim W hB hW h
  ·rw[if_neg h,if_neg h]
   exact ordCut W0 b _ _ _ _ _ _ _ _ off lim W hB hW (by omega) (by omega) hl9
section
variable {w:World} {A B:Option Addr} {n c m d:Nat} {vars:List ByteArray} {rows:List (List Tm)}
theorem topAnswer (T:TabAt w A B n c m d vars rows) (hR:rightT vars rows=true) (hC:CtxT w) (hP:PowV w) (hk:∀r∈rows,keyRow r) (hs:∀r∈rows,smallRow r) (names:List ByteArray) (nf:Nat) (fils:List (ExT nf)) (keys:List Ky) (b0 dist:Bool) (off lim:Int) (A2 A3 A4 A5:Option Addr) (n2 c2 n3 c3 n4 c4 n5 c5:Nat)
  (h2:names.length=n2) (hl2:n2<=1000000) (hc2:n2<=c2) (hr2:Rd w A2 (names.map Value.string)) (h4:fils.length=n4) (hl4:n4<=1000000) (hzf:∀x∈fils,szE nf x) (hr4:RdEs nf w A4 fils) (h5:keys.length=n5) (hl5:n5<=1000000) (hr5:RdKey w A5 keys) :
  Calls Tryz.prog 37 #[.agg #[.slice A n c,.slice B m d],.agg #[.bool b0,.bool dist,.slice A2 n2 c2,.slice A3 n3 c3,.slice A4 n4 c4,.slice A5 n5 c5,.int .i64 lim,.int .i64 off]] w (AnsR (firstE (ansEr vars names keys off lim) 0 5) (ansSt vars names nf fils keys dist off lim rows 5).2 w):=by
 have hlv:=T.hln
 have hl:=T.hlm
 rw[←T.hn]at hlv
 rw[←T.hm]at hl
 exact ordAnswer (ansSt vars names nf fils keys dist off lim rows) (ansEr vars names keys off lim) A B n c m d b0 dist A2 A3 A4 A5 n2 c2 n3 c3 n4 c4 n5 c5 lim off w T hR λW0 b hB =>
  ordSteps W0 (hC.step hB) (hP.step hB) b vars names nf fils keys b0 dist off lim rows A2 A4 A5 n2 c2 n4 c4 n5 c5 _ h2 hl2 hc2 (hr2.later hB) h4 hl4 hzf (RdEs.later hr4 hB) h5 hl5 (RdL.mono hr5 hB (λ_ _ _ h=>h)) hlv hl (right_rows hR) hk hs
theorem noAnswer (T:TabAt w A B n c m d vars rows) (hR:rightT vars rows=false) (b0 b1:Bool) (A2 A3 A4 A5:Option Addr) (n2 c2 n3 c3 n4 c4 n5 c5:Nat) (i6 i7:Int) :
  Calls Tryz.prog 37 #[.agg #[.slice A n c,.slice B m d],.agg #[.bool b0,.bool b1,.slice A2 n2 c2,.slice A3 n3 c3,.slice A4 n4 c4,.slice A5 n5 c5,.int .i64 i6,.int .i64 i7]] w (AnsR 2 [] w):=by
 obtain⟨W1,hW1⟩:∃W1:World,(w.alloc (.cells #[.slice A n c,.slice B m d] 25)).alloc (.cells #[.bool b0,.bool b1,.slice A2 n2 c2,.slice A3 n3 c3,.slice A4 n4 c4,.slice A5 n5 c5,.int .i64 i6,.int .i64 i7] 30)=W1:=⟨_,rfl⟩
 have hb1:Below w.heap.size w W1:=by rw[←hW1];exact blw
 have k0:W1.heap[w.heap.size]?=some (Obj.cells #[.slice A n c,.slice B m d] 25 (0,0)):=by rw[←hW1];exact heap_two_1 _ _ _
 have T1:=T.later hb1
 have hOn:=ordOnNo vars rows A B n c m d W1 T1.hn T1.hm T1.hln T1.hlm T1.hnc T1.hv T1.hr hR
 have HB1:=Lib.hid hb1
 have a0:W1.cell? ⟨w.heap.size,0,none⟩=some (.slice A n c):=by rw[World.cell?,k0];rfl
 have a1:W1.cell? ⟨w.heap.size,1,none⟩=some (.slice B m d):=by rw[World.cell?,k0];rfl
 clear T T1 hR hb1 k0
 go_enter Tryz.func37,Tryz.ntmps37
 go_wp2_with (first
  | (go_at_call 74;refine hOn.mono ?_;rintro e w2 ⟨rfl,hb2⟩;have HX:Hid (AnsR 2 [] w (.returned (.tuple #[.slice none 0 0,.int .i64 2])) w2):=⟨_,rfl,below_tr HB1.out hb2,(λh=>by cases h),λ_=>rfl⟩;clear hb2 hOn a0 a1)
  | fail)
 go_ret2
 exact HX.out
end
open Um
theorem run_neTm (a b:Tm) (W:World):(binOp .neq 76 (.agg #[.int .i64 a.k,.string a.x,.string a.l,.string a.y]) (.agg #[.int .i64 b.k,.string b.x,.string b.l,.string b.y])).run Tryz.prog W=.ok (.bool (!sameTm a b)) W:=by
 have h0:=Tryz.underlying76
 have h1:=Tryz.underlying74
 have h2:=Tryz.underlying9
 unfold sameTm
 simp only[go_sem,h0]
 cases e1:(a.k == b.k)
 ·simp[go_sem,h0,h1,h2,e1]
 cases e2:(a.x.toList == b.x.toList)
 ·simp[go_sem,h0,h1,h2,e1,e2]
 cases e3:(a.l.toList == b.l.toList)
 ·simp[go_sem,h0,h1,h2,e1,e2,e3]
 cases e4:(a.y.toList == b.y.toList)
 ·simp[go_sem,h0,h1,h2,e1,e2,e3,e4]
 simp[go_sem,h0,h1,h2,e1,e2,e3,e4]
open Lx
theorem same_drop {a b:List Tm} {k:Nat} {x z:Tm} (hx:a[k]?=some x) (hz:b[k]?=some z):(a.drop k=b.drop k↔x=z/\a.drop (k+1)=b.drop (k+1)):=by
 rw[drop_cons_of hx,drop_cons_of hz,List.cons.injEq]
end Go.Proofs.YtoejnneknpoanaaGreatDoor
