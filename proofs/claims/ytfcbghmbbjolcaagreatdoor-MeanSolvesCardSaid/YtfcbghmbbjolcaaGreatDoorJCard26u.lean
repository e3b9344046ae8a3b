/- The kit's lists of triples: lent, kept, written over. Layer -/
import Derived.Test.YtfcbghmbbjolcaaGreatDoorJMnL10
set_option maxHeartbeats 16000000
set_option maxRecDepth 100000
namespace Go.Proofs.YtfcbghmbbjolcaaGreatDoor
open Go Go.RowKit Um Fm Lx Tx
def jO (i:Int):Tp:=⟨⟨8000024+i,⟨#[]⟩,⟨#[]⟩,⟨#[]⟩⟩,zTm,zTm⟩
theorem CH (i:Int) (w:World) (h0:0<=i) (h1:i<=1000000) :
  Calls Tryz.prog 30 #[.int .i64 1,.int .i64 i] w λe w'=>e=.returned (.agg #[.int .i64 (8000024+i),.string ⟨#[]⟩,.string ⟨#[]⟩,.string ⟨#[]⟩,.int .i64 0,.string ⟨#[]⟩,.string ⟨#[]⟩,.string ⟨#[]⟩,.int .i64 0,.string ⟨#[]⟩,.string ⟨#[]⟩,.string ⟨#[]⟩])/\Below w.heap.size w w':=by
 have hm:=λW=>tX i W h0 h1
 generalize 8000024+i=s at *
 go_enter Tryz.func30,Tryz.ntmps30
 go_wp2_with (refine(hm _).mono ?_;rintro e w3 ⟨rfl,rfl⟩)
 exact bodyPost_ret (v:=.agg #[.int .i64 s,.string ⟨#[]⟩,.string ⟨#[]⟩,.string ⟨#[]⟩,.int .i64 0,.string ⟨#[]⟩,.string ⟨#[]⟩,.string ⟨#[]⟩,.int .i64 0,.string ⟨#[]⟩,.string ⟨#[]⟩,.string ⟨#[]⟩]) (by simp[results,Tryz.results30,go_sem]) rfl ⟨rfl,blw⟩
def Gk (l:List Tp) (w:World) (v i:Value) (wr:World):Prop:=∃k:Nat,k<=12/\i=.int .i64 k/\v=.slice (some ⟨w.heap.size,0,none⟩) (l.length+k) (l.length+12)/\wr.ownsRow w.heap.size 64 12 (.slice (some ⟨w.heap.size,0,none⟩) (l.length+k) (l.length+12)) (l.length+k) ((l++(List.range k).map (λj=>jO ((j:Nat):Int))).flatMap tpL)/\Below w.heap.size w wr
theorem tS (l:List Tp) (A:Option Addr) (c:Nat) (w:World) (hr:Rd w A (l.flatMap tpL)) (hl:l.length<=1048576) :
  Calls Tryz.prog 9 #[.slice A l.length c] w λe w'=>e=.returned (.slice (some ⟨w.heap.size,0,none⟩) l.length (l.length+12))/\bU 64 w' w.heap.size ((l++marksOf jO).flatMap tpL)/\Below w.heap.size w w':=by
 obtain⟨i,hi,hz,hsize,hby⟩:=info_parts fI
 have hby2:i.bytes*(l.length+12)<=281474976710656:=by rw[hby];omega
 have hn:(l.flatMap tpL).length=l.length*12:=bS _
 have h1:∀u∈l.flatMap tpL,u.oneCell'=true:=λu hu=>by obtain⟨t,_,ht⟩:=List.mem_flatMap.1 hu;exact mb t u ht
 have Hi:=Lib.hid hi
 have Hz:=Lib.hid hz
 have Hsize:=Lib.hid hsize
 clear hi hz hsize hby
 go_enter Tryz.func9,Tryz.ntmps9
 go_wp2_with (first
  | (at_make;refine wpList_make_own w rfl _ _ 22 rfl w.heap.size 64 i _ 12 Tryz.underlying22 Hi.out Hz.out Hsize.out .i64 .i64 _ (l.length+12) rfl rfl (by omega) hby2 (by unfold maxLen;omega) (Nat.le_refl _) ?_;intro w1 hown1 hg1;have hb1:Below w.heap.size w w1:=(Below.refl _ _).grown hg1 (Nat.le_refl _) (by simp))
  | (at_builtin;refine bw rfl rfl Tryz.underlying22 fI (by omega) rfl hown1 rfl (hr.of_belowL hb1) hn h1 (by omega) ?_;intro w2 hown2 hg2;have hb2:Below w.heap.size w w2:=hb1.grown hg2 hb1.size (by intro k hk;injection hk with hk;omega)))
 rw[Nat.zero_add,List.nil_append]at hown2
 go_loopw [3,4] (Gk l w) (λ_ i _=>12-(intOf i).toNat)
 case atStart=>exact⟨0,by omega,rfl,by simp,by simpa using hown2,hb2⟩
 case round =>
  clear hown2 hb2 hown1 hb1 hg1 hg2 hr hn h1
  obtain⟨k,hk,rfl,rfl,hown,hB⟩:=hrel
  by_cases hlt:k<12
  ·have hmk:=λW=>CH (k:Int) W (by omega) (by omega)
   have hms:(l++(List.range k).map (λj=>jO ((j:Nat):Int))).flatMap tpL++[.int .i64 (8000024+(k:Int)),.string ⟨#[]⟩,.string ⟨#[]⟩,.string ⟨#[]⟩,.int .i64 0,.string ⟨#[]⟩,.string ⟨#[]⟩,.string ⟨#[]⟩,.int .i64 0,.string ⟨#[]⟩,.string ⟨#[]⟩,.string ⟨#[]⟩]=(l++(List.range (k+1)).map (λj=>jO ((j:Nat):Int))).flatMap tpL:=by
    rw[List.range_succ];simp[List.map_append,List.flatMap_append,tpL,jO,zTm]
   have Hms:=Lib.hid hms
   clear hms
   generalize 8000024+(k:Int)=s at *
   go_wp2_with fail
   refine(hmk _).mono ?_
   rintro e w3 ⟨rfl,hb3⟩
   have hz:w.heap.size<=w3.heap.size:=Nat.le_trans hB.size hb3.size
   have hown3:=(own_below hown hb3 (Nat.le_refl _)).alloc (.cells #[.int .i64 s,.string ⟨#[]⟩,.string ⟨#[]⟩,.string ⟨#[]⟩,.int .i64 0,.string ⟨#[]⟩,.string ⟨#[]⟩,.string ⟨#[]⟩,.int .i64 0,.string ⟨#[]⟩,.string ⟨#[]⟩,.string ⟨#[]⟩] 64)
   go_wp2_with (at_builtin;refine bw rfl rfl Tryz.underlying22 fI (by omega) rfl hown3 rfl (Rd.of_block (heap_alloc_new w3 _) rfl) rfl (by intro u hu;simp only[List.mem_cons,List.not_mem_nil,or_false]at hu;rcases hu with rfl|rfl|rfl|rfl|rfl|rfl|rfl|rfl|rfl|rfl|rfl|rfl<;>rfl) (by omega) ?_;intro w4 hown4 hg4)
   have hb4:Below w.heap.size w w4:=((hB.trans (hb3.mono hB.size)).alloc hz _).grown hg4 (by simp;omega) (by intro k hk;injection hk with hk;omega)
   go_roundw
   case rel=>exact⟨k+1,by omega,by go_num,rfl,by rw[←Hms.out];exact hown4,hb4⟩
   case measure=>simp[intOf];omega
  ·have hk12:k=12:=by omega
   subst hk12
   have hfin:=bU.of_own hown
   have Hfin:=Lib.hid hfin
   clear hfin hown
   go_wp2
   go_ret
   exact⟨by simp,by first|exact Hfin.out|simpa[List.map_append,List.flatMap_append,marksOf] using Hfin.out,hB⟩
theorem bU.front {T:TypeId} {w:World} {g:Nat} {xs ys:List Value} (h:bU T w g (xs++ys)):Rd w (some ⟨g,0,none⟩) xs:=by
 rcases h.rd with h0|⟨b,o,hA,hc⟩
 ·exact .inl (by simp at h0;exact h0.1)
 ·exact .inr ⟨b,o,hA,λj u hu=>hc j u (by rw[List.getElem?_append_left (List.getElem?_eq_some_iff.1 hu).1];exact hu)⟩
theorem tZ (l:List Tp) (g:Nat) (A:Option Addr) (c:Nat) (w:World) (hg:bU 64 w g ((l++marksOf jO).flatMap tpL)) (hr:Rd w A (l.flatMap tpL)) (hl:l.length<=1048576) :
  Calls Tryz.prog 14 #[.slice (some ⟨g,0,none⟩) l.length (l.length+12),.slice A l.length c] w λe w'=>e=.returned (.bool true)/\Below w.heap.size w w':=by
 have hlm:(l++marksOf jO).length=l.length+12:=by simp[marksOf]
 go_enter Tryz.func14,Tryz.ntmps14
 go_wp2
 go_loopw [6] (λi wr=>∃k:Nat,k<=l.length+12/\i=.int .i64 k/\Below w.heap.size w wr) (λi _=>l.length+12-(intOf i).toNat)
 case atStart=>exact⟨0,by omega,rfl,Below.refl _ _⟩
 case round =>
  obtain⟨k,hk,rfl,hB⟩:=hrel
  by_cases hlt:k<l.length+12
  ·have hlt0:=hlt
   have hrd:=hg.rd.of_belowL hB
   have hrl:=hr.of_belowL hB
   clear hr hg
   by_cases hkn:k<l.length
   ·obtain⟨x,hx⟩:∃x,l[k]?=some x:=⟨_,List.getElem?_eq_getElem hkn⟩
    have hxm:(l++marksOf jO)[k]?=some x:=by rw[List.getElem?_append_left hkn];exact hx
    obtain⟨g0,o0,he0,c0,c1,c2,c3,c4,c5,c6,c7,c8,c9,c10,c11⟩:=f7 hrd hxm
    injection he0 with he0;injection he0 with h2 h3;subst h2;subst h3
    simp only[Nat.zero_add]at c0 c1 c2 c3 c4 c5 c6 c7 c8 c9 c10 c11
    obtain⟨g1,o1,rfl,d0,d1,d2,d3,d4,d5,d6,d7,d8,d9,d10,d11⟩:=f7 hrl hx
    have x0:∀d os,(Sort.grow (redrawn wr d) os).cell? ⟨g,k*12,none⟩=some (.int .i64 x.s.k):=λd os=>ac c0 (below_regrown wr d os)
    have x1:∀d os,(Sort.grow (redrawn wr d) os).cell? ⟨g,k*12+1,none⟩=some (.string x.s.x):=λd os=>ac c1 (below_regrown wr d os)
    have x2:∀d os,(Sort.grow (redrawn wr d) os).cell? ⟨g,k*12+2,none⟩=some (.string x.s.l):=λd os=>ac c2 (below_regrown wr d os)
    have x3:∀d os,(Sort.grow (redrawn wr d) os).cell? ⟨g,k*12+3,none⟩=some (.string x.s.y):=λd os=>ac c3 (below_regrown wr d os)
    have x4:∀d os,(Sort.grow (redrawn wr d) os).cell? ⟨g,k*12+4,none⟩=some (.int .i64 x.p.k):=λd os=>ac c4 (below_regrown wr d os)
    have x5:∀d os,(Sort.grow (redrawn wr d) os).cell? ⟨g,k*12+5,none⟩=some (.string x.p.x):=λd os=>ac c5 (below_regrown wr d os)
    have x6:∀d os,(Sort.grow (redrawn wr d) os).cell? ⟨g,k*12+6,none⟩=some (.string x.p.l):=λd os=>ac c6 (below_regrown wr d os)
    have x7:∀d os,(Sort.grow (redrawn wr d) os).cell? ⟨g,k*12+7,none⟩=some (.string x.p.y):=λd os=>ac c7 (below_regrown wr d os)
    have x8:∀d os,(Sort.grow (redrawn wr d) os).cell? ⟨g,k*12+8,none⟩=some (.int .i64 x.o.k):=λd os=>ac c8 (below_regrown wr d os)
    have x9:∀d os,(Sort.grow (redrawn wr d) os).cell? ⟨g,k*12+9,none⟩=some (.string x.o.x):=λd os=>ac c9 (below_regrown wr d os)
    have x10:∀d os,(Sort.grow (redrawn wr d) os).cell? ⟨g,k*12+10,none⟩=some (.string x.o.l):=λd os=>ac c10 (below_regrown wr d os)
    have x11:∀d os,(Sort.grow (redrawn wr d) os).cell? ⟨g,k*12+11,none⟩=some (.string x.o.y):=λd os=>ac c11 (below_regrown wr d os)
    have y0:∀d os,(Sort.grow (redrawn wr d) os).cell? ⟨g1,o1+k*12,none⟩=some (.int .i64 x.s.k):=λd os=>ac d0 (below_regrown wr d os)
    have y1:∀d os,(Sort.grow (redrawn wr d) os).cell? ⟨g1,o1+k*12+1,none⟩=some (.string x.s.x):=λd os=>ac d1 (below_regrown wr d os)
    have y2:∀d os,(Sort.grow (redrawn wr d) os).cell? ⟨g1,o1+k*12+2,none⟩=some (.string x.s.l):=λd os=>ac d2 (below_regrown wr d os)
    have y3:∀d os,(Sort.grow (redrawn wr d) os).cell? ⟨g1,o1+k*12+3,none⟩=some (.string x.s.y):=λd os=>ac d3 (below_regrown wr d os)
    have y4:∀d os,(Sort.grow (redrawn wr d) os).cell? ⟨g1,o1+k*12+4,none⟩=some (.int .i64 x.p.k):=λd os=>ac d4 (below_regrown wr d os)
    have y5:∀d os,(Sort.grow (redrawn wr d) os).cell? ⟨g1,o1+k*12+5,none⟩=some (.string x.p.x):=λd os=>ac d5 (below_regrown wr d os)
    have y6:∀d os,(Sort.grow (redrawn wr d) os).cell? ⟨g1,o1+k*12+6,none⟩=some (.string x.p.l):=λd os=>ac d6 (below_regrown wr d os)
    have y7:∀d os,(Sort.grow (redrawn wr d) os).cell? ⟨g1,o1+k*12+7,none⟩=some (.string x.p.y):=λd os=>ac d7 (below_regrown wr d os)
    have y8:∀d os,(Sort.grow (redrawn wr d) os).cell? ⟨g1,o1+k*12+8,none⟩=some (.int .i64 x.o.k):=λd os=>ac d8 (below_regrown wr d os)
    have y9:∀d os,(Sort.grow (redrawn wr d) os).cell? ⟨g1,o1+k*12+9,none⟩=some (.string x.o.x):=λd os=>ac d9 (below_regrown wr d os)
    have y10:∀d os,(Sort.grow (redrawn wr d) os).cell? ⟨g1,o1+k*12+10,none⟩=some (.string x.o.l):=λd os=>ac d10 (below_regrown wr d os)
    have y11:∀d os,(Sort.grow (redrawn wr d) os).cell? ⟨g1,o1+k*12+11,none⟩=some (.string x.o.y):=λd os=>ac d11 (below_regrown wr d os)
    have hself:=λW=>mO x x W
    rw[fO.2 rfl]at hself
    have hd1:decide ((k:Int)<(l.length:Int))=true:=by simp;omega
    have hd2:decide (l.length<=k)=false:=by simp;omega
    clear hx hxm hrd hrl hlm c0 c1 c2 c3 c4 c5 c6 c7 c8 c9 c10 c11 d0 d1 d2 d3 d4 d5 d6 d7 d8 d9 d10 d11
    go_wp2
    refine wrq ?_;(repeat (any_goals (go_big_quiet_step ((fail)))));all_goals (refine wqn ?_;intro d9 os9)
    go_wp2
    go_roundw
    case rel=>exact⟨k+1,by omega,by go_num,blw⟩
    case measure=>simp[intOf];omega
   ·have hmk:=λW=>CH ((k:Int)-l.length) W (by omega) (by omega)
    have hxm:(l++marksOf jO)[k]?=some (jO ((k:Int)-l.length)):=nQ _ _ _ (by omega) hlt
    obtain⟨g0,o0,he0,c0,c1,c2,c3,c4,c5,c6,c7,c8,c9,c10,c11⟩:=f7 hrd hxm
    injection he0 with he0;injection he0 with h2 h3;subst h2;subst h3
    simp only[Nat.zero_add]at c0 c1 c2 c3 c4 c5 c6 c7 c8 c9 c10 c11
    have hself:=λW=>mO (jO ((k:Int)-l.length)) (jO ((k:Int)-l.length)) W
    rw[fO.2 rfl]at hself
    simp only[jO,zTm]at hself hmk c0 c1 c2 c3 c4 c5 c6 c7 c8 c9 c10 c11
    generalize 8000024+((k:Int)-l.length)=s at *
    have x0:∀d os,(Sort.grow (redrawn wr d) os).cell? ⟨g,k*12,none⟩=some (.int .i64 s):=λd os=>ac c0 (below_regrown wr d os)
    have x1:∀d os,(Sort.grow (redrawn wr d) os).cell? ⟨g,k*12+1,none⟩=some (.string ⟨#[]⟩):=λd os=>ac c1 (below_regrown wr d os)
    have x2:∀d os,(Sort.grow (redrawn wr d) os).cell? ⟨g,k*12+2,none⟩=some (.string ⟨#[]⟩):=λd os=>ac c2 (below_regrown wr d os)
    have x3:∀d os,(Sort.grow (redrawn wr d) os).cell? ⟨g,k*12+3,none⟩=some (.string ⟨#[]⟩):=λd os=>ac c3 (below_regrown wr d os)
    have x4:∀d os,(Sort.grow (redrawn wr d) os).cell? ⟨g,k*12+4,none⟩=some (.int .i64 0):=λd os=>ac c4 (below_regrown wr d os)
    have x5:∀d os,(Sort.grow (redrawn wr d) os).cell? ⟨g,k*12+5,none⟩=some (.string ⟨#[]⟩):=λd os=>ac c5 (below_regrown wr d os)
    have x6:∀d os,(Sort.grow (redrawn wr d) os).cell? ⟨g,k*12+6,none⟩=some (.string ⟨#[]⟩):=λd os=>ac c6 (below_regrown wr d os)
    have x7:∀d os,(Sort.grow (redrawn wr d) os).cell? ⟨g,k*12+7,none⟩=some (.string ⟨#[]⟩):=λd os=>ac c7 (below_regrown wr d os)
    have x8:∀d os,(Sort.grow (redrawn wr d) os).cell? ⟨g,k*12+8,none⟩=some (.int .i64 0):=λd os=>ac c8 (below_regrown wr d os)
    have x9:∀d os,(Sort.grow (redrawn wr d) os).cell? ⟨g,k*12+9,none⟩=some (.string ⟨#[]⟩):=λd os=>ac c9 (below_regrown wr d os)
    have x10:∀d os,(Sort.grow (redrawn wr d) os).cell? ⟨g,k*12+10,none⟩=some (.string ⟨#[]⟩):=λd os=>ac c10 (below_regrown wr d os)
    have x11:∀d os,(Sort.grow (redrawn wr d) os).cell? ⟨g,k*12+11,none⟩=some (.string ⟨#[]⟩):=λd os=>ac c11 (below_regrown wr d os)
    have hd1:decide ((k:Int)<(l.length:Int))=false:=by simp;omega
    have hd2:decide (l.length<=k)=true:=by simp;omega
    have e1:IntKind.i64.wrap ((k:Int)-l.length)=(k:Int)-l.length:=IntWalk.i64_in _ (by omega)
    clear hxm hrd hrl hlm c0 c1 c2 c3 c4 c5 c6 c7 c8 c9 c10 c11
    go_wp2
    refine wrq ?_;(repeat (any_goals (go_big_quiet_step ((go_at_call 30;exact Calls.regrown_of (hmk _))))));all_goals (refine wqn ?_;intro d9 os9)
    go_wp2
    go_roundw
    case rel=>exact⟨k+1,by omega,by go_num,blw⟩
    case measure=>simp[intOf];omega
  ·go_wp2
   go_ret
   exact⟨rfl,hB⟩
open Go.Maps Go.ChangeMaps Go.Shelf Mt Om Mv Mn Mp
theorem bI.flat {w:World} {A:Option Addr} {l:List Pat} (h:bI w A l):Rd w A (l.flatMap cPat):=by
 obtain⟨xs,h1,h2⟩:=h
 rw[←h2.flat];exact h1
theorem bI.of {w:World} {A:Option Addr} {l:List Pat} (h:Rd w A (l.flatMap cPat)):bI w A l:=⟨_,h,All.of_flat l λ_ _=>rfl⟩
theorem qC (set:List Tp) (pats:List Pat) (k:Nat):gS set pats k=((List.range k).map λi=>(((bi set (pats.take (i+1))).length:Nat):Int)).map (Value.int .i64):=by
 unfold gS
 rw[List.map_map];rfl
def uR (B0 g1 g2:Nat) (set:List Tp) (pats:List Pat) (w:World):Prop:=bU 64 w g1 ((set++marksOf jO).flatMap tpL)/\bU 72 w g2 ((pats++marksOf kC).flatMap cPat)/\g1<B0/\g2<B0/\B0<=w.heap.size
theorem uR.on {B0 g1 g2:Nat} {set:List Tp} {pats:List Pat} {w w':World} (h:uR B0 g1 g2 set pats w) (hb:Below B0 w w'):uR B0 g1 g2 set pats w':=
 ⟨h.1.below hb h.2.2.1,h.2.1.below hb h.2.2.2.1,h.2.2.1,h.2.2.2.1,Nat.le_trans h.2.2.2.2 hb.size⟩
theorem uR.rs {B0 g1 g2:Nat} {set:List Tp} {pats:List Pat} {w:World} (h:uR B0 g1 g2 set pats w):Rd w (some ⟨g1,0,none⟩) (set.flatMap tpL):=by
 have:=h.1
 rw[List.flatMap_append]at this
 exact this.front
theorem uR.rp {B0 g1 g2:Nat} {set:List Tp} {pats:List Pat} {w:World} (h:uR B0 g1 g2 set pats w):bI w (some ⟨g2,0,none⟩) pats:=by
 have:=h.2.1
 rw[List.flatMap_append]at this
 exact bI.of this.front
theorem pp (set:List Tp) (pats:List Pat) (As Ap:Option Addr) (N cs M cp:Nat) (w:World) (hN:set.length=N) (hM:pats.length=M) (hC:cD w) (hls:N<=281474976710656) (hlM:M<=281474976710656) (_hcs:N<=cs) (hcp:M<=cp) (hz:∀t∈set,Gs t) (hs:Rd w As (set.flatMap tpL)) (hp:bI w Ap pats) :
  Calls Tryz.prog 4 #[.slice As N cs,.slice Ap M cp] w λe w'=>e=.returned (.bool true)/\Below w.heap.size w w':=by
 obtain⟨s1,e1⟩:∃s,fD set N=s:=⟨_,rfl⟩
 obtain⟨hv,e3⟩:∃b,fm set pats 1=b:=⟨_,rfl⟩
 have H:=Lib.hid (And.intro hN (And.intro hM (And.intro hC (And.intro hz (And.intro hs hp)))))
 clear hN hM hC hz hs hp
 go_enter Tryz.func4,Tryz.ntmps4
 go_upto_region 1 with fail
 go_cut [27] from 12 to 26 (λs wx=>∃b:Bool,s=.bool b/\Hid (b=false->N+M<=200/\s1<=3000/\hv=false)/\Hid (Below w.heap.size w wx))
 case first =>
  by_cases h200:200<N+M
  ·have hd:decide ((200:Int)<(N:Int)+(M:Int))=true:=decide_eq_true (by omega)
   have hd2:decide (200<N+M)=true:=decide_eq_true h200
   go_wp2_with fail
   go_meet
   case rel=>exact⟨true,rfl,λh=>(by cases h),Below.refl _ _⟩
  ·have hd:decide ((200:Int)<(N:Int)+(M:Int))=false:=decide_eq_false (by omega)
   have hd2:decide (200<N+M)=false:=decide_eq_false h200
   have hsz:Calls Tryz.prog 5 #[.slice As N cs] w λe w'=>e=.returned (.int .i64 (s1:Nat))/\Below w.heap.size w w':=by
    obtain⟨hN,hM,hC,hz,hs,hp⟩:=H.out
    have h1:=I3 set As cs w (by rw[hN];exact hls) hz hs
    rw[hN,e1]at h1
    exact h1
   by_cases h3:3000<s1
   ·have he:decide ((3000:Int)<(s1:Int))=true:=decide_eq_true (by omega)
    have he2:decide (3000<s1)=true:=decide_eq_true h3
    go_wp2_with (go_at_call 5;refine hsz.mono ?_;rintro e w2 ⟨rfl,b2⟩)
    go_meet
    case rel=>exact⟨true,rfl,λh=>(by cases h),b2⟩
   ·have he:decide ((3000:Int)<(s1:Int))=false:=decide_eq_false (by omega)
    have he2:decide (3000<s1)=false:=decide_eq_false h3
    have hhf:∀w2,Below w.heap.size w w2->Calls Tryz.prog 7 #[.slice As N cs,.slice Ap M cp] w2 λe w'=>e=.returned (.bool hv)/\Below w2.heap.size w2 w':=λw2 b2=>by
     obtain⟨hN,hM,hC,hz,hs,hp⟩:=H.out
     have h1:=Fq set pats As Ap cs cp w2 (by omega) (by omega) (hs.later b2) (RdL.mono hp b2 λ_ _ _ h=>h)
     rw[hN,hM,e3]at h1
     exact h1
    go_wp2_with (first
     | (go_at_call 5;refine hsz.mono ?_;rintro e w2 ⟨rfl,b2⟩;have hhv:=hhf w2 b2;clear hhf hsz)
     | (go_at_call 7;refine hhv.mono ?_;rintro e w4 ⟨rfl,b4⟩))
    go_meet
    case rel=>exact⟨hv,rfl,λh=>⟨by omega,by omega,h⟩,aa b2 b4⟩
 case rest =>
  obtain⟨b9,rfl,hf9,hc9⟩:=hcut
  cases b9
  case true =>
   have hawk:=xF wc (H.out.2.2.1.step hc9.out)
   go_wp2_with (go_at_call 8;refine hawk.mono ?_;rintro e w1 ⟨rfl,bq1⟩)
   go_ret
   exact⟨rfl,aa hc9.out bq1⟩
  case false =>
  obtain⟨h200,h3,rfl⟩:=hf9.out rfl
  obtain⟨hN,hM,hC,hz,hs,hp⟩:=H.out
  have hz1:∀t∈set,cQ t:=iX (n:=N) (by rw[e1];exact h3)
  have hNp:aP set pats<=1500:=Df e3
  have hl1:=qt (tS set As cs wc (hs.later hc9.out) (by omega))
  have hl2:=λW (h:Below wc.heap.size wc W)=>qt (rq pats Ap cp W ((bI.flat hp).later (aa hc9.out h)) (by omega))
  rw[hN]at hl1
  simp only[hM]at hl2
  have HF:=Lib.hid (And.intro hz1 hNp)
  clear hN hM hC hz hs hp hz1 hNp hf9 e1 e3 h3
  go_upto_region 4 with (first
   | (go_at_call 9;refine hl1.mono ?_;rintro e w1 ⟨g1,rfl,hg1,hB1,b1⟩;have hl2':=hl2 w1 b1;have HB1:=Lib.hid (And.intro hB1 b1);clear hl1 hl2 hB1 b1)
   | (go_at_call 16;refine hl2'.mono ?_;rintro e w2 ⟨g2,rfl,hg2,hB2,b2⟩))
  have hT2:uR w2.heap.size g1 g2 set pats w2:=⟨HB1.out.1.below b2 HB1.out.1.lt,hB2,Nat.lt_of_lt_of_le HB1.out.1.lt b2.size,hB2.lt,Nat.le_refl _⟩
  have HT2:=Lib.hid hT2
  have HW2:=Lib.hid (aa hc9.out (aa HB1.out.2 b2))
  clear hT2 hB2 b2 hg2 hg1 HB1 hc9
  obtain⟨hN,hM,hC,hz,hs,hp⟩:=H.out
  have hSo:=fS set pats (some ⟨g1,0,none⟩) (some ⟨g2,0,none⟩) (N+12) (M+12) w2 (hC.step HW2.out) (by omega) (by omega) HF.out.1 HT2.out.rs HT2.out.rp HF.out.2
  rw[hN,hM]at hSo
  clear hN hM hC hz hs hp
  go_upto_region 5 with (go_at_call 17;refine hSo.mono ?_;rintro e w3 ⟨vv,vr,rfl,ho3,hrs3,b3⟩)
  have HT3:=Lib.hid (HT2.out.on b3)
  obtain⟨hN,hM,hC,hz,hs,hp⟩:=H.out
  have hRe:=lB set pats As Ap N cs M cp w3 hN hM (by omega) (by omega) HF.out.1 (hs.later (aa HW2.out b3)) (RdL.mono hp (aa HW2.out b3) λ_ _ _ h=>h) HF.out.2
  obtain⟨Ar,cr,rfl,hcr,hsh3,hrr3⟩:=hrs3.shp
  obtain⟨Av,cv,rfl,hcv,hrv3⟩:=own_slice ho3
  have HO3:=Lib.hid (And.intro b3 (And.intro hsh3 (And.intro hrr3 hrv3)))
  clear hN hM hC hz hs hp hSo ho3 hrs3 b3 hsh3 hrr3 hrv3
  go_upto_region 6 with (go_at_call 18;refine hRe.mono ?_;rintro e w4 ⟨vw,A4,c4,rfl,ho4,hc4,hr4,b4⟩)
  obtain⟨Aw,cw,rfl,hcw,hrw4⟩:=own_slice ho4
  have hlv:=fu pats
  have hlr:=sO set pats
  obtain⟨hN,hM,hC,hz,hs,hp⟩:=H.out
  have hNp:=HF.out.2
  have hSv:=pO (ae pats) (ae pats) Av Aw cv cw w4 (HO3.out.2.2.2.later b4) hrw4 (by omega) (by omega)
  rw[show eB (ae pats) (ae pats)=true from (by unfold eB;simp)]at hSv
  have hrow:=λr (hr:r∈bi set pats)=>mI hr
  have hSr:=λW (h:Below w4.heap.size w4 W)=>gJ (bi set pats) (bi set pats) Ar A4 cr c4 (bi set pats).length (bi set pats).length W rfl rfl (by omega) (by omega) (λr hr=>by rw[hrow r hr];omega) (λr hr=>by rw[hrow r hr];omega) (RdRs.later (RdRs.later HO3.out.2.2.1 b4) h) (hr4.later h)
  simp only[decide_true]at hSr
  have HT4:=Lib.hid (HT3.out.on (b4.mono HT3.out.2.2.2.2))
  have HW4:=Lib.hid (aa HW2.out (aa HO3.out.1 b4))
  have hMc:=λW (h:Below w4.heap.size w4 W)=>Ft set pats (some ⟨g1,0,none⟩) (some ⟨g2,0,none⟩) (N+12) (M+12) W (hC.step (aa HW4.out h)) (by omega) (by omega) (by omega) (by unfold maxLen;omega) HF.out.1 (HT4.out.on (h.mono HT4.out.2.2.2.2)).rs (HT4.out.on (h.mono HT4.out.2.2.2.2)).rp HF.out.2
  simp only[hN,hM]at hMc
  have hRc:=λW (h:Below w4.heap.size w4 W)=>Cr set pats As Ap N cs M cp W hN hM (by omega) (by omega) hcp HF.out.1 (hs.later (aa HW4.out h)) (RdL.mono hp (aa HW4.out h) λ_ _ _ h=>h) HF.out.2
  have HSH:=Lib.hid (And.intro (b4.mono (Nat.le_refl _)) (And.intro HO3.out.2.1 HO3.out.1.size))
  obtain⟨nv,hnv⟩:∃n,(ae pats).length=n:=⟨_,rfl⟩
  obtain⟨nr,hnr⟩:∃n,(bi set pats).length=n:=⟨_,rfl⟩
  have hlr9:nr<=1500:=by omega
  have hwid:Hid (∀r∈bi set pats,r.length<=900000):=λr hr=>by rw[hrow r hr];omega
  simp only[hnv]at hSv
  simp only[hnr]at hSr
  simp only[hnv,hnr]
  have HNR:=Lib.hid hnr
  clear hN hM hC hz hs hp hNp hRe ho4 hr4 hrw4 hlv hlr hrow hnv hnr hcr hcv hcw hc4
  go_wp2_with (first
   | (go_at_call 19;refine hSv.mono ?_;rintro e w5 ⟨rfl,b5⟩;have hSr5:=hSr w5 b5;clear hSr hSv)
   | (go_at_call 13;refine hSr5.mono ?_;rintro e w6 ⟨rfl,b6⟩;have hMc6:=hMc w6 (aa b5 b6);clear hMc hSr5)
   | (go_at_call 21;refine hMc6.mono ?_;rintro e w7 ⟨v7,rfl,ho7,b7⟩;have hRc7:=hRc w7 (aa b5 (aa b6 b7));obtain⟨A7,c7,rfl,_,hr7⟩:=own_slice ho7;rw[qC]at hr7;clear hRc hMc6 ho7)
   | (go_at_call 22;refine hRc7.mono ?_;rintro e w8 ⟨v8,rfl,ho8,b8⟩;obtain⟨A8,c8,rfl,_,hr8⟩:=own_slice ho8;rw[qC]at hr8;have hSi:=Bu _ _ A7 A8 c7 c8 w8 (hr7.later b8) hr8 (by rw[List.length_map,List.length_range];omega) (by rw[List.length_map,List.length_range];omega);simp only[decide_true,List.length_map,List.length_range]at hSi;clear hRc7 ho8 hr7 hr8)
   | (go_at_call 20;refine hSi.mono ?_;rintro e w9 ⟨rfl,b9⟩;have HB9:=Lib.hid (aa b5 (aa b6 (aa b7 (aa b8 b9))));clear hSi b5 b6 b7 b8 b9))
  have hS9:br w2.heap.size w3 w9:=br.below HSH.out.2.2 (aa HSH.out.1 HB9.out)
  have HS9:=Lib.hid hS9
  clear hS9
  go_loopw [11] (λi wr=>∃k:Nat,k<=nr/\i=.int .i64 k/\Hid (br w2.heap.size w3 wr)) (λi _=>nr-(intOf i).toNat)
  case atStart=>exact⟨0,by omega,rfl,HS9⟩
  case round =>
   clear HS9
   obtain⟨k,hk,rfl,HS⟩:=hrel
   by_cases hlt:k<nr
   ·obtain⟨row,hrow⟩:∃row,(bi set pats)[k]?=some row:=⟨_,List.getElem?_eq_getElem (by rw[HNR.out];exact hlt)⟩
    obtain⟨g,o,v,rfl,hcell,hO⟩:=(HSH.out.2.1.on HS.out).at_ hrow
    have hCo:=EV hO (hwid.out row (List.mem_of_getElem? hrow))
    obtain⟨A8,n8,c8,rfl⟩:∃A n c,v=.slice A n c:=by
     rcases hO with h|⟨g5,cap5,h,_⟩
     ·injection h with h;exact⟨_,_,_,h⟩
     ·injection h with h;exact⟨_,_,_,h⟩
    clear hrow hO
    go_wp2_with (go_at_call 23;refine hCo.mono ?_;rintro e w9 ⟨⟨v,rfl⟩,hS3⟩;have HS3:=Lib.hid (HS.out.trans hS3);clear hS3 hCo hcell)
    go_roundw
    case rel=>exact⟨k+1,by omega,by go_num,HS3⟩
    case measure=>simp[intOf];omega
   ·obtain⟨X,hX⟩:∃X,X=wr:=⟨_,rfl⟩
    subst hX
    have HTx:=Lib.hid (HT3.out.on HS.out.1)
    have HBx:=Lib.hid (aa HW2.out (HO3.out.1.trans HS.out.1))
    clear HS
    obtain⟨hN,hM,hC,hz,hs,hp⟩:=H.out
    have hK1:=tZ set g1 As cs X HTx.out.1 (hs.later HBx.out) (by omega)
    have hK2:=λW (h:Below X.heap.size X W)=>ry pats g2 Ap cp W (HTx.out.2.1.below h (HTx.out.2.1.lt)) ((bI.flat hp).later (aa HBx.out h)) (by omega)
    have hAw:=λW (h:Below X.heap.size X W)=>xF W (hC.step (aa HBx.out h))
    rw[hN]at hK1
    simp only[hM]at hK2
    clear hN hM hC hz hs hp
    go_wp2_with (first
     | (go_at_call 14;refine hK1.mono ?_;rintro e u1 ⟨rfl,d1⟩;have hK2':=hK2 u1 d1;clear hK1 hK2)
     | (go_at_call 24;refine hK2'.mono ?_;rintro e u2 ⟨rfl,d2⟩;have hAw2:=hAw u2 (aa d1 d2);clear hK2' hAw)
     | (go_at_call 8;refine hAw2.mono ?_;rintro e u3 ⟨rfl,d3⟩))
    go_ret
    exact⟨rfl,aa HBx.out (aa d1 (aa d2 d3))⟩
def tY (P:Program) (fn:Func) (c:OpenClaim):Bool:=
 c.kinds == (if c.domain.isEmpty then [] else fn.params.toList.map λt=>match P.underlying t with|some (.int k)=>some k|_=>none)
theorem rz {P:Program} {f:FuncId} {fn:Func} {s:ChangeSpec} {c:OpenClaim}
  (k1:c.wf (OpenSpec.ofChange s)=true) (k2:laidOutB P=true) (k3:mapsRowed P=true)
  (k4:fn.params.all (P.readableRec ·)=true) (k5:namedTie P c.named s.vars=true)
  (k6:(c.stops == [])=true) (k7:(P.stops == [])=true) (k8:(c.knobs == [])=true) (k9:(P.stopKnobs == [])=true)
  (k10:(c.inPlace == P.inPlace f)=true) (k11:(c.unfollowed == P.unfollowed f)=true) (k12:(c.recurses == P.recurses f)=true) (k13:(c.named == P.varsNamed f)=true)
  (k14:(c.maps == (fn.params.toList++s.plain.varTypes P).any (P.mapsRec ·))=true) (k15:(c.ifaces == (fn.params.toList++s.plain.varTypes P).any (P.ifacesRec ·))=true) (k16:(c.mapsOut == P.mapsAmong fn.resultTypes.toList)=true)
  (k17:(c.loops == (fn.params.toList++s.plain.varTypes P).any (P.loopsFrom ·))=true) (k18:(c.wideKeys == (fn.params.toList++s.plain.varTypes P++fn.resultTypes.toList).any (P.wideKeysFrom ·))=true)
  (k19:s.vars.all (P.varReadable ·)=true) (k20:fn.resultTypes.all (λt=>P.readableRec t && decide (t<P.types.size))=true) (k21:(c.ifacesOut == fn.resultTypes.toList.any (P.ifacesRec ·))=true) (k22:(c.loopsOut == fn.resultTypes.toList.any (P.loopsFrom ·))=true)
  (k23:(c.plainKeys == P.plainKeys)=true) (k24:c.shortTexts.isNone=true) (k25:P.stopsHeard=true) (k26:P.mayEnter=true) (k27:(c.lifted == P.liftsFinal)=true) (k28:(P.make == some c.make)=true)
  (k29:tY P fn c=true) (k30:(c.pinned == c.pinnedBy)=true)
  (k31:(c.veiled == (fn.params.toList++s.plain.varTypes P++fn.resultTypes.toList).any (P.veiledRec ·))=true) (k32:c.veiledFits P fn.params.toList (fn.params.toList++s.plain.varTypes P++fn.resultTypes.toList)=true) :
  joinedFacts P f fn s c=true:=by
 simp only[joinedFacts,Bool.and_eq_true]
 exact⟨⟨⟨⟨⟨⟨⟨⟨⟨⟨⟨⟨⟨⟨⟨⟨⟨⟨⟨⟨⟨⟨⟨⟨⟨⟨⟨⟨⟨⟨⟨k1,k2⟩,k3⟩,k4⟩,k5⟩,k6⟩,k7⟩,k8⟩,k9⟩,k10⟩,k11⟩,k12⟩,k13⟩,k14⟩,k15⟩,k16⟩,k17⟩,k18⟩,k19⟩,k20⟩,k21⟩,k22⟩,k23⟩,k24⟩,k25⟩,k26⟩,k27⟩,k28⟩,k29⟩,k30⟩,k31⟩,k32⟩
open Go.ChangeShapes Go.WideShapes Go.ChangeAt Go.Lib
open Go.ChangeMaps (open_string shut_string)
open Fm Tx in
theorem nU (set:List Tp) (As:Option Addr) (cs:Nat) (pats:List Pat) (Ap:Option Addr) (cp:Nat) (w:World) (hC:cD w) (hcs:set.length<=cs) (hrs:RdL 12 (λcs (t:Tp)=>cs=(tpC t).toList) w As set) (hls:set.length<=837723144947) (hz:∀t∈set,wh t)
  (hcp:pats.length<=cp) (hrp:bI w Ap pats) (hlp:pats.length<=651562446070) (_:∀p∈pats,szPw p) :
  Calls Tryz.prog 4 #[.slice As set.length cs,.slice Ap pats.length cp] w λe w'=>e=.returned (.bool true)/\Below w.heap.size w w':=by
 obtain⟨xs,h1,h2⟩:=hrs
 have e:xs=set.flatMap tpL:=h2.flat
 subst e
 exact pp set pats As Ap _ cs _ cp w rfl rfl hC (by omega) (by omega) hcs hcp hz h1 hrp
theorem je (os:Os) {H:Type} (enc:TypeId × Value->H) :
  (OpenSpec.ofChange Rows.meanSolvesSpec).preRow enc Tryz.prog Tryz.f4 Rows.meanSolvesRow.domain false Rows.meanSolvesRow.laid ((fH os).forCall (λ_ _=>0) ⟨#[],#[.slice none 0 0,.slice none 0 0],[]⟩).memory #[.slice none 0 0,.slice none 0 0]:=by
 have hw:(DataW.whole enc Tryz.prog ((fH os).forCall (λ_ _=>0) ⟨#[],#[.slice none 0 0,.slice none 0 0],[]⟩).memory Tryz.f4.params.toList Rows.meanSolvesSpec.vars false (#[Value.slice none 0 0,Value.slice none 0 0]:Array Value).toList 8).map (λx=>(x.1,x.2.1)) =
   some ([.nil,.nil],[]):=by kernel_rfl
 obtain⟨⟨x1,x2,x3⟩,hx,hx1⟩:=Option.map_eq_some_iff.1 hw
 simp only[Prod.mk.injEq]at hx1
 obtain⟨rfl,rfl⟩:=hx1
 exact OpenSpec.preRow_of_cond 8 hx (by kernel_rfl) (λk hk=>by cases hk) (by kernel_rfl) (CV os _)
theorem jQ (os:Os) (started:os.Started) (H:Type) (enc:TypeId × Value->H) (F:Stop.Interp) :
  ReturnsInHanded {} Tryz.checked os 4 .any ((OpenSpec.ofChange Rows.meanSolvesSpec).preRow enc Tryz.prog Tryz.f4 Rows.meanSolvesRow.domain false Rows.meanSolvesRow.laid) (((OpenSpec.ofChange Rows.meanSolvesSpec).at F).post enc Tryz.prog Tryz.f4 false true false false):=by
 refine returnsInHanded_of_row (C:=Tryz.checked) (s:=OpenSpec.ofChange Rows.meanSolvesSpec) own started (by kernel_rfl) Tryz.func4
  (witness_row_atRef (enc:=enc) (C:=Tryz.checked) false (fH os) #[.slice none 0 0,.slice none 0 0] rfl (by kernel_rfl) (by kernel_rfl) (by kernel_rfl) (je os enc)) ?_
 intro W base args ds gs before hval0 hW _ _ hreach hL hsh _
 have hW':=hW
 have hval:∀(j:Nat) t v,Tryz.f4.params[j]?=some t->args[j]?=some v->Value.okWide Tryz.prog W .any base t v:=hval0
 obtain⟨p,q,hA0,hV0,rfl,_,_⟩:=hW
 have hA:DataW.TrodAll enc Tryz.prog W 0 (λ_=>true) true Tryz.f4.params.toList args.toList ds p:=hA0
 rw[Tryz.params4]at hA hval
 obtain⟨v0,vs0,d0,ds0,p0,q0,hargs,rfl,rfl,h0,r0⟩:=trodAll_cons hA
 obtain⟨v1,vs1,d1,ds1,p1,q1,rfl,rfl,rfl,h1,r1⟩:=trodAll_cons r0
 obtain⟨rfl,rfl,rfl⟩:=trodAll_nil r1
 obtain rfl:args=#[v0,v1]:=by cases args;simp_all
 obtain⟨rfl,rfl⟩:=trodVars_none hV0
 obtain⟨l0,A0,c0,rfl,hc0,hrd0,hl0,hz0⟩:=Ot.arg_trips (hval 0 _ v0 rfl rfl) h0 (Ot.sized_arg hreach (j:=0) rfl rfl)
 obtain⟨l1,A1,c1,rfl,hc1,hrd1,hl1,hz1⟩:=Wd.arg_pats (hval 1 _ v1 rfl rfl) h1 (Ot.sized_arg hreach (j:=1) rfl rfl)
 refine(nU l0 A0 c0 l1 A1 c1 W (Iu hL hsh) hc0 hrd0 hl0 hz0 hc1 hrd1 hl1 hz1).mono ?_
 rintro e W' ⟨rfl,bel⟩
 exact⟨_,rfl,zj (tb:=4) laidOut (by kernel_rfl) (by kernel_rfl) Tryz.underlying4 rfl hW' rfl bel⟩
theorem po:Rows.meanSolvesRow.wf (OpenSpec.ofChange Rows.meanSolvesSpec)=true:=by kernel_rfl
theorem pn:laidOutB Tryz.pinned.checked.prog=true:=by kernel_rfl
theorem pm:mapsRowed Tryz.pinned.checked.prog=true:=by kernel_rfl
theorem pj:Tryz.f4.params.all (Tryz.pinned.checked.prog.readableRec ·)=true:=by kernel_rfl
theorem pi:namedTie Tryz.pinned.checked.prog Rows.meanSolvesRow.named Rows.meanSolvesSpec.vars=true:=by kernel_rfl
theorem pg:(Rows.meanSolvesRow.stops == [])=true:=by kernel_rfl
theorem pf:(Tryz.pinned.checked.prog.stops == [])=true:=by kernel_rfl
theorem pe:(Rows.meanSolvesRow.knobs == [])=true:=by kernel_rfl
theorem pd:(Tryz.pinned.checked.prog.stopKnobs == [])=true:=by kernel_rfl
theorem nP:(Rows.meanSolvesRow.inPlace == Tryz.pinned.checked.prog.inPlace 4)=true:=by kernel_rfl
theorem nO:(Rows.meanSolvesRow.unfollowed == Tryz.pinned.checked.prog.unfollowed 4)=true:=by kernel_rfl
theorem nN:(Rows.meanSolvesRow.recurses == Tryz.pinned.checked.prog.recurses 4)=true:=by kernel_rfl
theorem nM:(Rows.meanSolvesRow.named == Tryz.pinned.checked.prog.varsNamed 4)=true:=by kernel_rfl
theorem nL:(Rows.meanSolvesRow.maps == (Tryz.f4.params.toList++Rows.meanSolvesSpec.plain.varTypes Tryz.pinned.checked.prog).any (Tryz.pinned.checked.prog.mapsRec ·))=true:=by kernel_rfl
theorem nK:(Rows.meanSolvesRow.ifaces == (Tryz.f4.params.toList++Rows.meanSolvesSpec.plain.varTypes Tryz.pinned.checked.prog).any (Tryz.pinned.checked.prog.ifacesRec ·))=true:=by kernel_rfl
theorem nJ:(Rows.meanSolvesRow.mapsOut == Tryz.pinned.checked.prog.mapsAmong Tryz.f4.resultTypes.toList)=true:=by kernel_rfl
theorem nI:(Rows.meanSolvesRow.loops == (Tryz.f4.params.toList++Rows.meanSolvesSpec.plain.varTypes Tryz.pinned.checked.prog).any (Tryz.pinned.checked.prog.loopsFrom ·))=true:=by kernel_rfl
theorem nH:(Rows.meanSolvesRow.wideKeys == (Tryz.f4.params.toList++Rows.meanSolvesSpec.plain.varTypes Tryz.pinned.checked.prog++Tryz.f4.resultTypes.toList).any (Tryz.pinned.checked.prog.wideKeysFrom ·))=true:=by kernel_rfl
theorem nG:Rows.meanSolvesSpec.vars.all (Tryz.pinned.checked.prog.varReadable ·)=true:=by kernel_rfl
theorem nF:Tryz.f4.resultTypes.all (λt=>Tryz.pinned.checked.prog.readableRec t && decide (t<Tryz.pinned.checked.prog.types.size))=true:=by kernel_rfl
theorem nE:(Rows.meanSolvesRow.ifacesOut == Tryz.f4.resultTypes.toList.any (Tryz.pinned.checked.prog.ifacesRec ·))=true:=by kernel_rfl
theorem nD:(Rows.meanSolvesRow.loopsOut == Tryz.f4.resultTypes.toList.any (Tryz.pinned.checked.prog.loopsFrom ·))=true:=by kernel_rfl
theorem nC:(Rows.meanSolvesRow.plainKeys == Tryz.pinned.checked.prog.plainKeys)=true:=by kernel_rfl
theorem nB:Rows.meanSolvesRow.shortTexts.isNone=true:=by kernel_rfl
theorem nA:Tryz.pinned.checked.prog.stopsHeard=true:=by kernel_rfl
theorem nz:Tryz.pinned.checked.prog.mayEnter=true:=by kernel_rfl
theorem ny:(Rows.meanSolvesRow.lifted == Tryz.pinned.checked.prog.liftsFinal)=true:=by kernel_rfl
theorem nw:(Tryz.pinned.checked.prog.make == some Rows.meanSolvesRow.make)=true:=by kernel_rfl
theorem nu:tY Tryz.pinned.checked.prog Tryz.f4 Rows.meanSolvesRow=true:=by kernel_rfl
theorem nt:(Rows.meanSolvesRow.pinned == Rows.meanSolvesRow.pinnedBy)=true:=by kernel_rfl
theorem nm:(Rows.meanSolvesRow.veiled == (Tryz.f4.params.toList++Rows.meanSolvesSpec.plain.varTypes Tryz.pinned.checked.prog++Tryz.f4.resultTypes.toList).any (Tryz.pinned.checked.prog.veiledRec ·))=true:=by kernel_rfl
theorem nl:Rows.meanSolvesRow.veiledFits Tryz.pinned.checked.prog Tryz.f4.params.toList (Tryz.f4.params.toList++Rows.meanSolvesSpec.plain.varTypes Tryz.pinned.checked.prog++Tryz.f4.resultTypes.toList)=true:=by kernel_rfl
theorem pc:Tryz.pinned.checked.prog.funcNamed Rows.meanSolvesRow.func=some 4:=by kernel_rfl
theorem lV:Tryz.f4.isInstance Tryz.pinned.checked.prog Rows.meanSolvesRow.origin Rows.meanSolvesRow.targs:=of_decide_eq_true (by kernel_rfl)
theorem lS:Tryz.f4.isWrapper Tryz.pinned.checked.prog Rows.meanSolvesRow.wrapper Rows.meanSolvesRow.mainSum:=by unfold Func.isWrapper;first|(rw[if_pos (by decide +kernel)];kernel_rfl)|(rw[if_neg (by decide +kernel)];exact⟨rfl,rfl⟩)
theorem lT:Rows.MeanSolvesSaid:=
 OpenClaim.holds_of_cond 4 Tryz.f4 rfl rfl rfl rfl rfl rfl rfl ⟨rfl,rfl,rfl,rfl,rfl⟩ rfl rfl rfl rfl rfl pc Tryz.func4 (rz po pn pm pj pi pg pf pe pd nP nO nN nM nL nK nJ nI nH nG nF nE nD nC nB nA nz ny nw nu nt nm nl)
  lV lS
  (λos started H enc _ F=>by rw[OpenClaim.pre_eq_preRow];exact jQ os started H enc F)
end Go.Proofs.YtfcbghmbbjolcaaGreatDoor
