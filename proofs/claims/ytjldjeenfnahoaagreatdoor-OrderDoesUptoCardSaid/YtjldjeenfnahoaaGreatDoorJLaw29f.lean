/- The kit's conditions, kept. Slices without their first. The -/
import Derived.Test.YtjldjeenfnahoaaGreatDoorJSaidOf
set_option maxHeartbeats 4000000
set_option maxRecDepth 20000
namespace Go.Proofs.YtjldjeenfnahoaaGreatDoor
open Go Go.RowKit Um Fm
theorem dh.old {n B:Nat} {w w':World} {cs:List Value} {x:ExT n} (h:dh n B w cs x) (hb:Below w.heap.size w w'):dh n B w' cs x:=h.step (aE.below hb)
theorem lg (n:Nat) (x:ExT n):cI n x x=true:=jg.2 rfl
def KpE (n:Nat):Prop:=∀(B:Nat) (x:ExT n) (cs ds:List Value) (W:World),dh n B W cs x->RdE n W ds x->szE n x->Calls Tryz.prog 88 #[.agg cs.toArray,.agg ds.toArray] W λe w'=>e=.returned (.bool true)/\Below W.heap.size W w'
def mkX (j:Int):ExT 1:=(8000024+j,⟨#[]⟩,zTm,[])
theorem ss (j:Int) (w:World):RdE 1 w (mkE j) (mkX j):=⟨none,0,rfl,Nat.le_refl _,RdL.nil _ _ _ _⟩
theorem yu (j:Int):szE 1 (mkX j):=by
 refine⟨Nat.zero_le _,Nat.zero_le _,Nat.zero_le _,λ_ h=>nomatch h⟩
theorem sv (w:World):All 7 (RdE 1 w) eJ (marksOf mkX):=by
 unfold eJ marksOf
 generalize List.range 12=r
 induction r with
 | nil=>rfl
 | cons a r ih=>exact All.append (All.one (e:=mkX (a:Int)) (cs:=mkE (a:Int)) rfl (ss _ _)) ih
theorem Rd.right {w:World} {g:Nat} {xs ys:List Value} (h:Rd w (some ⟨g,0,none⟩) (xs++ys)):∀(j:Nat) (u:Value),ys[j]?=some u->w.cell? ⟨g,xs.length+j,none⟩=some u:=by
 intro j u hu
 obtain⟨g0,o0,he,hc⟩:=h.at_ (j:=xs.length+j) (u:=u) (by rw[List.getElem?_append_right (by omega)];rw[show xs.length+j-xs.length=j by omega];exact hu)
 injection he with he;injection he with h2 h3;subst h2;subst h3
 simpa using hc
theorem oh (f:Nat->List Value) (hf:∀j,(f j).length=7):∀(a m j i:Nat),j<m->i<7->((List.range' a m).flatMap f)[j*7+i]?=(f (a+j))[i]?
 | a,0,j,i,h,_=>absurd h (Nat.not_lt_zero _)
 | a,m+1,0,i,_,hi=>by
  rw[List.range'_succ,List.flatMap_cons,List.getElem?_append_left (by rw[hf];omega)]
  simp
 | a,m+1,j+1,i,h,hi=>by
  rw[List.range'_succ,List.flatMap_cons,List.getElem?_append_right (by rw[hf];omega),hf,show (j+1)*7+i-7=j*7+i by omega,oh f hf (a+1) m j i (by omega) hi]
  rw[show a+1+j=a+(j+1) by omega]
theorem su (j i:Nat) (h:j<12) (hi:i<7):((List.range 12).flatMap λ(j:Nat)=>mkE (j:Int))[j*7+i]?=(mkE (j:Int))[i]?:=by
 rw[List.range_eq_range',oh (λ(j:Nat)=>mkE (j:Int)) (λ_=>rfl) 0 12 j i h hi,Nat.zero_add]
theorem oc (n:Nat) (hE:KpE n) (B:Nat) (l:List (ExT n)) (g:Nat) (xs:List Value) (A:Option Addr) (c:Nat) (w:World) (hB0:B<=g) (hg:aG 67 w g (xs++eJ)) (hx0:All 7 (dh n B w) xs l) (hr:aF n w A l) (hl:l.length<=1353245080300) (hz:∀x∈l,szE n x) :
  Calls Tryz.prog 57 #[.slice (some ⟨g,0,none⟩) l.length (l.length+12),.slice A l.length c] w λe w'=>e=.returned (.bool true)/\Below w.heap.size w w':=by
 have hxl:=hx0.len
 go_enter Tryz.func57,Tryz.ntmps57
 go_wp2
 go_loopw [6] (λi wr=>∃k:Nat,k<=l.length+12/\i=.int .i64 k/\Below w.heap.size w wr) (λi _=>l.length+12-(intOf i).toNat)
 case atStart=>exact⟨0,by omega,rfl,Below.refl _ _⟩
 case round =>
  obtain⟨k,hk,rfl,hB⟩:=hrel
  by_cases hlt:k<l.length+12
  ·have hrd:=hg.stays (aE.below hB) hB0
   have hrl:=aF.later hr hB
   have hra:All 7 (dh n B wr) xs l:=hx0.mono λ_ _ _ h=>h.old hB
   clear hr hg hx0
   by_cases hkn:k<l.length
   ·obtain⟨x,hx⟩:∃x,l[k]?=some x:=⟨_,List.getElem?_eq_getElem hkn⟩
    obtain⟨g0,o0,csx,he0,-,hLx,hcx⟩:=RdL.at_ (⟨xs,hrd.rd1,hra⟩:RdL 7 (dh n B wr) wr (some ⟨g,0,none⟩) l) (by omega) hx
    injection he0 with he0;injection he0 with h2 h3;subst h2;subst h3
    simp only[Nat.zero_add]at hcx
    obtain⟨k2,s2,t2,A2,m2,e2,rfl⟩:=nI hLx.rdE
    have c0:∀d os,(Sort.grow (redrawn wr d) os).cell? ⟨g,k*7,none⟩=some (.int .i64 k2):=λd os=>ab (hcx 0 _ rfl) (below_regrown wr d os)
    have c1:∀d os,(Sort.grow (redrawn wr d) os).cell? ⟨g,k*7+1,none⟩=some (.string s2):=λd os=>ab (hcx 1 _ rfl) (below_regrown wr d os)
    have c2:∀d os,(Sort.grow (redrawn wr d) os).cell? ⟨g,k*7+2,none⟩=some (.int .i64 t2.k):=λd os=>ab (hcx 2 _ rfl) (below_regrown wr d os)
    have c3:∀d os,(Sort.grow (redrawn wr d) os).cell? ⟨g,k*7+3,none⟩=some (.string t2.x):=λd os=>ab (hcx 3 _ rfl) (below_regrown wr d os)
    have c4:∀d os,(Sort.grow (redrawn wr d) os).cell? ⟨g,k*7+4,none⟩=some (.string t2.l):=λd os=>ab (hcx 4 _ rfl) (below_regrown wr d os)
    have c5:∀d os,(Sort.grow (redrawn wr d) os).cell? ⟨g,k*7+5,none⟩=some (.string t2.y):=λd os=>ab (hcx 5 _ rfl) (below_regrown wr d os)
    have c6:∀d os,(Sort.grow (redrawn wr d) os).cell? ⟨g,k*7+6,none⟩=some (.slice A2 m2 e2):=λd os=>ab (hcx 6 _ rfl) (below_regrown wr d os)
    obtain⟨g1,o1,k1,s1,t1,A1,m1,e1,rfl,hR,d0,d1,d2,d3,d4,d5,d6⟩:=hrl.atv hx
    have y0:=λd os=>ab d0 (below_regrown wr d os)
    have y1:=λd os=>ab d1 (below_regrown wr d os)
    have y2:=λd os=>ab d2 (below_regrown wr d os)
    have y3:=λd os=>ab d3 (below_regrown wr d os)
    have y4:=λd os=>ab d4 (below_regrown wr d os)
    have y5:=λd os=>ab d5 (below_regrown wr d os)
    have y6:=λd os=>ab d6 (below_regrown wr d os)
    have hc:=λd os=>hE B x _ _ (Sort.grow (redrawn wr d) os) (hLx.old (below_regrown wr d os)) (hR.later (below_regrown wr d os)) (hz x (List.mem_of_getElem? hx))
    have hd1:decide ((k:Int)<(l.length:Int))=true:=by simp;omega
    have hd2:decide (l.length<=k)=false:=by simp;omega
    clear hx hrd hrl hra hLx hR hcx hE hz d0 d1 d2 d3 d4 d5 d6 hxl
    go_wp2
    refine wrq ?_;(repeat (any_goals (go_big_quiet_step ((go_at_call 88;exact Calls.regrown_of (hc _ _))))));all_goals (refine wqn ?_;intro d9 os9)
    go_wp2
    go_roundw
    case rel=>exact⟨k+1,by omega,by go_num,blw⟩
    case measure=>simp[intOf];omega
   ·have hmk:=λW=>yD ((k:Int)-l.length) W (by omega) (by omega)
    have hj:(marksOf mkX)[k-l.length]?=some (mkX ((k:Int)-l.length)):=by
     rw[kc mkX _ (by omega),show ((k-l.length:Nat):Int)=(k:Int)-l.length by omega]
    have hcm:∀i u,(mkE ((k:Int)-l.length))[i]?=some u->wr.cell? ⟨g,k*7+i,none⟩=some u:=by
     intro i u hu
     obtain⟨cs,hcl,hcR,hci⟩:=(sv wr).at_ hj
     obtain⟨A',c',hcs,-,hnil⟩:=hcR
     have:=Rd.right hrd.rd ((k-l.length)*7+i) u (by
      have h0:eJ[(k-l.length)*7+i]?=(mkE ((k:Int)-l.length))[i]?:=by
       unfold eJ
       rw[su _ i (by omega) (by rcases Nat.lt_or_ge i 7 with h|h;exact h;rw[List.getElem?_eq_none (by simpa[mkE] using h)]at hu;cases hu)]
       rw[show ((k-l.length:Nat):Int)=(k:Int)-l.length by omega]
      rw[h0];exact hu)
     rw[show k*7+i=xs.length+((k-l.length)*7+i) by rw[hxl];omega]
     exact this
    have hS:=λW=>kF 1 _ _ _ _ W (ss ((k:Int)-l.length) W) (ss ((k:Int)-l.length) W) (yu _) (yu _)
    simp only[lg]at hS
    simp only[mkE]at hmk hcm hS
    generalize 8000024+((k:Int)-l.length)=s at *
    have c0:∀d os,(Sort.grow (redrawn wr d) os).cell? ⟨g,k*7,none⟩=some (.int .i64 s):=λd os=>ab (hcm 0 _ rfl) (below_regrown wr d os)
    have c1:∀d os,(Sort.grow (redrawn wr d) os).cell? ⟨g,k*7+1,none⟩=some (.string ⟨#[]⟩):=λd os=>ab (hcm 1 _ rfl) (below_regrown wr d os)
    have c2:∀d os,(Sort.grow (redrawn wr d) os).cell? ⟨g,k*7+2,none⟩=some (.int .i64 0):=λd os=>ab (hcm 2 _ rfl) (below_regrown wr d os)
    have c3:∀d os,(Sort.grow (redrawn wr d) os).cell? ⟨g,k*7+3,none⟩=some (.string ⟨#[]⟩):=λd os=>ab (hcm 3 _ rfl) (below_regrown wr d os)
    have c4:∀d os,(Sort.grow (redrawn wr d) os).cell? ⟨g,k*7+4,none⟩=some (.string ⟨#[]⟩):=λd os=>ab (hcm 4 _ rfl) (below_regrown wr d os)
    have c5:∀d os,(Sort.grow (redrawn wr d) os).cell? ⟨g,k*7+5,none⟩=some (.string ⟨#[]⟩):=λd os=>ab (hcm 5 _ rfl) (below_regrown wr d os)
    have c6:∀d os,(Sort.grow (redrawn wr d) os).cell? ⟨g,k*7+6,none⟩=some (.slice none 0 0):=λd os=>ab (hcm 6 _ rfl) (below_regrown wr d os)
    have hd1:decide ((k:Int)<(l.length:Int))=false:=by simp;omega
    have hd2:decide (l.length<=k)=true:=by simp;omega
    have e1:IntKind.i64.wrap ((k:Int)-l.length)=(k:Int)-l.length:=IntWalk.i64_in _ (by omega)
    clear hj hcm hrd hrl hra hE hz hxl
    go_wp2
    refine wrq ?_;(repeat (any_goals (go_big_quiet_step ((first|(go_at_call 65;exact Calls.regrown_of (hmk _))|(go_at_call 89;exact Calls.regrown_of (hS _)))))));all_goals (refine wqn ?_;intro d9 os9)
    go_wp2
    go_roundw
    case rel=>exact⟨k+1,by omega,by go_num,blw⟩
    case measure=>simp[intOf];omega
  ·go_wp2
   go_ret
   exact⟨rfl,hB⟩
theorem qR:∀n:Nat,KpE n
 | 0=>λ_ _ _ _ _ h _ _=>h.elim
 | n+1=>by
  intro B x cs ds W hL hR hz
  have hS0:∀w',Below W.heap.size W w'->Calls Tryz.prog 89 #[.agg cs.toArray,.agg ds.toArray] w' λe w2=>e=.returned (.bool true)/\Below w'.heap.size w' w2:=λw' hb=>by
   have h:=kF (n+1) x x cs ds w' (hL.old hb).rdE (hR.later hb) hz hz
   rwa [lg]at h
  obtain⟨k,s,t,ks⟩:=x
  have hL0:=hL
  have hR0:=hR
  have hz0:=hz
  obtain⟨g,xs,rfl,hg,hlb,hla⟩:=hL0
  obtain⟨A,c,rfl,hc1,hr⟩:=hR0
  obtain⟨z1,z2,z3,z4⟩:=hz0
  have hB2:Below W.heap.size W ((W.alloc (.cells #[.int .i64 k,.string s,.int .i64 t.k,.string t.x,.string t.l,.string t.y,.slice (some ⟨g,0,none⟩) ks.length (ks.length+12)] 67)).alloc (.cells #[.int .i64 k,.string s,.int .i64 t.k,.string t.x,.string t.l,.string t.y,.slice A ks.length c] 67)):=blw
  clear hL hR
  have hc:=hS0 _ hB2
  go_enter Tryz.func88,Tryz.ntmps88
  go_wp2_with fail
  refine hc.mono ?_
  rintro e w2 ⟨rfl,hb2⟩
  have b02:=aa hB2 hb2
  have k6:w2.cell? ⟨W.heap.size,6,none⟩=some (.slice (some ⟨g,0,none⟩) ks.length (ks.length+12)):=ab (by rw[World.cell?,am];rfl) hb2
  have l6:w2.cell? ⟨W.heap.size+1,6,none⟩=some (.slice A ks.length c):=ab (by rw[World.cell?,ai];rfl) hb2
  have hK:=oc n (qR n) B ks g xs A c w2 hg (hlb.stays (aE.below b02) hg) (hla.mono λ_ _ _ h=>h.old b02) (aF.later hr b02) z3 z4
  clear hS0 hc hz hlb hla hr hB2 hb2 z1 z2 z3 z4
  go_wp2_with (go_at_call 57;refine hK.mono ?_;rintro e w3 ⟨rfl,hb3⟩)
  go_ret
  exact⟨rfl,aa b02 hb3⟩
theorem Be (n:Nat) (a b:Qy n) (cs ds:List Value) (w:World) (ha:RdQ n w cs a) (hb:RdQ n w ds b) (sa:szL a) (sb:szL b) :
  Calls Tryz.prog 55 #[.agg cs.toArray,.agg ds.toArray] w λe w'=>e=.returned (.bool (nF a b))/\Below w.heap.size w w':=by
 obtain⟨a1,a2,a3,a4,c1,c2,c3,c4,rfl,-,h1,h2,h3,h4⟩:=ha
 obtain⟨b1,b2,b3,b4,d1,d2,d3,d4,rfl,-,k1,k2,k3,k4⟩:=hb
 obtain⟨s1,s2,s3,s4,s5⟩:=sa
 obtain⟨t1,t2,t3,t4,t5⟩:=sb
 have e:nF a b=(a.ask == b.ask && a.dist == b.dist && eqL ni a.vars b.vars && eqL bJ a.pats b.pats && eqL (cI n) a.fils b.fils && eqL cn a.ord b.ord && a.lim == b.lim && a.off == b.off):=by
  unfold nF
  generalize (a.ask == b.ask)=x1
  generalize (a.dist == b.dist)=x2
  generalize (a.lim == b.lim)=x3
  generalize (a.off == b.off)=x4
  generalize (eqL ni a.vars b.vars)=x5
  generalize (eqL bJ a.pats b.pats)=x6
  generalize (eqL (cI n) a.fils b.fils)=x7
  generalize (eqL cn a.ord b.ord)=x8
  revert x1 x2 x3 x4 x5 x6 x7 x8
  decide
 have et:eqL ni a.vars b.vars=dT a.vars b.vars:=by
  unfold dT;rw[Bool.eq_iff_iff,fA (λa _ b=>gn)];simp
 rw[e]
 exact sB a.ask b.ask a.dist b.dist a.lim b.lim a.off b.off a1 a2 a3 a4 b1 b2 b3 b4 a.vars.length a.pats.length a.fils.length a.ord.length b.vars.length b.pats.length b.fils.length b.ord.length c1 c2 c3 c4 d1 d2 d3 d4 _ _ _ _ w
  (λW hW=>by rw[et];exact nE a.vars b.vars a1 b1 c1 d1 W (h1.later hW) (k1.later hW) s1 t1)
  (λW hW=>Bf a.pats b.pats a2 b2 c2 d2 W (RdL.mono h2 hW λ_ _ _ h=>h) (RdL.mono k2 hW λ_ _ _ h=>h) s2 t2)
  (λW hW=>qL n (kF n) a.fils b.fils a3 b3 c3 d3 W (aF.later h3 hW) (aF.later k3 hW) s3 t3 s5 t5)
  (λW hW=>Bg a.ord b.ord a4 b4 c4 d4 W (RdL.mono h4 hW λ_ _ _ h=>h) (RdL.mono k4 hW λ_ _ _ h=>h) s4 t4)
def mt (n B:Nat) (w:World) (cs:List Value) (q:Qy n):Prop:=∃(g1 g2 g3 g4:Nat) (xs:List Value),cs=[.bool q.ask,.bool q.dist,.slice (some ⟨g1,0,none⟩) q.vars.length (q.vars.length+12),.slice (some ⟨g2,0,none⟩) q.pats.length (q.pats.length+12),.slice (some ⟨g3,0,none⟩) q.fils.length (q.fils.length+12),.slice (some ⟨g4,0,none⟩) q.ord.length (q.ord.length+12),.int .i64 q.lim,.int .i64 q.off]/\(B<=g1/\B<=g2/\B<=g3/\B<=g4) /\
 aG 9 w g1 ((q.vars++marksOf (λi=>mkT 1 i)).map Value.string)/\aG 101 w g2 ((q.pats++marksOf iM).flatMap cPat)/\(aG 67 w g3 (xs++eJ)/\All 7 (dh n B w) xs q.fils)/\aG 61 w g4 ((q.ord++marksOf iN).flatMap cKey)
theorem mt.step {n B:Nat} {w w':World} {cs:List Value} {q:Qy n} (h:mt n B w cs q) (hs:aE B w w'):mt n B w' cs q:=by
 obtain⟨g1,g2,g3,g4,xs,h0,⟨b1,b2,b3,b4⟩,h1,h2,⟨h3,h5⟩,h4⟩:=h
 exact⟨g1,g2,g3,g4,xs,h0,⟨b1,b2,b3,b4⟩,h1.stays hs b1,h2.stays hs b2,⟨h3.stays hs b3,h5.mono λ_ _ _ h=>h.step hs⟩,h4.stays hs b4⟩
theorem mt.later {n B:Nat} {w w':World} {cs:List Value} {q:Qy n} (h:mt n B w cs q) (hb:Below w.heap.size w w'):mt n B w' cs q:=h.step (aE.below hb)
theorem aG.rdPat {w:World} {g:Nat} {l m:List Pat} {T:TypeId} (h:aG T w g ((l++m).flatMap cPat)):rH w (some ⟨g,0,none⟩) l:=by
 rw[List.flatMap_append]at h
 exact(RdL.flatC (f:=cPat) (sz:=15) λ_=>rfl).2 h.rd1
theorem aG.rdKey {w:World} {g:Nat} {l m:List Ky} {T:TypeId} (h:aG T w g ((l++m).flatMap cKey)):eF w (some ⟨g,0,none⟩) l:=by
 rw[List.flatMap_append]at h
 exact(RdL.flatC (f:=cKey) (sz:=2) λ_=>rfl).2 h.rd1
theorem aG.rdStr {w:World} {g:Nat} {l m:List ByteArray} {T:TypeId} (h:aG T w g ((l++m).map Value.string)):Rd w (some ⟨g,0,none⟩) (l.map Value.string):=by
 rw[List.map_append]at h
 exact h.rd1
theorem mt.rdQ {n B:Nat} {w:World} {cs:List Value} {q:Qy n} (h:mt n B w cs q):RdQ n w cs q:=by
 obtain⟨g1,g2,g3,g4,xs,h0,-,h1,h2,⟨h3,h5⟩,h4⟩:=h
 exact⟨_,_,_,_,_,_,_,_,h0,⟨Nat.le_add_right _ _,Nat.le_add_right _ _,Nat.le_add_right _ _,Nat.le_add_right _ _⟩,h1.rdStr,h2.rdPat,⟨xs,h3.rd1,h5.mono λ_ _ _ h=>h.rdE⟩,h4.rdKey⟩
theorem Dn (n:Nat) (q:Qy n) (cs:List Value) (w:World) (hr:RdQ n w cs q) (hz:szL q) (z1:q.vars.length<=1048576) (z2:q.pats.length<=1048576) (z4:q.ord.length<=1048576) :
  Calls Tryz.prog 9 #[.agg cs.toArray] w λe w'=>∃ds,e=.returned (.agg ds.toArray)/\mt n w.heap.size w' ds q/\Below w.heap.size w w':=by
 obtain⟨a1,a2,a3,a4,c1,c2,c3,c4,rfl,-,r1,r2,r3,r4⟩:=hr
 refine(yL n q.ask q.dist q.lim q.off q.vars q.pats q.fils q.ord a1 a2 a3 a4 c1 c2 c3 c4 w r1 ((RdL.flatC (f:=cPat) (sz:=15) λ_=>rfl).1 r2) r3 ((RdL.flatC (f:=cKey) (sz:=2) λ_=>rfl).1 r4) z1 z2 hz.2.2.1 z4 hz.2.2.2.2).mono ?_
 rintro e w' ⟨g1,g2,g3,g4,xs,rfl,⟨b1,b2,b3,b4⟩,h1,h2,⟨h3,h5⟩,h4,hb⟩
 exact⟨_,rfl,⟨g1,g2,g3,g4,xs,rfl,⟨by omega,by omega,by omega,by omega⟩,h1,h2,⟨h3,h5.mono λ_ _ _ h=>h.lower (by omega)⟩,h4⟩,hb⟩
theorem s7 {n:Nat} (q:Qy n):nF q q=true:=uW.2 rfl
theorem Do (n B:Nat) (q:Qy n) (cs ds:List Value) (W:World) (hL:mt n B W cs q) (hr:RdQ n W ds q) (hz:szL q) (z1:q.vars.length<=1048576) (z2:q.pats.length<=1048576) (z4:q.ord.length<=1048576) :
  Calls Tryz.prog 27 #[.agg cs.toArray,.agg ds.toArray] W λe w'=>e=.returned (.bool true)/\Below W.heap.size W w':=by
 have hS0:∀w',Below W.heap.size W w'->Calls Tryz.prog 55 #[.agg cs.toArray,.agg ds.toArray] w' λe w2=>e=.returned (.bool true)/\Below w'.heap.size w' w2:=λw' hb=>by
  have h:=Be n q q cs ds w' (hL.later hb).rdQ (hr.later hb) hz hz
  rwa [s7]at h
 obtain⟨g1,g2,g3,g4,xs,rfl,⟨b1,b2,b3,b4⟩,h1,h2,⟨h3,h5⟩,h4⟩:=hL
 obtain⟨a1,a2,a3,a4,c1,c2,c3,c4,rfl,-,r1,r2,r3,r4⟩:=hr
 have hB2:Below W.heap.size W ((W.alloc (.cells #[.bool q.ask,.bool q.dist,.slice (some ⟨g1,0,none⟩) q.vars.length (q.vars.length+12),.slice (some ⟨g2,0,none⟩) q.pats.length (q.pats.length+12),.slice (some ⟨g3,0,none⟩) q.fils.length (q.fils.length+12),.slice (some ⟨g4,0,none⟩) q.ord.length (q.ord.length+12),.int .i64 q.lim,.int .i64 q.off] 30)).alloc (.cells #[.bool q.ask,.bool q.dist,.slice a1 q.vars.length c1,.slice a2 q.pats.length c2,.slice a3 q.fils.length c3,.slice a4 q.ord.length c4,.int .i64 q.lim,.int .i64 q.off] 30)):=blw
 have hc:=hS0 _ hB2
 have K1:=λ(w':World) (hb:Below W.heap.size W w')=>ob q.vars g1 a1 c1 w' (h1.stays (aE.below hb) b1) (r1.later hb) z1
 have K2:=λ(w':World) (hb:Below W.heap.size W w')=>pi q.pats g2 a2 c2 w' (h2.stays (aE.below hb) b2) ((RdL.flatC (f:=cPat) (sz:=15) λ_=>rfl).1 (RdL.mono r2 hb λ_ _ _ h=>h)) z2
 have K3:=λ(w':World) (hb:Below W.heap.size W w')=>oc n (qR n) B q.fils g3 xs a3 c3 w' b3 (h3.stays (aE.below hb) b3) (h5.mono λ_ _ _ h=>h.old hb) (aF.later r3 hb) hz.2.2.1 hz.2.2.2.2
 have K4:=λ(w':World) (hb:Below W.heap.size W w')=>yT q.ord g4 a4 c4 w' (h4.stays (aE.below hb) b4) ((RdL.flatC (f:=cKey) (sz:=2) λ_=>rfl).1 (RdL.mono r4 hb λ_ _ _ h=>h)) z4
 clear hS0 h1 h2 h3 h4 h5 r1 r2 r3 r4 hz z1 z2 z4
 go_enter Tryz.func27,Tryz.ntmps27
 go_wp2_with fail
 refine hc.mono ?_
 rintro e w1 ⟨rfl,hb1⟩
 have hs1:=hb1.size
 have k1:w1.cell? ⟨W.heap.size,2,none⟩=some (.slice (some ⟨g1,0,none⟩) q.vars.length (q.vars.length+12)):=ab (by rw[World.cell?,am];rfl) hb1
 have l1:w1.cell? ⟨W.heap.size+1,2,none⟩=some (.slice a1 q.vars.length c1):=ab (by rw[World.cell?,ai];rfl) hb1
 have k2:w1.cell? ⟨W.heap.size,3,none⟩=some (.slice (some ⟨g2,0,none⟩) q.pats.length (q.pats.length+12)):=ab (by rw[World.cell?,am];rfl) hb1
 have l2:w1.cell? ⟨W.heap.size+1,3,none⟩=some (.slice a2 q.pats.length c2):=ab (by rw[World.cell?,ai];rfl) hb1
 have k3:w1.cell? ⟨W.heap.size,4,none⟩=some (.slice (some ⟨g3,0,none⟩) q.fils.length (q.fils.length+12)):=ab (by rw[World.cell?,am];rfl) hb1
 have l3:w1.cell? ⟨W.heap.size+1,4,none⟩=some (.slice a3 q.fils.length c3):=ab (by rw[World.cell?,ai];rfl) hb1
 have k4:w1.cell? ⟨W.heap.size,5,none⟩=some (.slice (some ⟨g4,0,none⟩) q.ord.length (q.ord.length+12)):=ab (by rw[World.cell?,am];rfl) hb1
 have l4:w1.cell? ⟨W.heap.size+1,5,none⟩=some (.slice a4 q.ord.length c4):=ab (by rw[World.cell?,ai];rfl) hb1
 have B1:=aa hB2 hb1
 clear hc hB2 hb1
 have hk:=K1 _ B1
 go_wp2_with fail
 refine hk.mono ?_
 rintro e w2 ⟨rfl,hb2⟩
 clear hk
 replace k2:=ab k2 hb2
 replace l2:=ab l2 hb2
 replace k3:=ab k3 hb2
 replace l3:=ab l3 hb2
 replace k4:=ab k4 hb2
 replace l4:=ab l4 hb2
 have B2:=aa B1 hb2
 clear hb2
 clear k1 l1
 have hk:=K2 _ B2
 go_wp2_with fail
 refine hk.mono ?_
 rintro e w3 ⟨rfl,hb3⟩
 clear hk
 replace k3:=ab k3 hb3
 replace l3:=ab l3 hb3
 replace k4:=ab k4 hb3
 replace l4:=ab l4 hb3
 have B3:=aa B2 hb3
 clear hb3
 clear k2 l2
 have hk:=K3 _ B3
 go_wp2_with fail
 refine hk.mono ?_
 rintro e w4 ⟨rfl,hb4⟩
 clear hk
 replace k4:=ab k4 hb4
 replace l4:=ab l4 hb4
 have B4:=aa B3 hb4
 clear hb4
 clear k3 l3
 have hk:=K4 _ B4
 go_wp2_with fail
 refine hk.mono ?_
 rintro e w5 ⟨rfl,hb5⟩
 clear hk
 go_wp2
 go_ret
 exact⟨rfl,aa B4 hb5⟩
open Lx Tx Om Mp
def Da (deep:Int) (w:World) (e:Ending) (w':World):Prop:=∃r:Int,e=.returned (.int .i64 r)/\1<=r/\r<=(62-deep)*201/\Below w.heap.size w w'
theorem vS (n:Nat):∀(x:ExT n) (cs:List Value) (deep:Int) (w:World),0<=deep->deep<=61->RdE n w cs x->szE n x ->
  Calls Tryz.prog 31 #[.agg cs.toArray,.int .i64 deep] w (Da deep w):=by
 induction n with
 | zero=>intro x cs deep w _ _ h;exact h.elim
 | succ n ih =>
  rintro⟨k,s,t,kids⟩ cs deep w hd0 hd1 ⟨A,c,rfl,hcap,hk⟩ ⟨hs1,hs2,hkl,hkz⟩
  have hkl':(kids.length:Int)<=1353245080300:=by omega
  by_cases h60:60<deep
  ·clear ih
   go_enter Tryz.func31,Tryz.ntmps31
   go_wp2
   go_ret
   exact⟨201,rfl,by omega,by omega,blw⟩
  ·go_enter Tryz.func31,Tryz.ntmps31
   go_wp2
   obtain⟨W,hW⟩:∃W:World,w.alloc (.cells #[.int .i64 k,.string s,.int .i64 t.k,.string t.x,.string t.l,.string t.y,.slice A kids.length c] 67)=W:=⟨_,rfl⟩
   have hB0:Below w.heap.size w W:=by rw[←hW];exact blw
   have hz:W.heap.size=w.heap.size+1:=by rw[←hW];simp
   have hc6:W.cell? ⟨w.heap.size,6,none⟩=some (.slice A kids.length c):=by rw[←hW,World.cell?,heap_alloc_new];rfl
   have hkW:=aF.later hk hB0
   simp only[hW]
   have HW:=Lib.hid hW
   clear hW hk
   go_loopw [5,6] (λnv i wr=>∃(j:Nat) (r:Int),j<=kids.length/\i=.int .i64 j/\nv=.int .i64 r/\1<=r/\r<=(62-deep)*201/\Below W.heap.size W wr) (λ_ i _=>kids.length-(intOf i).toNat)
   case atStart=>exact⟨0,1,by omega,rfl,rfl,by omega,by omega,Below.refl _ _⟩
   case round =>
    obtain⟨j,r,hj,rfl,rfl,hr1,hr2,hB⟩:=hrel
    have hc:=hB.cell (p:=⟨w.heap.size,6,none⟩) (by simp;omega)
    rw[hc6]at hc
    have Hz:=Lib.hid hz
    clear hz hc6
    by_cases hlt:j<kids.length
    ·by_cases hr3:r<=200
     ·obtain⟨y,hy⟩:∃y,kids[j]?=some y:=⟨_,List.getElem?_eq_getElem hlt⟩
      have hzy:=hkz y (List.mem_of_getElem? hy)
      obtain⟨g,o,u0,u1,u2,u3,u4,u5,u6,rfl,hR,c0,c1,c2,c3,c4,c5,c6⟩:=(aF.later hkW hB).at7 hy
      clear hy
      have hih:=ih y [u0,u1,u2,u3,u4,u5,u6] (deep+1) wr (by omega) (by omega) hR hzy
      clear ih
      go_wp2_with (refine hih.mono ?_;rintro e w2 ⟨r2,rfl,hr4,hr5,hB2⟩)
      go_roundw
      case rel=>exact⟨j+1,r+r2,by omega,by go_num,rfl,by omega,by omega,aa hB hB2⟩
      case measure=>simp[intOf];omega
     ·clear ih
      go_wp2
      go_ret
      exact⟨r,rfl,by omega,by omega,aa hB0 hB⟩
    ·clear ih
     go_wp2
     go_ret
     exact⟨r,rfl,by omega,by omega,aa hB0 hB⟩
def DZ {n:Nat} (vars:List ByteArray) (rows:List (List Tm)) (q:Qy n):Prop:=vars.length<=200/\rows.length<=200/\q.vars.length<=200/\q.ord.length<=200/\q.fils.length<=200/\∀r∈rows,r.length<=200
theorem sy (n:Nat) (q:Qy n) (vars:List ByteArray) (rows:List (List Tm)) (A B:Option Addr) (nv c m d:Nat) (a1 a2 a3 a4:Option Addr) (c1 c2 c3 c4:Nat) (w:World) (hnv:vars.length=nv) (hm:rows.length=m) (hlv:nv<=1048576) (hlm:m<=1048576) (hzr:∀r∈rows,r.length<=1048576) (hrs:RdRs w B rows) (hr:aF n w a3 q.fils) (z1:q.vars.length<=1048576) (z3:q.fils.length<=1048576) (z4:q.ord.length<=1048576) (z5:∀x∈q.fils,szE n x) :
  Calls Tryz.prog 5 #[.agg #[.slice A nv c,.slice B m d],.agg #[.bool q.ask,.bool q.dist,.slice a1 q.vars.length c1,.slice a2 q.pats.length c2,.slice a3 q.fils.length c3,.slice a4 q.ord.length c4,.int .i64 q.lim,.int .i64 q.off]] w (DF (λb=>b=false->DZ vars rows q) w):=by
 obtain⟨W,hW⟩:∃W:World,(w.alloc (.cells #[.slice A nv c,.slice B m d] 25)).alloc (.cells #[.bool q.ask,.bool q.dist,.slice a1 q.vars.length c1,.slice a2 q.pats.length c2,.slice a3 q.fils.length c3,.slice a4 q.ord.length c4,.int .i64 q.lim,.int .i64 q.off] 30)=W:=⟨_,rfl⟩
 have hB0:Below w.heap.size w W:=by rw[←hW];exact blw
 have k0:W.heap[w.heap.size]?=some (Obj.cells #[.slice A nv c,.slice B m d] 25 (0,0)):=by rw[←hW];exact am _ _ _
 have k1:W.heap[w.heap.size+1]?=some (Obj.cells #[.bool q.ask,.bool q.dist,.slice a1 q.vars.length c1,.slice a2 q.pats.length c2,.slice a3 q.fils.length c3,.slice a4 q.ord.length c4,.int .i64 q.lim,.int .i64 q.off] 30 (0,0)):=by rw[←hW];exact ai _ _ _
 have t0:W.cell? ⟨w.heap.size,0,none⟩=some (.slice A nv c):=by rw[World.cell?,k0];rfl
 have t1:W.cell? ⟨w.heap.size,1,none⟩=some (.slice B m d):=by rw[World.cell?,k0];rfl
 have b0:W.cell? ⟨w.heap.size+1,0,none⟩=some (.bool q.ask):=by rw[World.cell?,k1];rfl
 have b1:W.cell? ⟨w.heap.size+1,1,none⟩=some (.bool q.dist):=by rw[World.cell?,k1];rfl
 have b2:W.cell? ⟨w.heap.size+1,2,none⟩=some (.slice a1 q.vars.length c1):=by rw[World.cell?,k1];rfl
 have b3:W.cell? ⟨w.heap.size+1,3,none⟩=some (.slice a2 q.pats.length c2):=by rw[World.cell?,k1];rfl
 have b4:W.cell? ⟨w.heap.size+1,4,none⟩=some (.slice a3 q.fils.length c3):=by rw[World.cell?,k1];rfl
 have b5:W.cell? ⟨w.heap.size+1,5,none⟩=some (.slice a4 q.ord.length c4):=by rw[World.cell?,k1];rfl
 have b6:W.cell? ⟨w.heap.size+1,6,none⟩=some (.int .i64 q.lim):=by rw[World.cell?,k1];rfl
 have b7:W.cell? ⟨w.heap.size+1,7,none⟩=some (.int .i64 q.off):=by rw[World.cell?,k1];rfl
 obtain⟨nq,hnq⟩:∃k,q.vars.length=k:=⟨_,rfl⟩
 obtain⟨nf,hnf⟩:∃k,q.fils.length=k:=⟨_,rfl⟩
 obtain⟨no,hno⟩:∃k,q.ord.length=k:=⟨_,rfl⟩
 have H:=Lib.hid (And.intro hnv (And.intro hm (And.intro hzr (And.intro (hrs.later hB0) (And.intro (aF.later hr hB0) (And.intro hnq (And.intro hnf (And.intro hno (And.intro z5 hB0)))))))))
 rw[hnq]at z1 b2
 rw[hnf]at z3 b4
 rw[hno]at z4 b5
 have HW:=Lib.hid hW
 rw[hnq,hnf,hno]at HW
 rw[hnq,hnf,hno]
 clear hW hB0 hnv hm hzr hrs hr hnq hnf hno z5 k0 k1
 go_enter Tryz.func5,Tryz.ntmps5
 go_wp2_with fail
 simp only[HW.out]
 go_wp2
 go_loopw [5,6] (λnvv i wr=>∃(k:Nat) (r:Int),k<=m/\i=.int .i64 k/\nvv=.int .i64 r/\(nv:Int)+m+nq+no+nf<=r/\r<=6000000+1048576*k/\Below W.heap.size W wr/\Hid (r<=200->∀x∈rows.take k,x.length<=200)) (λ_ i _=>m-(intOf i).toNat)
 case atStart=>exact⟨0,_,by omega,rfl,rfl,by omega,by omega,Below.refl _ _,λ_ x hx=>by simp at hx⟩
 case round =>
  obtain⟨k,r,hk,rfl,rfl,hr1,hr2,hBw,HR⟩:=hrel
  replace t0:=ab t0 hBw
  replace t1:=ab t1 hBw
  replace b0:=ab b0 hBw
  replace b1:=ab b1 hBw
  replace b2:=ab b2 hBw
  replace b3:=ab b3 hBw
  replace b4:=ab b4 hBw
  replace b5:=ab b5 hBw
  replace b6:=ab b6 hBw
  replace b7:=ab b7 hBw
  by_cases hlt:k<m
  ·by_cases hr3:r<=200
   ·obtain⟨row,hrow⟩:∃row,rows[k]?=some row:=⟨_,List.getElem?_eq_getElem (by rw[H.out.2.1];exact hlt)⟩
    obtain⟨g,o,A',c',rfl,hcell,_,_⟩:=(H.out.2.2.2.1.later hBw).at1 hrow
    have hl:=H.out.2.2.1 row (List.mem_of_getElem? hrow)
    have HX:Hid (r+row.length<=200->∀x∈rows.take (k+1),x.length<=200):=by
     intro h x hx
     rw[ah hrow]at hx
     rcases List.mem_append.1 hx with hx|hx
     ·exact HR.out hr3 x hx
     ·simp only[List.mem_cons,List.not_mem_nil,or_false]at hx
      subst hx
      omega
    generalize row.length=rl at *
    clear hrow HR
    go_wp2
    go_roundw
    case rel=>exact⟨k+1,r+rl,by omega,by go_num,rfl,by omega,by omega,hBw,HX⟩
    case measure=>simp[intOf];omega
   ·have HX:Hid (201<=r):=by show _<=_;omega
    clear HR
    go_wp2
    go_loopw [5,7] (λnvv i wv=>∃(j:Nat) (s:Int),j<=nf/\i=.int .i64 j/\nvv=.int .i64 s/\r<=s/\s<=1200000000000000+20000*j/\Below wr.heap.size wr wv) (λ_ i _=>nf-(intOf i).toNat)
    case atStart=>exact⟨0,r,by omega,rfl,rfl,by omega,by omega,Below.refl _ _⟩
    case round =>
     obtain⟨j,s,hj,rfl,rfl,hs1,hs2,hBv⟩:=hrel
     have u4:=ab b4 hBv
     have hzw:=ae u4
     clear t0 t1 b0 b1 b2 b3 b4 b5 b6 b7
     by_cases hlt2:j<nf
     ·by_cases hs3:s<=200
      ·exfalso
       have:201<=r:=HX.out
       omega
      ·have hg:decide (200<s)=true:=decide_eq_true (by omega)
       go_wp2
       all_goals
        go_ret
        exact⟨true,by go_num,λh=>(by cases h),aa H.out.2.2.2.2.2.2.2.2.2 (aa hBw hBv)⟩
     ·by_cases hs3:s<=200
      ·exfalso
       have:201<=r:=HX.out
       omega
      ·have hg:decide (200<s)=true:=decide_eq_true (by omega)
       go_wp2
       all_goals
        go_ret
        exact⟨true,by go_num,λh=>(by cases h),aa H.out.2.2.2.2.2.2.2.2.2 (aa hBw hBv)⟩
  ·obtain rfl:k=m:=by omega
   have HX:Hid (r<=200->∀x∈rows,x.length<=200):=by
    have h:=HR.out
    rwa [List.take_of_length_le (by rw[H.out.2.1];exact Nat.le_refl _)]at h
   clear HR
   go_wp2
   go_loopw [5,7] (λnvv i wv=>∃(j:Nat) (s:Int),j<=nf/\i=.int .i64 j/\nvv=.int .i64 s/\r<=s/\s<=1200000000000000+20000*j/\Below wr.heap.size wr wv) (λ_ i _=>nf-(intOf i).toNat)
   case atStart=>exact⟨0,r,by omega,rfl,rfl,by omega,by omega,Below.refl _ _⟩
   case round =>
    obtain⟨j,s,hj,rfl,rfl,hs1,hs2,hBv⟩:=hrel
    have u4:=ab b4 hBv
    have hzw:=ae u4
    clear t0 t1 b0 b1 b2 b3 b4 b5 b6 b7
    by_cases hlt2:j<nf
    ·by_cases hs3:s<=200
     ·obtain⟨y,hy⟩:∃y,q.fils[j]?=some y:=⟨_,List.getElem?_eq_getElem (by rw[H.out.2.2.2.2.2.2.1];exact hlt2)⟩
      have hzy:=H.out.2.2.2.2.2.2.2.2.1 y (List.mem_of_getElem? hy)
      obtain⟨g1,o1,y0,y1,y2,y3,y4,y5,y6,rfl,hR,x0,x1,x2,x3,x4,x5,x6⟩:=(aF.later (aF.later H.out.2.2.2.2.1 hBw) hBv).at7 hy
      clear hy
      have hih:=vS n y [y0,y1,y2,y3,y4,y5,y6] 0 wr (by omega) (by omega) hR hzy
      go_wp2_with (refine hih.mono ?_;rintro e w2 ⟨r2,rfl,hr5,hr7,hB2⟩)
      go_roundw
      case rel=>exact⟨j+1,s+r2,by omega,by go_num,rfl,by omega,by omega,aa hBv hB2⟩
      case measure=>simp[intOf];omega
     ·have hg:decide (200<s)=true:=decide_eq_true (by omega)
      go_wp2
      all_goals
       go_ret
       exact⟨true,by go_num,λh=>(by cases h),aa H.out.2.2.2.2.2.2.2.2.2 (aa hBw hBv)⟩
    ·by_cases hs3:s<=200
     ·have hg:decide (200<s)=false:=decide_eq_false (by omega)
      go_wp2
      all_goals
       go_ret
       exact⟨false,by go_num,λ_=>by
        obtain⟨e1,e2,e3,e4,e5,e6,e7,e8,e9,e10⟩:=H.out
        exact⟨by omega,by omega,by omega,by omega,by omega,HX.out (by omega)⟩,aa H.out.2.2.2.2.2.2.2.2.2 (aa hBw hBv)⟩
     ·have hg:decide (200<s)=true:=decide_eq_true (by omega)
      go_wp2
      all_goals
       go_ret
       exact⟨true,by go_num,λh=>(by cases h),aa H.out.2.2.2.2.2.2.2.2.2 (aa hBw hBv)⟩
theorem bm {n:Nat} {w:World} {q:Qy n} {a1 a2 a3 a4:Option Addr} {c1 c2 c3 c4:Nat} (h:RdQ n w [.bool q.ask,.bool q.dist,.slice a1 q.vars.length c1,.slice a2 q.pats.length c2,.slice a3 q.fils.length c3,.slice a4 q.ord.length c4,.int .i64 q.lim,.int .i64 q.off] q) :
  (q.vars.length<=c1)/\Rd w a1 (q.vars.map Value.string)/\rH w a2 q.pats/\aF n w a3 q.fils/\eF w a4 q.ord:=by
 obtain⟨b1,b2,b3,b4,d1,d2,d3,d4,h0,⟨o1,_,_,_⟩,r1,r2,r3,r4⟩:=h
 simp only[List.cons.injEq,Value.bool.injEq,Value.slice.injEq,Value.int.injEq,and_true,true_and]at h0
 obtain⟨⟨rfl,rfl⟩,⟨rfl,rfl⟩,⟨rfl,rfl⟩,rfl,rfl⟩:=h0
 exact⟨o1,r1,r2,r3,r4⟩
def zR (V wx:World) (g:Nat) (vars:List ByteArray) (rows:List (List Tm)):Prop:=∃gA A1 c5,wx.heap[g]?=some (Obj.cells #[.slice (some ⟨gA,0,none⟩) vars.length (vars.length+12),.slice A1 rows.length c5] 25 (0,0))/\aG 9 wx gA ((vars++marksOf (λi=>mkT 1 i)).map Value.string)/\rows.length<=c5/\RdL 1 (aW V.heap.size wx) wx A1 rows/\Below V.heap.size V wx
structure Fr9 {n:Nat} (q:Qy n) (vars:List ByteArray) (rows:List (List Tm)) (A B:Option Addr) (c d:Nat) (a1 a2 a3 a4:Option Addr) (c1 c2 c3 c4:Nat) (bt bq bi bx gA:Nat) (A1:Option Addr) (c5 g1 g2 g3 g4:Nat) (B0 B9:Nat) (V:World):Prop where
 ht:V.heap[bt]?=some (Obj.cells #[.slice A vars.length c,.slice B rows.length d] 25 (0,0))
 hq:V.heap[bq]?=some (Obj.cells #[.bool q.ask,.bool q.dist,.slice a1 q.vars.length c1,.slice a2 q.pats.length c2,.slice a3 q.fils.length c3,.slice a4 q.ord.length c4,.int .i64 q.lim,.int .i64 q.off] 30 (0,0))
 hi:V.heap[bi]?=some (Obj.cells #[.slice (some ⟨gA,0,none⟩) vars.length (vars.length+12),.slice A1 rows.length c5] 25 (0,0))
 hx:V.heap[bx]?=some (Obj.cells #[.bool q.ask,.bool q.dist,.slice (some ⟨g1,0,none⟩) q.vars.length (q.vars.length+12),.slice (some ⟨g2,0,none⟩) q.pats.length (q.pats.length+12),.slice (some ⟨g3,0,none⟩) q.fils.length (q.fils.length+12),.slice (some ⟨g4,0,none⟩) q.ord.length (q.ord.length+12),.int .i64 q.lim,.int .i64 q.off] 30 (0,0))
 lt:aG 9 V gA ((vars++marksOf (λi=>mkT 1 i)).map Value.string)
 lc:rows.length<=c5
 lr:RdL 1 (aW B0 V) V A1 rows
 lq:mt n B9 V [.bool q.ask,.bool q.dist,.slice (some ⟨g1,0,none⟩) q.vars.length (q.vars.length+12),.slice (some ⟨g2,0,none⟩) q.pats.length (q.pats.length+12),.slice (some ⟨g3,0,none⟩) q.fils.length (q.fils.length+12),.slice (some ⟨g4,0,none⟩) q.ord.length (q.ord.length+12),.int .i64 q.lim,.int .i64 q.off] q
 rv:Rd V A (vars.map Value.string)
 rr:RdRs V B rows
 rq:RdQ n V [.bool q.ask,.bool q.dist,.slice a1 q.vars.length c1,.slice a2 q.pats.length c2,.slice a3 q.fils.length c3,.slice a4 q.ord.length c4,.int .i64 q.lim,.int .i64 q.off] q
section
variable {n:Nat} {q:Qy n} {vars:List ByteArray} {rows:List (List Tm)} {A B:Option Addr} {c d:Nat} {a1 a2 a3 a4:Option Addr} {c1 c2 c3 c4 bt bq bi bx gA:Nat} {A1:Option Addr} {c5 g1 g2 g3 g4 B0 B9:Nat} {V V':World}
theorem Fr9.later (H:Fr9 q vars rows A B c d a1 a2 a3 a4 c1 c2 c3 c4 bt bq bi bx gA A1 c5 g1 g2 g3 g4 B0 B9 V) (hb:Below V.heap.size V V'):Fr9 q vars rows A B c d a1 a2 a3 a4 c1 c2 c3 c4 bt bq bi bx gA A1 c5 g1 g2 g3 g4 B0 B9 V':=
 ⟨KeepT.below hb _ _ _ H.ht,KeepT.below hb _ _ _ H.hq,KeepT.below hb _ _ _ H.hi,KeepT.below hb _ _ _ H.hx,H.lt.below hb H.lt.lt,H.lc,RdL.mono H.lr hb (λ_ _ _ h=>aW.later h hb),H.lq.later hb,H.rv.later hb,H.rr.later hb,H.rq.later hb⟩
theorem Fr9.cells (H:Fr9 q vars rows A B c d a1 a2 a3 a4 c1 c2 c3 c4 bt bq bi bx gA A1 c5 g1 g2 g3 g4 B0 B9 V) :
  (V.cell? ⟨bt,0,none⟩=some (.slice A vars.length c)/\V.cell? ⟨bt,1,none⟩=some (.slice B rows.length d)) /\
  (V.cell? ⟨bq,0,none⟩=some (.bool q.ask)/\V.cell? ⟨bq,1,none⟩=some (.bool q.dist)/\V.cell? ⟨bq,2,none⟩=some (.slice a1 q.vars.length c1)/\V.cell? ⟨bq,3,none⟩=some (.slice a2 q.pats.length c2)/\V.cell? ⟨bq,4,none⟩=some (.slice a3 q.fils.length c3)/\V.cell? ⟨bq,5,none⟩=some (.slice a4 q.ord.length c4)/\V.cell? ⟨bq,6,none⟩=some (.int .i64 q.lim)/\V.cell? ⟨bq,7,none⟩=some (.int .i64 q.off)) /\
  (V.cell? ⟨bi,0,none⟩=some (.slice (some ⟨gA,0,none⟩) vars.length (vars.length+12))/\V.cell? ⟨bi,1,none⟩=some (.slice A1 rows.length c5)) /\
  (V.cell? ⟨bx,0,none⟩=some (.bool q.ask)/\V.cell? ⟨bx,1,none⟩=some (.bool q.dist)/\V.cell? ⟨bx,2,none⟩=some (.slice (some ⟨g1,0,none⟩) q.vars.length (q.vars.length+12))/\V.cell? ⟨bx,3,none⟩=some (.slice (some ⟨g2,0,none⟩) q.pats.length (q.pats.length+12))/\V.cell? ⟨bx,4,none⟩=some (.slice (some ⟨g3,0,none⟩) q.fils.length (q.fils.length+12))/\V.cell? ⟨bx,5,none⟩=some (.slice (some ⟨g4,0,none⟩) q.ord.length (q.ord.length+12))/\V.cell? ⟨bx,6,none⟩=some (.int .i64 q.lim)/\V.cell? ⟨bx,7,none⟩=some (.int .i64 q.off)):=
 ⟨⟨by rw[World.cell?,H.ht];rfl,by rw[World.cell?,H.ht];rfl⟩,⟨by rw[World.cell?,H.hq];rfl,by rw[World.cell?,H.hq];rfl,by rw[World.cell?,H.hq];rfl,by rw[World.cell?,H.hq];rfl,by rw[World.cell?,H.hq];rfl,by rw[World.cell?,H.hq];rfl,by rw[World.cell?,H.hq];rfl,by rw[World.cell?,H.hq];rfl⟩,⟨by rw[World.cell?,H.hi];rfl,by rw[World.cell?,H.hi];rfl⟩,⟨by rw[World.cell?,H.hx];rfl,by rw[World.cell?,H.hx];rfl,by rw[World.cell?,H.hx];rfl,by rw[World.cell?,H.hx];rfl,by rw[World.cell?,H.hx];rfl,by rw[World.cell?,H.hx];rfl,by rw[World.cell?,H.hx];rfl,by rw[World.cell?,H.hx];rfl⟩⟩
theorem Fr9.tab (H:Fr9 q vars rows A B c d a1 a2 a3 a4 c1 c2 c3 c4 bt bq bi bx gA A1 c5 g1 g2 g3 g4 B0 B9 V) (hg:ei vars rows) (hc:vars.length<=c) (hd:rows.length<=d):tc V A B c d vars rows:=
 ⟨⟨rfl,rfl,by have:=hg.1;omega,by have:=hg.2.1;omega,hc,H.rv,H.rr,λr hr=>by have:=(hg.2.2 r hr).1;omega⟩,hd⟩
theorem Fr9.tabIn (H:Fr9 q vars rows A B c d a1 a2 a3 a4 c1 c2 c3 c4 bt bq bi bx gA A1 c5 g1 g2 g3 g4 B0 B9 V) (hg:ei vars rows):tc V (some ⟨gA,0,none⟩) A1 (vars.length+12) c5 vars rows:=
 ⟨⟨rfl,rfl,by have:=hg.1;omega,by have:=hg.2.1;omega,by omega,H.lt.rdStr,by
  obtain⟨xs,h1,h2⟩:=H.lr
  exact⟨xs,h1,h2.mono λ_ _ _ h=>h.rd⟩,λr hr=>by have:=(hg.2.2 r hr).1;omega⟩,H.lc⟩
end
theorem Fr9.stays {n:Nat} {q:Qy n} {vars:List ByteArray} {rows:List (List Tm)} {A B:Option Addr} {c d:Nat} {a1 a2 a3 a4:Option Addr} {c1 c2 c3 c4 bt bq bi bx gA:Nat} {A1:Option Addr} {c5 g1 g2 g3 g4 B0 B9:Nat} {W4 V:World} (H:Fr9 q vars rows A B c d a1 a2 a3 a4 c1 c2 c3 c4 bt bq bi bx gA A1 c5 g1 g2 g3 g4 B0 B9 W4) (hb:Below W4.heap.size W4 V) (hg:ei vars rows) (hc:vars.length<=c) (hd:rows.length<=d):dr W4 V A B vars.length c rows.length d vars rows:=by
 obtain⟨xs,h1,h2⟩:=H.rr
 exact⟨hb.size,rfl,rfl,by have:=hg.1;omega,by have:=hg.2.1;omega,hc,hd,λr hr=>by have:=(hg.2.2 r hr).1;omega,λW' k=>H.rv.later (hb.trans k.2.2.2),xs,λW' k=>h1.later (hb.trans k.2.2.2),h2.mono λ_ _ _ h W' k=>h.later (hb.trans k.2)⟩
theorem gv {W4 X Y:World} {ga gb:Nat} {ca cb:Array Value} {v0 v1:Value} {vs:List ByteArray} {rs:List (List Tm)} (hBX:Below W4.heap.size W4 X) (hbY:Below X.heap.size X Y) (hga:X.heap[ga]?=some (Obj.cells ca 25 (0,0))) (hgb:X.heap[gb]?=some (Obj.cells cb 39 (0,0))) (ha:W4.heap.size<=ga) (hT:cY X.heap.size Y v0 v1 vs rs) :
  Y.heap[ga]?=some (Obj.cells ca 25 (0,0))/\(Y.setRow ga #[v0,v1]).heap[ga]?=some (Obj.cells #[v0,v1] 25 (0,0))/\(Y.setRow ga #[v0,v1]).heap[gb]?=some (Obj.cells cb 39 (0,0))/\Below W4.heap.size W4 (Y.setRow ga #[v0,v1])/\cY X.heap.size (Y.setRow ga #[v0,v1]) v0 v1 vs rs/\X.heap.size<=(Y.setRow ga #[v0,v1]).heap.size:=by
 have h1:=KeepT.below hbY _ _ _ hga
 have h2:=KeepT.below hbY _ _ _ hgb
 have hk:∀e,25≠e->KeepT e Y (Y.setRow ga #[v0,v1]):=λe he=>KeepT.setRow h1 he
 have hBY:=aa hBX hbY
 refine⟨h1,setRow_heap Y _ _ _ _ (0,0) h1,hk _ (by decide) _ _ _ h2,below_setRow hBY ha _,⟨own_keep hT.1 (hk _ (by decide)),hT.2.keep (hk _ (by decide)) (hk _ (by decide))⟩,?_⟩
 have:(Y.setRow ga #[v0,v1]).heap.size=Y.heap.size:=by simp[World.setRow]
 rw[this];exact hbY.size
theorem fm {W4 Z w7:World} {base ga gb:Nat} {ca cb:Array Value} {v0 v1 r0 r1:Value} {vs:List ByteArray} {rs:List (List Tm)} (hBZ:Below W4.heap.size W4 Z) (hb7:Below Z.heap.size Z w7) (hga:Z.heap[ga]?=some (Obj.cells ca 25 (0,0))) (hgb:Z.heap[gb]?=some (Obj.cells cb 39 (0,0))) (hb:W4.heap.size<=gb) (hT:cY base Z v0 v1 vs rs) (hbs:base<=Z.heap.size) :
  w7.heap[gb]?=some (Obj.cells cb 39 (0,0))/\(w7.setRow gb #[r0,r1]).heap[gb]?=some (Obj.cells #[r0,r1] 39 (0,0))/\(w7.setRow gb #[r0,r1]).heap[ga]?=some (Obj.cells ca 25 (0,0))/\Below W4.heap.size W4 (w7.setRow gb #[r0,r1])/\cY base (w7.setRow gb #[r0,r1]) v0 v1 vs rs/\StS W4 w7 (w7.setRow gb #[r0,r1])/\base<=(w7.setRow gb #[r0,r1]).heap.size:=by
 have h1:=KeepT.below hb7 _ _ _ hga
 have h2:=KeepT.below hb7 _ _ _ hgb
 have hk:∀e,39≠e->KeepT e w7 (w7.setRow gb #[r0,r1]):=λe he=>KeepT.setRow h2 he
 have hT7:=hT.later hb7
 have hB7:=aa hBZ hb7
 refine⟨h2,setRow_heap w7 _ _ _ _ (0,0) h2,hk _ (by decide) _ _ _ h1,below_setRow hB7 hb _,⟨own_keep hT7.1 (hk _ (by decide)),hT7.2.keep (hk _ (by decide)) (hk _ (by decide))⟩,StS.setRow h2 hb,?_⟩
 have:(w7.setRow gb #[r0,r1]).heap.size=w7.heap.size:=by simp[World.setRow]
 rw[this];exact Nat.le_trans hbs hb7.size
theorem aW.lower {B B':Nat} {w:World} {cs:List Value} {row:List Tm} (h:aW B w cs row) (hb:B'<=B):aW B' w cs row:=by
 obtain⟨g,h1,h2,h3⟩:=h
 exact⟨g,h1,Nat.le_trans hb h2,h3⟩
theorem sF {V X:World} {vars:List ByteArray} {rows:List (List Tm)} {g gA B0:Nat} {A1:Option Addr} {c5:Nat} {xs:List Value} {cur:Array Value} (hg:X.heap[g]?=some (Obj.cells cur 25 (0,0))) (hgV:V.heap.size<=g) (hL:aG 9 X gA ((vars++marksOf (λi=>mkT 1 i)).map Value.string)) (hB0:V.heap.size<=B0) (ho:X.ownsRow B0 69 1 (.slice A1 rows.length c5) rows.length xs) (hall:All 1 (aW B0 X) xs rows) (hb:Below V.heap.size V X):zR V (X.setRow g #[.slice (some ⟨gA,0,none⟩) vars.length (vars.length+12),.slice A1 rows.length c5] ) g vars rows:=by
 have hk:∀e,25≠e->KeepT e X (X.setRow g #[.slice (some ⟨gA,0,none⟩) vars.length (vars.length+12),.slice A1 rows.length c5] ):=λe he=>KeepT.setRow hg he
 obtain⟨A2,c2,e1,h1,h2⟩:=own_slice (own_keep ho (hk _ (by decide)))
 injection e1 with e1 _ e2
 subst e1
 subst e2
 obtain⟨cur2,h3,h4⟩:=hL
 exact⟨gA,A1,c5,setRow_heap X _ _ _ _ (0,0) hg,⟨cur2,hk _ (by decide) _ _ _ h3,h4⟩,h1,⟨xs,h2,hall.mono λ_ _ _ h=>(h.lower hB0).keep (hk _ (by decide))⟩,below_setRow hb hgV _⟩
end Go.Proofs.YtjldjeenfnahoaaGreatDoor
