/- The kit's conditions, kept. Slices without their first. The -/
import Derived.Test.YtoejnneknpoanaaGreatDoorJKept1
import Derived.Test.YtoejnneknpoanaaGreatDoorJLent4
set_option maxHeartbeats 4000000
set_option maxRecDepth 20000
namespace Go.Proofs.YtoejnneknpoanaaGreatDoor
open Go Go.RowKit Um Fm
theorem dA.old {n B:Nat} {w w':World} {cs:List Value} {x:ExT n} (h:dA n B w cs x) (hb:Below w.heap.size w w'):dA n B w' cs x:=h.step (aF.below hb)
theorem mF (n:Nat) (x:ExT n):cP n x x=true:=jH.2 rfl
def KpE (n:Nat):Prop:=∀(B:Nat) (x:ExT n) (cs ds:List Value) (W:World),dA n B W cs x->RdE n W ds x->szE n x->Calls Tryz.prog 104 #[.agg cs.toArray,.agg ds.toArray] W λe w'=>e=.returned (.bool true)/\Below W.heap.size W w'
def mkX (j:Int):ExT 1:=(8000024+j,⟨#[]⟩,zTm,[])
theorem uu (j:Int) (w:World):RdE 1 w (mkE j) (mkX j):=⟨none,0,rfl,Nat.le_refl _,RdL.nil _ _ _ _⟩
theorem Ah (j:Int):szE 1 (mkX j):=by
 refine⟨Nat.zero_le _,Nat.zero_le _,Nat.zero_le _,λ_ h=>nomatch h⟩
theorem uw (w:World):All 7 (RdE 1 w) eT (marksOf mkX):=by
 unfold eT marksOf
 generalize List.range 12=r
 induction r with
 | nil=>rfl
 | cons a r ih=>exact All.append (All.one (e:=mkX (a:Int)) (cs:=mkE (a:Int)) rfl (uu _ _)) ih
theorem Rd.right {w:World} {g:Nat} {xs ys:List Value} (h:Rd w (some ⟨g,0,none⟩) (xs++ys)):∀(j:Nat) (u:Value),ys[j]?=some u->w.cell? ⟨g,xs.length+j,none⟩=some u:=by
 intro j u hu
 obtain⟨g0,o0,he,hc⟩:=h.at_ (j:=xs.length+j) (u:=u) (by rw[List.getElem?_append_right (by omega)];rw[show xs.length+j-xs.length=j by omega];exact hu)
 injection he with he;injection he with h2 h3;subst h2;subst h3
 simpa using hc
theorem pP (f:Nat->List Value) (hf:∀j,(f j).length=7):∀(a m j i:Nat),j<m->i<7->((List.range' a m).flatMap f)[j*7+i]?=(f (a+j))[i]?
 | a,0,j,i,h,_=>absurd h (Nat.not_lt_zero _)
 | a,m+1,0,i,_,hi=>by
  rw[List.range'_succ,List.flatMap_cons,List.getElem?_append_left (by rw[hf];omega)]
  simp
 | a,m+1,j+1,i,h,hi=>by
  rw[List.range'_succ,List.flatMap_cons,List.getElem?_append_right (by rw[hf];omega),hf,show (j+1)*7+i-7=j*7+i by omega,pP f hf (a+1) m j i (by omega) hi]
  rw[show a+1+j=a+(j+1) by omega]
theorem uv (j i:Nat) (h:j<12) (hi:i<7):((List.range 12).flatMap λ(j:Nat)=>mkE (j:Int))[j*7+i]?=(mkE (j:Int))[i]?:=by
 rw[List.range_eq_range',pP (λ(j:Nat)=>mkE (j:Int)) (λ_=>rfl) 0 12 j i h hi,Nat.zero_add]
theorem pL (n:Nat) (hE:KpE n) (B:Nat) (l:List (ExT n)) (g:Nat) (xs:List Value) (A:Option Addr) (c:Nat) (w:World) (hB0:B<=g) (hg:aG 78 w g (xs++eT)) (hx0:All 7 (dA n B w) xs l) (hr:aB n w A l) (hl:l.length<=1353245080300) (hz:∀x∈l,szE n x) :
  Calls Tryz.prog 67 #[.slice (some ⟨g,0,none⟩) l.length (l.length+12),.slice A l.length c] w λe w'=>e=.returned (.bool true)/\Below w.heap.size w w':=by
 have hxl:=hx0.len
 go_enter Tryz.func67,Tryz.ntmps67
 go_wp2
 go_loopw [6] (λi wr=>∃k:Nat,k<=l.length+12/\i=.int .i64 k/\Below w.heap.size w wr) (λi _=>l.length+12-(intOf i).toNat)
 case atStart=>exact⟨0,by omega,rfl,Below.refl _ _⟩
 case round =>
  obtain⟨k,hk,rfl,hB⟩:=hrel
  by_cases hlt:k<l.length+12
  ·have hrd:=hg.stays (aF.below hB) hB0
   have hrl:=aB.later hr hB
   have hra:All 7 (dA n B wr) xs l:=hx0.mono λ_ _ _ h=>h.old hB
   clear hr hg hx0
   by_cases hkn:k<l.length
   ·obtain⟨x,hx⟩:∃x,l[k]?=some x:=⟨_,List.getElem?_eq_getElem hkn⟩
    obtain⟨g0,o0,csx,he0,-,hLx,hcx⟩:=RdL.at_ (⟨xs,hrd.rd1,hra⟩:RdL 7 (dA n B wr) wr (some ⟨g,0,none⟩) l) (by omega) hx
    injection he0 with he0;injection he0 with h2 h3;subst h2;subst h3
    simp only[Nat.zero_add]at hcx
    obtain⟨k2,s2,t2,A2,m2,e2,rfl⟩:=pm hLx.rdE
    have c0:∀d os,(Sort.grow (redrawn wr d) os).cell? ⟨g,k*7,none⟩=some (.int .i64 k2):=λd os=>ab (hcx 0 _ rfl) (below_regrown wr d os)
    have c1:∀d os,(Sort.grow (redrawn wr d) os).cell? ⟨g,k*7+1,none⟩=some (.string s2):=λd os=>ab (hcx 1 _ rfl) (below_regrown wr d os)
    have c2:∀d os,(Sort.grow (redrawn wr d) os).cell? ⟨g,k*7+2,none⟩=some (.int .i64 t2.k):=λd os=>ab (hcx 2 _ rfl) (below_regrown wr d os)
    have c3:∀d os,(Sort.grow (redrawn wr d) os).cell? ⟨g,k*7+3,none⟩=some (.string t2.x):=λd os=>ab (hcx 3 _ rfl) (below_regrown wr d os)
    have c4:∀d os,(Sort.grow (redrawn wr d) os).cell? ⟨g,k*7+4,none⟩=some (.string t2.l):=λd os=>ab (hcx 4 _ rfl) (below_regrown wr d os)
    have c5:∀d os,(Sort.grow (redrawn wr d) os).cell? ⟨g,k*7+5,none⟩=some (.string t2.y):=λd os=>ab (hcx 5 _ rfl) (below_regrown wr d os)
    have c6:∀d os,(Sort.grow (redrawn wr d) os).cell? ⟨g,k*7+6,none⟩=some (.slice A2 m2 e2):=λd os=>ab (hcx 6 _ rfl) (below_regrown wr d os)
    obtain⟨g1,o1,k1,s1,t1,A1,m1,e1,rfl,hR,d0,d1,d2,d3,d4,d5,d6⟩:=hrl.atv hx
    have y0:=λd os=>ab d0 (below_regrown wr d os)
    have y1:=λd os=>ab d1 (below_regrown wr d os)
    have y2:=λd os=>ab d2 (below_regrown wr d os)
    have y3:=λd os=>ab d3 (below_regrown wr d os)
    have y4:=λd os=>ab d4 (below_regrown wr d os)
    have y5:=λd os=>ab d5 (below_regrown wr d os)
    have y6:=λd os=>ab d6 (below_regrown wr d os)
    have hc:=λd os=>hE B x _ _ (Sort.grow (redrawn wr d) os) (hLx.old (below_regrown wr d os)) (hR.later (below_regrown wr d os)) (hz x (List.mem_of_getElem? hx))
    have hd1:decide ((k:Int)<(l.length:Int))=true:=by simp;omega
    have hd2:decide (l.length<=k)=false:=by simp;omega
    clear hx hrd hrl hra hLx hR hcx hE hz d0 d1 d2 d3 d4 d5 d6 hxl
    go_wp2
    refine wrq ?_;(repeat (any_goals (go_big_quiet_step ((go_at_call 104;exact Calls.regrown_of (hc _ _))))));all_goals (refine wqn ?_;intro d9 os9)
    go_wp2
    go_roundw
    case rel=>exact⟨k+1,by omega,by go_num,blw⟩
    case measure=>simp[intOf];omega
   ·have hmk:=λW=>Au ((k:Int)-l.length) W (by omega) (by omega)
    have hj:(marksOf mkX)[k-l.length]?=some (mkX ((k:Int)-l.length)):=by
     rw[lp mkX _ (by omega),show ((k-l.length:Nat):Int)=(k:Int)-l.length by omega]
    have hcm:∀i u,(mkE ((k:Int)-l.length))[i]?=some u->wr.cell? ⟨g,k*7+i,none⟩=some u:=by
     intro i u hu
     obtain⟨cs,hcl,hcR,hci⟩:=(uw wr).at_ hj
     obtain⟨A',c',hcs,-,hnil⟩:=hcR
     have:=Rd.right hrd.rd ((k-l.length)*7+i) u (by
      have h0:eT[(k-l.length)*7+i]?=(mkE ((k:Int)-l.length))[i]?:=by
       unfold eT
       rw[uv _ i (by omega) (by rcases Nat.lt_or_ge i 7 with h|h;exact h;rw[List.getElem?_eq_none (by simpa[mkE] using h)]at hu;cases hu)]
       rw[show ((k-l.length:Nat):Int)=(k:Int)-l.length by omega]
      rw[h0];exact hu)
     rw[show k*7+i=xs.length+((k-l.length)*7+i) by rw[hxl];omega]
     exact this
    have hS:=λW=>me 1 _ _ _ _ W (uu ((k:Int)-l.length) W) (uu ((k:Int)-l.length) W) (Ah _) (Ah _)
    simp only[mF]at hS
    simp only[mkE]at hmk hcm hS
    generalize 8000024+((k:Int)-l.length)=s at *
    have c0:∀d os,(Sort.grow (redrawn wr d) os).cell? ⟨g,k*7,none⟩=some (.int .i64 s):=λd os=>ab (hcm 0 _ rfl) (below_regrown wr d os)
    have c1:∀d os,(Sort.grow (redrawn wr d) os).cell? ⟨g,k*7+1,none⟩=some (.string ⟨#[]⟩):=λd os=>ab (hcm 1 _ rfl) (below_regrown wr d os)
    have c2:∀d os,(Sort.grow (redrawn wr d) os).cell? ⟨g,k*7+2,none⟩=some (.int .i64 0):=λd os=>ab (hcm 2 _ rfl) (below_regrown wr d os)
    have c3:∀d os,(Sort.grow (redrawn wr d) os).cell? ⟨g,k*7+3,none⟩=some (.string ⟨#[]⟩):=λd os=>ab (hcm 3 _ rfl) (below_regrown wr d os)
    have c4:∀d os,(Sort.grow (redrawn wr d) os).cell? ⟨g,k*7+4,none⟩=some (.string ⟨#[]⟩):=λd os=>ab (hcm 4 _ rfl) (below_regrown wr d os)
    have c5:∀d os,(Sort.grow (redrawn wr d) os).cell? ⟨g,k*7+5,none⟩=some (.string ⟨#[]⟩):=λd os=>ab (hcm 5 _ rfl) (below_regrown wr d os)
    have c6:∀d os,(Sort.grow (redrawn wr d) os).cell? ⟨g,k*7+6,none⟩=some (.slice none 0 0):=λd os=>ab (hcm 6 _ rfl) (below_regrown wr d os)
    have hd1:decide ((k:Int)<(l.length:Int))=false:=by simp;omega
    have hd2:decide (l.length<=k)=true:=by simp;omega
    have e1:IntKind.i64.wrap ((k:Int)-l.length)=(k:Int)-l.length:=IntWalk.i64_in _ (by omega)
    clear hj hcm hrd hrl hra hE hz hxl
    go_wp2
    refine wrq ?_;(repeat (any_goals (go_big_quiet_step ((first|(go_at_call 85;exact Calls.regrown_of (hmk _))|(go_at_call 105;exact Calls.regrown_of (hS _)))))));all_goals (refine wqn ?_;intro d9 os9)
    go_wp2
    go_roundw
    case rel=>exact⟨k+1,by omega,by go_num,blw⟩
    case measure=>simp[intOf];omega
  ·go_wp2
   go_ret
   exact⟨rfl,hB⟩
theorem sT:∀n:Nat,KpE n
 | 0=>λ_ _ _ _ _ h _ _=>h.elim
 | n+1=>by
  intro B x cs ds W hL hR hz
  have hS0:∀w',Below W.heap.size W w'->Calls Tryz.prog 105 #[.agg cs.toArray,.agg ds.toArray] w' λe w2=>e=.returned (.bool true)/\Below w'.heap.size w' w2:=λw' hb=>by
   have h:=me (n+1) x x cs ds w' (hL.old hb).rdE (hR.later hb) hz hz
   rwa [mF]at h
  obtain⟨k,s,t,ks⟩:=x
  have hL0:=hL
  have hR0:=hR
  have hz0:=hz
  obtain⟨g,xs,rfl,hg,hlb,hla⟩:=hL0
  obtain⟨A,c,rfl,hc1,hr⟩:=hR0
  obtain⟨z1,z2,z3,z4⟩:=hz0
  have hB2:Below W.heap.size W ((W.alloc (.cells #[.int .i64 k,.string s,.int .i64 t.k,.string t.x,.string t.l,.string t.y,.slice (some ⟨g,0,none⟩) ks.length (ks.length+12)] 78)).alloc (.cells #[.int .i64 k,.string s,.int .i64 t.k,.string t.x,.string t.l,.string t.y,.slice A ks.length c] 78)):=blw
  clear hL hR
  have hc:=hS0 _ hB2
  go_enter Tryz.func104,Tryz.ntmps104
  go_wp2_with fail
  refine hc.mono ?_
  rintro e w2 ⟨rfl,hb2⟩
  have b02:=aa hB2 hb2
  have k6:w2.cell? ⟨W.heap.size,6,none⟩=some (.slice (some ⟨g,0,none⟩) ks.length (ks.length+12)):=ab (by rw[World.cell?,aj];rfl) hb2
  have l6:w2.cell? ⟨W.heap.size+1,6,none⟩=some (.slice A ks.length c):=ab (by rw[World.cell?,ah];rfl) hb2
  have hK:=pL n (sT n) B ks g xs A c w2 hg (hlb.stays (aF.below b02) hg) (hla.mono λ_ _ _ h=>h.old b02) (aB.later hr b02) z3 z4
  clear hS0 hc hz hlb hla hr hB2 hb2 z1 z2 z3 z4
  go_wp2_with (go_at_call 67;refine hK.mono ?_;rintro e w3 ⟨rfl,hb3⟩)
  go_ret
  exact⟨rfl,aa b02 hb3⟩
theorem CG (n:Nat) (a b:Qy n) (cs ds:List Value) (w:World) (ha:RdQ n w cs a) (hb:RdQ n w ds b) (sa:szL a) (sb:szL b) :
  Calls Tryz.prog 65 #[.agg cs.toArray,.agg ds.toArray] w λe w'=>e=.returned (.bool (pg a b))/\Below w.heap.size w w':=by
 obtain⟨a1,a2,a3,a4,c1,c2,c3,c4,rfl,-,h1,h2,h3,h4⟩:=ha
 obtain⟨b1,b2,b3,b4,d1,d2,d3,d4,rfl,-,k1,k2,k3,k4⟩:=hb
 obtain⟨s1,s2,s3,s4,s5⟩:=sa
 obtain⟨t1,t2,t3,t4,t5⟩:=sb
 have e:pg a b=(a.ask == b.ask && a.dist == b.dist && eqL oO a.vars b.vars && eqL bN a.pats b.pats && eqL (cP n) a.fils b.fils && eqL cz a.ord b.ord && a.lim == b.lim && a.off == b.off):=by
  unfold pg
  generalize (a.ask == b.ask)=x1
  generalize (a.dist == b.dist)=x2
  generalize (a.lim == b.lim)=x3
  generalize (a.off == b.off)=x4
  generalize (eqL oO a.vars b.vars)=x5
  generalize (eqL bN a.pats b.pats)=x6
  generalize (eqL (cP n) a.fils b.fils)=x7
  generalize (eqL cz a.ord b.ord)=x8
  revert x1 x2 x3 x4 x5 x6 x7 x8
  decide
 have et:eqL oO a.vars b.vars=ej a.vars b.vars:=by
  unfold ej;rw[Bool.eq_iff_iff,fK (λa _ b=>gI)];simp
 rw[e]
 exact uA a.ask b.ask a.dist b.dist a.lim b.lim a.off b.off a1 a2 a3 a4 b1 b2 b3 b4 a.vars.length a.pats.length a.fils.length a.ord.length b.vars.length b.pats.length b.fils.length b.ord.length c1 c2 c3 c4 d1 d2 d3 d4 _ _ _ _ w
  (λW hW=>by rw[et];exact pf a.vars b.vars a1 b1 c1 d1 W (h1.later hW) (k1.later hW) s1 t1)
  (λW hW=>CH a.pats b.pats a2 b2 c2 d2 W (RdL.mono h2 hW λ_ _ _ h=>h) (RdL.mono k2 hW λ_ _ _ h=>h) s2 t2)
  (λW hW=>sN n (me n) a.fils b.fils a3 b3 c3 d3 W (aB.later h3 hW) (aB.later k3 hW) s3 t3 s5 t5)
  (λW hW=>CI a.ord b.ord a4 b4 c4 d4 W (RdL.mono h4 hW λ_ _ _ h=>h) (RdL.mono k4 hW λ_ _ _ h=>h) s4 t4)
def nV (n B:Nat) (w:World) (cs:List Value) (q:Qy n):Prop:=∃(g1 g2 g3 g4:Nat) (xs:List Value),cs=[.bool q.ask,.bool q.dist,.slice (some ⟨g1,0,none⟩) q.vars.length (q.vars.length+12),.slice (some ⟨g2,0,none⟩) q.pats.length (q.pats.length+12),.slice (some ⟨g3,0,none⟩) q.fils.length (q.fils.length+12),.slice (some ⟨g4,0,none⟩) q.ord.length (q.ord.length+12),.int .i64 q.lim,.int .i64 q.off]/\(B<=g1/\B<=g2/\B<=g3/\B<=g4) /\
 aG 9 w g1 ((q.vars++marksOf (λi=>mkT 1 i)).map Value.string)/\aG 124 w g2 ((q.pats++marksOf j9).flatMap cPat)/\(aG 78 w g3 (xs++eT)/\All 7 (dA n B w) xs q.fils)/\aG 72 w g4 ((q.ord++marksOf ja).flatMap cKey)
theorem nV.step {n B:Nat} {w w':World} {cs:List Value} {q:Qy n} (h:nV n B w cs q) (hs:aF B w w'):nV n B w' cs q:=by
 obtain⟨g1,g2,g3,g4,xs,h0,⟨b1,b2,b3,b4⟩,h1,h2,⟨h3,h5⟩,h4⟩:=h
 exact⟨g1,g2,g3,g4,xs,h0,⟨b1,b2,b3,b4⟩,h1.stays hs b1,h2.stays hs b2,⟨h3.stays hs b3,h5.mono λ_ _ _ h=>h.step hs⟩,h4.stays hs b4⟩
theorem nV.later {n B:Nat} {w w':World} {cs:List Value} {q:Qy n} (h:nV n B w cs q) (hb:Below w.heap.size w w'):nV n B w' cs q:=h.step (aF.below hb)
theorem aG.rdPat {w:World} {g:Nat} {l m:List Pat} {T:TypeId} (h:aG T w g ((l++m).flatMap cPat)):tF w (some ⟨g,0,none⟩) l:=by
 rw[List.flatMap_append]at h
 exact(RdL.flatC (f:=cPat) (sz:=15) λ_=>rfl).2 h.rd1
theorem aG.rdKey {w:World} {g:Nat} {l m:List Ky} {T:TypeId} (h:aG T w g ((l++m).flatMap cKey)):dl w (some ⟨g,0,none⟩) l:=by
 rw[List.flatMap_append]at h
 exact(RdL.flatC (f:=cKey) (sz:=2) λ_=>rfl).2 h.rd1
theorem aG.rdStr {w:World} {g:Nat} {l m:List ByteArray} {T:TypeId} (h:aG T w g ((l++m).map Value.string)):Rd w (some ⟨g,0,none⟩) (l.map Value.string):=by
 rw[List.map_append]at h
 exact h.rd1
theorem nV.rdQ {n B:Nat} {w:World} {cs:List Value} {q:Qy n} (h:nV n B w cs q):RdQ n w cs q:=by
 obtain⟨g1,g2,g3,g4,xs,h0,-,h1,h2,⟨h3,h5⟩,h4⟩:=h
 exact⟨_,_,_,_,_,_,_,_,h0,⟨Nat.le_add_right _ _,Nat.le_add_right _ _,Nat.le_add_right _ _,Nat.le_add_right _ _⟩,h1.rdStr,h2.rdPat,⟨xs,h3.rd1,h5.mono λ_ _ _ h=>h.rdE⟩,h4.rdKey⟩
theorem Dt (n:Nat) (q:Qy n) (cs:List Value) (w:World) (hr:RdQ n w cs q) (hz:szL q) (z1:q.vars.length<=1048576) (z2:q.pats.length<=1048576) (z4:q.ord.length<=1048576) :
  Calls Tryz.prog 12 #[.agg cs.toArray] w λe w'=>∃ds,e=.returned (.agg ds.toArray)/\nV n w.heap.size w' ds q/\Below w.heap.size w w':=by
 obtain⟨a1,a2,a3,a4,c1,c2,c3,c4,rfl,-,r1,r2,r3,r4⟩:=hr
 refine(AB n q.ask q.dist q.lim q.off q.vars q.pats q.fils q.ord a1 a2 a3 a4 c1 c2 c3 c4 w r1 ((RdL.flatC (f:=cPat) (sz:=15) λ_=>rfl).1 r2) r3 ((RdL.flatC (f:=cKey) (sz:=2) λ_=>rfl).1 r4) z1 z2 hz.2.2.1 z4 hz.2.2.2.2).mono ?_
 rintro e w' ⟨g1,g2,g3,g4,xs,rfl,⟨b1,b2,b3,b4⟩,h1,h2,⟨h3,h5⟩,h4,hb⟩
 exact⟨_,rfl,⟨g1,g2,g3,g4,xs,rfl,⟨by omega,by omega,by omega,by omega⟩,h1,h2,⟨h3,h5.mono λ_ _ _ h=>h.lower (by omega)⟩,h4⟩,hb⟩
theorem ua {n:Nat} (q:Qy n):pg q q=true:=xa.2 rfl
theorem Du (n B:Nat) (q:Qy n) (cs ds:List Value) (W:World) (hL:nV n B W cs q) (hr:RdQ n W ds q) (hz:szL q) (z1:q.vars.length<=1048576) (z2:q.pats.length<=1048576) (z4:q.ord.length<=1048576) :
  Calls Tryz.prog 30 #[.agg cs.toArray,.agg ds.toArray] W λe w'=>e=.returned (.bool true)/\Below W.heap.size W w':=by
 have hS0:∀w',Below W.heap.size W w'->Calls Tryz.prog 65 #[.agg cs.toArray,.agg ds.toArray] w' λe w2=>e=.returned (.bool true)/\Below w'.heap.size w' w2:=λw' hb=>by
  have h:=CG n q q cs ds w' (hL.later hb).rdQ (hr.later hb) hz hz
  rwa [ua]at h
 obtain⟨g1,g2,g3,g4,xs,rfl,⟨b1,b2,b3,b4⟩,h1,h2,⟨h3,h5⟩,h4⟩:=hL
 obtain⟨a1,a2,a3,a4,c1,c2,c3,c4,rfl,-,r1,r2,r3,r4⟩:=hr
 have hB2:Below W.heap.size W ((W.alloc (.cells #[.bool q.ask,.bool q.dist,.slice (some ⟨g1,0,none⟩) q.vars.length (q.vars.length+12),.slice (some ⟨g2,0,none⟩) q.pats.length (q.pats.length+12),.slice (some ⟨g3,0,none⟩) q.fils.length (q.fils.length+12),.slice (some ⟨g4,0,none⟩) q.ord.length (q.ord.length+12),.int .i64 q.lim,.int .i64 q.off] 30)).alloc (.cells #[.bool q.ask,.bool q.dist,.slice a1 q.vars.length c1,.slice a2 q.pats.length c2,.slice a3 q.fils.length c3,.slice a4 q.ord.length c4,.int .i64 q.lim,.int .i64 q.off] 30)):=blw
 have hc:=hS0 _ hB2
 have K1:=λ(w':World) (hb:Below W.heap.size W w')=>kz q.vars g1 a1 c1 w' (h1.stays (aF.below hb) b1) (r1.later hb) z1
 have K2:=λ(w':World) (hb:Below W.heap.size W w')=>qO q.pats g2 a2 c2 w' (h2.stays (aF.below hb) b2) ((RdL.flatC (f:=cPat) (sz:=15) λ_=>rfl).1 (RdL.mono r2 hb λ_ _ _ h=>h)) z2
 have K3:=λ(w':World) (hb:Below W.heap.size W w')=>pL n (sT n) B q.fils g3 xs a3 c3 w' b3 (h3.stays (aF.below hb) b3) (h5.mono λ_ _ _ h=>h.old hb) (aB.later r3 hb) hz.2.2.1 hz.2.2.2.2
 have K4:=λ(w':World) (hb:Below W.heap.size W w')=>AI q.ord g4 a4 c4 w' (h4.stays (aF.below hb) b4) ((RdL.flatC (f:=cKey) (sz:=2) λ_=>rfl).1 (RdL.mono r4 hb λ_ _ _ h=>h)) z4
 clear hS0 h1 h2 h3 h4 h5 r1 r2 r3 r4 hz z1 z2 z4
 go_enter Tryz.func30,Tryz.ntmps30
 go_wp2_with fail
 refine hc.mono ?_
 rintro e w1 ⟨rfl,hb1⟩
 have hs1:=hb1.size
 have k1:w1.cell? ⟨W.heap.size,2,none⟩=some (.slice (some ⟨g1,0,none⟩) q.vars.length (q.vars.length+12)):=ab (by rw[World.cell?,aj];rfl) hb1
 have l1:w1.cell? ⟨W.heap.size+1,2,none⟩=some (.slice a1 q.vars.length c1):=ab (by rw[World.cell?,ah];rfl) hb1
 have k2:w1.cell? ⟨W.heap.size,3,none⟩=some (.slice (some ⟨g2,0,none⟩) q.pats.length (q.pats.length+12)):=ab (by rw[World.cell?,aj];rfl) hb1
 have l2:w1.cell? ⟨W.heap.size+1,3,none⟩=some (.slice a2 q.pats.length c2):=ab (by rw[World.cell?,ah];rfl) hb1
 have k3:w1.cell? ⟨W.heap.size,4,none⟩=some (.slice (some ⟨g3,0,none⟩) q.fils.length (q.fils.length+12)):=ab (by rw[World.cell?,aj];rfl) hb1
 have l3:w1.cell? ⟨W.heap.size+1,4,none⟩=some (.slice a3 q.fils.length c3):=ab (by rw[World.cell?,ah];rfl) hb1
 have k4:w1.cell? ⟨W.heap.size,5,none⟩=some (.slice (some ⟨g4,0,none⟩) q.ord.length (q.ord.length+12)):=ab (by rw[World.cell?,aj];rfl) hb1
 have l4:w1.cell? ⟨W.heap.size+1,5,none⟩=some (.slice a4 q.ord.length c4):=ab (by rw[World.cell?,ah];rfl) hb1
 have B1:=aa hB2 hb1
 clear hc hB2 hb1
 have hk:=K1 _ B1
 go_wp2_with fail
 refine hk.mono ?_
 rintro e w2 ⟨rfl,hb2⟩
 clear hk
 replace k2:=ab k2 hb2
 replace l2:=ab l2 hb2
 replace k3:=ab k3 hb2
 replace l3:=ab l3 hb2
 replace k4:=ab k4 hb2
 replace l4:=ab l4 hb2
 have B2:=aa B1 hb2
 clear hb2
 clear k1 l1
 have hk:=K2 _ B2
 go_wp2_with fail
 refine hk.mono ?_
 rintro e w3 ⟨rfl,hb3⟩
 clear hk
 replace k3:=ab k3 hb3
 replace l3:=ab l3 hb3
 replace k4:=ab k4 hb3
 replace l4:=ab l4 hb3
 have B3:=aa B2 hb3
 clear hb3
 clear k2 l2
 have hk:=K3 _ B3
 go_wp2_with fail
 refine hk.mono ?_
 rintro e w4 ⟨rfl,hb4⟩
 clear hk
 replace k4:=ab k4 hb4
 replace l4:=ab l4 hb4
 have B4:=aa B3 hb4
 clear hb4
 clear k3 l3
 have hk:=K4 _ B4
 go_wp2_with fail
 refine hk.mono ?_
 rintro e w5 ⟨rfl,hb5⟩
 clear hk
 go_wp2
 go_ret
 exact⟨rfl,aa B4 hb5⟩
end Go.Proofs.YtoejnneknpoanaaGreatDoor
