/- The document's answer for layer 26: Solutions, walked (print -/
import Derived.Test.YtfcbghmbbjolcaaGreatDoorJMR9
import Derived.Test.YtfcbghmbbjolcaaGreatDoorJTpL
namespace Go.Proofs.YtfcbghmbbjolcaaGreatDoor
open Go Go.RowKit Um Fm Mt Tx Om Mn Mp Mv
def gY (base:Nat) (w:World) (cs:List Value) (bs:List Bool):Prop:=∃v,cs=[v]/\w.ownsRow base 4 1 v bs.length (bs.map Value.bool)
theorem gY.keep {base:Nat} {w w':World} {cs:List Value} {bs:List Bool} (h:gY base w cs bs) (hk:KeepT 4 w w'):gY base w' cs bs:=by
 obtain⟨v,h1,h2⟩:=h
 exact⟨v,h1,own_keep h2 hk⟩
def ep (b0 b:Nat) (w:World) (va vb:Value) (L:List Pr):Prop:=∃xs ys,(w.ownsRow b 58 1 va L.length xs/\All 1 (OwnRow b0 w) xs (L.map (·.1)))/\(w.ownsRow b 104 1 vb L.length ys/\All 1 (gY b0 w) ys (L.map (·.2)))
theorem ep.nil (b0 b:Nat) (w:World):ep b0 b w (.slice none 0 0) (.slice none 0 0) []:=⟨[],[],⟨World.ownsRow_nil _ _ _ _,rfl⟩,World.ownsRow_nil _ _ _ _,rfl⟩
theorem ep.later {b0 b:Nat} {w w':World} {va vb:Value} {L:List Pr} (h:ep b0 b w va vb L) (hb:Below w.heap.size w w'):ep b0 b w' va vb L:=by
 obtain⟨xs,ys,⟨h1,h2⟩,h3,h4⟩:=h
 exact⟨xs,ys,⟨own_below h1 hb (Nat.le_refl _),h2.mono λ_ _ _ h=>h.keep (KeepT.below hb)⟩,own_below h3 hb (Nat.le_refl _),h4.mono λ_ _ _ h=>h.keep (KeepT.below hb)⟩
theorem ep.lower {b0 b b':Nat} {w:World} {va vb:Value} {L:List Pr} (h:ep b0 b w va vb L) (hb:b'<=b):ep b0 b' w va vb L:=by
 obtain⟨xs,ys,⟨h1,h2⟩,h3,h4⟩:=h
 exact⟨xs,ys,⟨own_lower h1 hb,h2⟩,own_lower h3 hb,h4⟩
theorem ep.at_ {b0 b:Nat} {w:World} {va vb:Value} {L:List Pr} (h:ep b0 b w va vb L):∃A c B d,va=.slice A L.length c/\vb=.slice B L.length d/\L.length<=c/\(∀k e,L[k]?=some e->∃g o u g2 o2 u2,A=some ⟨g,o,none⟩/\w.cell? ⟨g,o+k,none⟩=some u/\w.ownsRow b0 62 4 u e.1.length (e.1.flatMap tmC)/\B=some ⟨g2,o2,none⟩/\w.cell? ⟨g2,o2+k,none⟩=some u2/\w.ownsRow b0 4 1 u2 e.2.length (e.2.map Value.bool))/\RdRs w A (L.map (·.1)):=by
 obtain⟨xs,ys,⟨h1,h2⟩,h3,h4⟩:=h
 obtain⟨A,c,rfl,hc,hr⟩:=own_slice h1
 obtain⟨B,d,rfl,_,hr2⟩:=own_slice h3
 refine⟨A,c,B,d,rfl,rfl,hc,λk e he=>?_,xs,hr,h2.mono λ_ _ _ h=>h.rd⟩
 have e1:(L.map (·.1))[k]?=some e.1:=by rw[List.getElem?_map,he];rfl
 have e2:(L.map (·.2))[k]?=some e.2:=by rw[List.getElem?_map,he];rfl
 obtain⟨g,o,cs,hA,_,⟨u,rfl,hu⟩,hx⟩:=RdL.at_ (⟨xs,hr,h2⟩:RdL 1 (OwnRow b0 w) w A (L.map (·.1))) (by omega) e1
 obtain⟨g2,o2,cs2,hB,_,⟨u2,rfl,hu2⟩,hx2⟩:=RdL.at_ (⟨ys,hr2,h4⟩:RdL 1 (gY b0 w) w B (L.map (·.2))) (by omega) e2
 have q1:=hx 0 _ rfl
 have q2:=hx2 0 _ rfl
 rw[Nat.mul_one,Nat.add_zero]at q1 q2
 exact⟨g,o,u,g2,o2,u2,hA,q1,hu,hB,q2,hu2⟩
theorem Jc {b0 b n:Nat} {wr V w6:World} {ve vf vx vy:Value} {xs ys:List Value} {acc:List Pr} {e:Pr} (h1:wr.ownsRow b 58 1 ve n xs) (h2:All 1 (OwnRow b0 wr) xs (acc.map (·.1))) (h3:wr.ownsRow b 104 1 vf n ys) (h4:All 1 (gY b0 wr) ys (acc.map (·.2))) (hV:Below wr.heap.size wr V) (hx:wr.ownsRow b0 62 4 vx e.1.length (e.1.flatMap tmC)) (hy:wr.ownsRow b0 4 1 vy e.2.length (e.2.map Value.bool)) (hg:V.grownBy w6 ve.ownBlock) :
  All 1 (OwnRow b0 w6) (xs++[vx]) ((acc++[e]).map (·.1))/\w6.ownsRow b 104 1 vf n ys/\All 1 (gY b0 w6) ys (acc.map (·.2))/\w6.ownsRow b0 4 1 vy e.2.length (e.2.map Value.bool):=by
 have hr:=own_blockR (own_below h1 hV (Nat.le_refl _))
 have k1:KeepT 62 wr w6:=(KeepT.below hV).trans (KeepT.grown hg hr (by decide))
 have k2:KeepT 4 wr w6:=(KeepT.below hV).trans (KeepT.grown hg hr (by decide))
 have k3:KeepT 104 wr w6:=(KeepT.below hV).trans (KeepT.grown hg hr (by decide))
 refine⟨?_,own_keep h3 k3,h4.mono λ_ _ _ h=>h.keep k2,own_keep hy k2⟩
 rw[List.map_append]
 exact(h2.mono λ_ _ _ h=>h.keep k1).append (All.one rfl ⟨vx,rfl,own_keep hx k1⟩)
theorem Jb {b0 b n:Nat} {w6 V w7:World} {v6 v7 vf vy:Value} {xs ys:List Value} {acc:List Pr} {e:Pr} (h1:w6.ownsRow b 58 1 v6 (n+1) xs) (h2:All 1 (OwnRow b0 w6) xs ((acc++[e]).map (·.1))) (h3:w6.ownsRow b 104 1 vf n ys) (h4:All 1 (gY b0 w6) ys (acc.map (·.2))) (hV:Below w6.heap.size w6 V) (hy:w6.ownsRow b0 4 1 vy e.2.length (e.2.map Value.bool)) (hg:V.grownBy w7 vf.ownBlock) (own7:w7.ownsRow b 104 1 v7 (n+1) (ys++[vy])) (hn:acc.length=n) :
  ep b0 b w7 v6 v7 (acc++[e]):=by
 have hr:=own_blockR (own_below h3 hV (Nat.le_refl _))
 have k1:KeepT 62 w6 w7:=(KeepT.below hV).trans (KeepT.grown hg hr (by decide))
 have k2:KeepT 4 w6 w7:=(KeepT.below hV).trans (KeepT.grown hg hr (by decide))
 have k3:KeepT 58 w6 w7:=(KeepT.below hV).trans (KeepT.grown hg hr (by decide))
 have hl:(acc++[e]).length=n+1:=by rw[List.length_append,hn];rfl
 refine⟨xs,ys++[vy],⟨by rw[hl];exact own_keep h1 k3,h2.mono λ_ _ _ h=>h.keep k1⟩,by rw[hl];exact own7,?_⟩
 rw[List.map_append]
 exact(h4.mono λ_ _ _ h=>h.keep k2).append (All.one rfl ⟨vy,rfl,own_keep hy k2⟩)
def ll (vars:List ByteArray) (base n:Nat) (e:Pr) (x:Sl) (t:Tm) (va vb vz:Value) (w':World):Prop:=∃b:Bool,vz=.bool b/\b=(rb1 vars e x t).isSome/\∀e',rb1 vars e x t=some e'->w'.ownsRow base 62 4 va n (e'.1.flatMap tmC)/\w'.ownsRow base 4 1 vb n (e'.2.map Value.bool)
theorem CO (n:Nat):(madeCells (Value.bool false).cells (n*1)).toList=(List.replicate n false).map Value.bool:=by
 have hz:(Value.bool false).cells=#[.bool false]:=rfl
 rw[hz]
 unfold madeCells
 simp only[Array.toList_map,Array.toList_range]
 induction n with
 | zero=>rfl
 | succ n ih =>
  rw[show (n+1)*1=n*1+1 by omega,List.range_succ,List.map_append,ih,List.replicate_succ',List.map_append]
  congr 1
  simp[Nat.mod_one]
theorem G9:(Tryz.prog.info? 104).map (λi=>(i.zero,i.size,i.bytes))=some (some (.slice none 0 0),1,24):=by kernel_rfl
theorem zm {w w2 w3 w4 w5:World} {vars:List ByteArray} {n ga gb:Nat} (hn:vars.length=n) (h1:w2.ownsRow w.heap.size 62 4 (.slice (some ⟨ga,0,none⟩) n n) n ((List.replicate n (⟨0,⟨#[]⟩,⟨#[]⟩,⟨#[]⟩⟩:Tm)).flatMap tmC)) (e3:w2.alloc (.cells #[.slice (some ⟨ga,0,none⟩) n n] 58)=w3) (hb4:Below w3.heap.size w3 w4) (h4:w4.ownsRow w.heap.size 4 1 (.slice (some ⟨gb,0,none⟩) n n) n ((List.replicate n false).map Value.bool)) (e5:w4.alloc (.cells #[.slice (some ⟨gb,0,none⟩) n n] 104)=w5) (hs2:w.heap.size<=w2.heap.size) :
  ep w.heap.size w.heap.size w5 (.slice (some ⟨w2.heap.size,0,none⟩) 1 1) (.slice (some ⟨w4.heap.size,0,none⟩) 1 1) [kr vars]:=by
 have b3:Below w2.heap.size w2 w3:=by rw[←e3];exact blw
 have b5:Below w4.heap.size w4 w5:=by rw[←e5];exact blw
 have b25:=aa b3 (aa hb4 b5)
 have z1:(vars.map λ_=>zTm)=List.replicate n (⟨0,⟨#[]⟩,⟨#[]⟩,⟨#[]⟩⟩:Tm):=by rw[←hn];exact List.map_const' ..
 have z2:(vars.map λ_=>false)=List.replicate n false:=by rw[←hn];exact List.map_const' ..
 have o1:w3.ownsRow w.heap.size 58 1 (.slice (some ⟨w2.heap.size,0,none⟩) 1 1) 1 [.slice (some ⟨ga,0,none⟩) n n]:=by rw[←e3];exact fa hs2 rfl rfl (by omega)
 have o2:w5.ownsRow w.heap.size 104 1 (.slice (some ⟨w4.heap.size,0,none⟩) 1 1) 1 [.slice (some ⟨gb,0,none⟩) n n]:=by rw[←e5];exact fa (Nat.le_trans hs2 (Nat.le_trans b3.size hb4.size)) rfl rfl (by omega)
 refine⟨_,_,⟨own_below o1 (aa hb4 b5) (Nat.le_refl _),All.one rfl ⟨_,rfl,?_⟩⟩,o2,All.one rfl ⟨_,rfl,?_⟩⟩
 ·show World.ownsRow _ _ _ _ _ (vars.map λ_=>zTm).length ((vars.map λ_=>zTm).flatMap tmC)
  rw[List.length_map,hn,z1]
  exact own_below h1 b25 (Nat.le_refl _)
 ·show World.ownsRow _ _ _ _ _ (vars.map λ_=>false).length ((vars.map λ_=>false).map Value.bool)
  rw[List.length_map,hn,z2]
  exact own_below h4 b5 (Nat.le_refl _)
theorem nc {x:Sl} (h:x.v.toList.isEmpty=false):x.v∈bF [x]:=by
 rw[dJ,if_neg (by rw[h];decide)];simp
theorem Jd (p:Pat) (h:p.s.v.toList.isEmpty=false):p.s.v∈cW p:=(cV p _).2 (.inl (.inl (nc h)))
theorem Je (p:Pat) (h:p.p.v.toList.isEmpty=false):p.p.v∈cW p:=(cV p _).2 (.inl (.inr (nc h)))
theorem Jf (p:Pat) (h:p.o.v.toList.isEmpty=false):p.o.v∈cW p:=(cV p _).2 (.inr (nc h))
def Gj (vars:List ByteArray) (L:List (List Tm)) (w:World) (e:Ending) (w':World):Prop:=
 ∃vv A c,e=.returned (.tuple #[vv,.slice A L.length c])/\w'.ownsRow w.heap.size 9 1 vv vars.length (vars.map Value.string)/\L.length<=c/\RdRs w' A L/\Below w.heap.size w w'
def JH (w wr:World) (v:Value) (L:List (List Tm)):Prop:=∃A c,v=.slice A L.length c/\L.length<=c/\RdRs wr A L/\Below w.heap.size w wr
theorem AJ {set:List Tp} {ps:List Pat} (hz:∀t∈set,cQ t) (hl:(ae ps).length<=1000000) {r:List Tm} (h:r∈(bfs (ae ps) set ps).map (·.1)):aN r:=by
 obtain⟨h1,h2⟩:=yc h
 refine⟨by omega,λv hv=>?_⟩
 obtain⟨t,ht,h3⟩:=h2 v hv
 obtain⟨a,b,c⟩:=hz t ht
 rcases h3 with rfl|rfl|rfl
 ·exact a
 ·exact b
 ·exact c
set_option maxHeartbeats 16000000 in
set_option maxRecDepth 100000 in
theorem lB (set:List Tp) (pats:List Pat) (As Ap:Option Addr) (N cs M cp:Nat) (w:World) (hN:set.length=N) (hM:pats.length=M) (hls:N<=1000) (hlp:M<=300) (hz:∀t∈set,cQ t) (hs:Rd w As (set.flatMap tpL)) (hp:bI w Ap pats) (hP:aP set pats<=1500) :
  Calls Tryz.prog 18 #[.slice As N cs,.slice Ap M cp] w (Gj (ae pats) (bi set pats) w):=by
 have hvl:(ae pats).length<=3*M:=by rw[←hM];exact fu pats
 obtain⟨nv,hnv⟩:∃n,(ae pats).length=n:=⟨_,rfl⟩
 have hq:=EP pats Ap cp w hp (by omega)
 rw[hM]at hq
 have H:=Lib.hid (And.intro hN (And.intro hM (And.intro hz (And.intro hs (And.intro hp (And.intro hP hnv))))))
 have hnv3:nv<=900:=by omega
 clear hN hM hz hs hp hP hvl
 go_enter Tryz.func18,Tryz.ntmps18
 go_upto_region 2 with (go_at_call 53;refine hq.mono ?_;rintro e w1 ⟨vv,rfl,ownv,bv⟩)
 rw[hnv]at ownv
 obtain⟨Av,cv,rfl,hcv,hrv⟩:=own_slice ownv
 obtain⟨it,hi,hzt,hsize,hby⟩:=info_parts iT
 obtain⟨ib,hib,hzb,hsizeb,hbyb⟩:=info_parts uM
 obtain⟨w2,hmk,own2,hg2⟩:=run_make_full (P:=Tryz.prog) w1 w.heap.size 58 62 it _ 4 Tryz.underlying58 hi hzt hsize .i64 .i64 nv (by rw[hby];omega) (by unfold maxLen;omega) bv.size
 have b2:Below w1.heap.size w1 w2:=(Below.refl _ w1).grown hg2 (Nat.le_refl _) (λk hk=>by cases hk)
 rw[tN]at own2
 obtain⟨w3,e3⟩:∃V:World,w2.alloc (.cells #[.slice (some ⟨w1.heap.size,0,none⟩) nv nv] 58)=V:=⟨_,rfl⟩
 have b3:Below w2.heap.size w2 w3:=by rw[←e3];exact blw
 have bw3:=aa bv (aa b2 b3)
 obtain⟨w4,hmk4,own4,hg4⟩:=run_make_full (P:=Tryz.prog) w3 w.heap.size 104 4 ib _ 1 Tryz.underlying104 hib hzb hsizeb .i64 .i64 nv (by rw[hbyb];omega) (by unfold maxLen;omega) bw3.size
 have b4:Below w3.heap.size w3 w4:=(Below.refl _ w3).grown hg4 (Nat.le_refl _) (λk hk=>by cases hk)
 rw[CO]at own4
 obtain⟨w5,e5⟩:∃V:World,w4.alloc (.cells #[.slice (some ⟨w3.heap.size,0,none⟩) nv nv] 104)=V:=⟨_,rfl⟩
 have b5:Below w4.heap.size w4 w5:=by rw[←e5];exact blw
 have hst:=zm hnv own2 e3 b4 own4 e5 (Nat.le_trans bv.size b2.size)
 have bw5:=aa bw3 (aa b4 b5)
 have b15:=aa b2 (aa b3 (aa b4 b5))
 have HV:=Lib.hid (And.intro (own_below ownv b15 (Nat.le_refl _)) (And.intro (hrv.later b15) bw5))
 have HS:=Lib.hid hst
 have HE:=Lib.hid (And.intro e3 e5)
 clear hq ownv bv hi hzt hsize hby hib hzb hsizeb hbyb own2 hg2 b2 e3 b3 bw3 own4 hg4 b4 e5 b5 hst bw5 b15 hrv hcv
 go_upto_region 3 with fail
 simp only[HE.out.1]
 go_upto_region 5 with fail
 simp only[HE.out.2]
 clear hmk hmk4
 go_loopw [7,8,9,10,11,12,13,14,15,16,17,18,19,20,21,22,23] (λva vb i _ _ _ _ _ _ _ _ _ _ _ _ _ _ wr=>∃j:Nat,j<=M/\i=.int .i64 j/\Hid (ep w.heap.size w.heap.size wr va vb (bfs (ae pats) set (pats.take j)))/\Hid (Below w5.heap.size w5 wr)) (λ_ _ i _ _ _ _ _ _ _ _ _ _ _ _ _ _ _=>M-(intOf i).toNat)
 case atStart=>exact⟨0,by omega,rfl,HS.out,Below.refl _ _⟩
 case round =>
  obtain⟨j,hj,rfl,HO,HB⟩:=hrel
  by_cases hlt:j<M
  ·obtain⟨hN,hM,hz,hs,hp,hP,hnv⟩:=H.out
   obtain⟨p,hpk⟩:∃p,pats[j]?=some p:=⟨_,List.getElem?_eq_getElem (by omega)⟩
   have hBw:=aa HV.out.2.2 HB.out
   have hfit:=λe he=>((oB set pats j).1 e he).1
   have hbl:=Nat.le_trans (mr set pats j (by omega)) (Nat.le_trans (fR set pats j) hP)
   have hcl:=λk m=>Nat.le_trans (It (set:=set) hpk k m) hP
   have hnx:Hid (bfs (ae pats) set (pats.take (j+1))=iI (ae pats) set (bfs (ae pats) set (pats.take j)) p):=uN (ae pats) set hpk
   have hoc:=nd (List.mem_of_getElem? hpk)
   obtain⟨L,hL⟩:∃L,bfs (ae pats) set (pats.take j)=L:=⟨_,rfl⟩
   rw[hL]at HO hfit hbl hcl hnx
   obtain⟨n,hn⟩:∃n,L.length=n:=⟨_,rfl⟩
   obtain⟨A,ca,B,cb,rfl,rfl,hca,hat,_⟩:=HO.out.at_
   rw[hn]at hbl HO hca
   simp only[hn]
   obtain⟨g2,o2,cs2,rfl,_,rfl,hx⟩:=(RdL.mono hp hBw λ_ _ _ h=>h).at_ (by omega) hpk
   have q0:wr.cell? ⟨g2,o2+j*15,none⟩=some (.string p.s.v):=hx 0 _ rfl
   have q1:=hx 1 _ rfl
   have q2:=hx 2 _ rfl
   have q3:=hx 3 _ rfl
   have q4:=hx 4 _ rfl
   have q5:=hx 5 _ rfl
   have q6:=hx 6 _ rfl
   have q7:=hx 7 _ rfl
   have q8:=hx 8 _ rfl
   have q9:=hx 9 _ rfl
   have q10:=hx 10 _ rfl
   have q11:=hx 11 _ rfl
   have q12:=hx 12 _ rfl
   have q13:=hx 13 _ rfl
   have q14:=hx 14 _ rfl
   obtain⟨W4,hW4⟩:∃V:World,wr.alloc (.cells #[.string p.s.v,.int .i64 p.s.t.k,.string p.s.t.x,.string p.s.t.l,.string p.s.t.y,.string p.p.v,.int .i64 p.p.t.k,.string p.p.t.x,.string p.p.t.l,.string p.p.t.y,.string p.o.v,.int .i64 p.o.t.k,.string p.o.t.x,.string p.o.t.l,.string p.o.t.y] 72)=V:=⟨_,rfl⟩
   have hb4:Below wr.heap.size wr W4:=by rw[←hW4];exact blw
   have hk4:∀(i:Nat) (v:Value),(#[.string p.s.v,.int .i64 p.s.t.k,.string p.s.t.x,.string p.s.t.l,.string p.s.t.y,.string p.p.v,.int .i64 p.p.t.k,.string p.p.t.x,.string p.p.t.l,.string p.p.t.y,.string p.o.v,.int .i64 p.o.t.k,.string p.o.t.x,.string p.o.t.l,.string p.o.t.y]:Array Value)[i]?=some v->W4.cell? ⟨wr.heap.size,i,none⟩=some v:=λi v h=>by rw[←hW4,World.cell?,heap_alloc_new];simpa using h
   have hsw:w.heap.size<=W4.heap.size:=Nat.le_trans hBw.size hb4.size
   have HX:=Lib.hid (And.intro hk4 (And.intro (HO.out.later hb4) (And.intro hfit (And.intro hoc (And.intro hcl (And.intro (aa HB.out hb4) hn))))))
   have HW4:=Lib.hid hW4
   clear hN hM hz hs hp hP hnv hpk hBw hfit hcl hoc hL hat hx hb4 hk4 hn
   go_upto_region 11 with fail
   try simp only[HW4.out]
   clear hW4 HW4
   generalize wr.heap.size=gp at *
   clear q0 q1 q2 q3 q4 q5 q6 q7 q8 q9 q10 q11 q12 q13 q14
   go_loopw [11,12,13,14,15,16,17,18,19,20,21,22,23] (λve vf i _ _ _ _ _ _ _ _ _ _ wr2=>∃k:Nat,k<=n/\i=.int .i64 k/\Hid (ep w.heap.size W4.heap.size wr2 ve vf (cj (ae pats) set p L k 0))/\Hid (Below W4.heap.size W4 wr2)) (λ_ _ i _ _ _ _ _ _ _ _ _ _ _=>n-(intOf i).toNat)
   case atStart=>exact⟨0,by omega,rfl,by rw[Aq];exact ep.nil _ _ _,Below.refl _ _⟩
   case round =>
    obtain⟨k,hk,rfl,HO2,HB2⟩:=hrel
    by_cases hlt2:k<n
    ·obtain⟨e,he⟩:∃e,L[k]?=some e:=⟨_,List.getElem?_eq_getElem (by rw[HX.out.2.2.2.2.2.2];exact hlt2)⟩
     have HE0:=Lib.hid he
     go_upto_region 14 with fail
     clear he
     go_loopw [11,12,14,15,16,17,18,19,20,21,22,23] (λve vf i _ _ _ _ _ _ _ _ _ wr3=>∃m:Nat,m<=N/\i=.int .i64 m/\Hid (ep w.heap.size W4.heap.size wr3 ve vf (cj (ae pats) set p L k m))/\Hid (Below W4.heap.size W4 wr3)) (λ_ _ i _ _ _ _ _ _ _ _ _ _=>N-(intOf i).toNat)
     case atStart=>exact⟨0,by omega,rfl,HO2.out,HB2.out⟩
     case round =>
      obtain⟨m,hm,rfl,HO3,HB3⟩:=hrel
      by_cases hlt3:m<N
      ·obtain⟨hN,hM,hz,hs,hp,hP,hnv⟩:=H.out
       obtain⟨hk4,hO4,hfit,hoc,hcl,hB4,hn⟩:=HX.out
       obtain⟨t,ht⟩:∃t,set[m]?=some t:=⟨_,List.getElem?_eq_getElem (by omega)⟩
       have hB5:=aa hB4 HB3.out
       obtain⟨A2,ca2,B2,cb2,ea,eb,_,hat,_⟩:=(hO4.later HB3.out).at_
       injection ea with ea en1 en2
       injection eb with eb en3 en4
       clear en1 en2 en3 en4
       subst ea eb
       obtain⟨g,o,u,g3,o3,u3,rfl,hc1,hu,rfl,hc2,hu3⟩:=hat k e HE0.out
       have hfe:=hfit e (List.mem_of_getElem? HE0.out)
       rw[hfe.1,hnv]at hu
       rw[hfe.2,hnv]at hu3
       obtain⟨Br,cr,rfl,hcr,_⟩:=own_slice hu
       obtain⟨Dr,dr,rfl,hdr,_⟩:=own_slice hu3
       obtain⟨g5,o5,rfl,c0,c1,c2,c3,c4,c5,c6,c7,c8,c9,c10,c11⟩:=f7 (hs.later (aa HV.out.2.2 hB5)) ht
       have hkq:=λ(i:Nat) (v:Value) h=>ac (hk4 i v h) HB3.out
       obtain⟨x0,x1,x2,x3,x4,x5,x6,x7,x8,x9,x10,x11,x12,x13,x14⟩:_/\_/\_/\_/\_/\_/\_/\_/\_/\_/\_/\_/\_/\_/\_:=⟨hkq 0 _ rfl,hkq 1 _ rfl,hkq 2 _ rfl,hkq 3 _ rfl,hkq 4 _ rfl,hkq 5 _ rfl,hkq 6 _ rfl,hkq 7 _ rfl,hkq 8 _ rfl,hkq 9 _ rfl,hkq 10 _ rfl,hkq 11 _ rfl,hkq 12 _ rfl,hkq 13 _ rfl,hkq 14 _ rfl⟩
       have hrv:=HV.out.2.1.later hB5
       have hsq:w.heap.size<=wr.heap.size:=Nat.le_trans hsw HB3.out.size
       have HQ:=Lib.hid (And.intro ht (And.intro hu (And.intro hu3 (And.intro hrv (And.intro hfe (And.intro hcl (And.intro hoc (And.intro hnv hN))))))))
       have hnone:Hid (rb3 (ae pats) e p t=none->cj (ae pats) set p L k (m+1)=cj (ae pats) set p L k m):=DO HE0.out ht
       have hsome:Hid (∀e3,rb3 (ae pats) e p t=some e3->cj (ae pats) set p L k (m+1)=iC (cj (ae pats) set p L k m) e3):=λe3 h=>DN HE0.out ht h
       obtain⟨al,hal⟩:∃n,(cj (ae pats) set p L k m).length=n:=⟨_,rfl⟩
       have hal15:=hcl k m
       rw[hal]at hal15
       clear hN hM hz hs hp hP hnv hk4 hO4 hfit hoc hcl hB4 hn ht hB5 hat hu hu3 hfe hkq hrv
       go_upto_region 16 with fail
       go_cut [15,16,17] from 52 to 127 (λx y z wx=>Hid (ll (ae pats) w.heap.size nv e p.s t.s x y z wx)/\Hid (Below wr.heap.size wr wx))
       case first =>
        refine Rf.p0 wr.heap.size _ (.quiet [0,1,2,3,4,5,6,7,8,9,10,11,12,13,14,15] (.one 16 (.quiet [17,18,19,20,21,22,23] (.done)))) ?_ (λa w h=>h)
        intro wd1 hbd1 hwz1
        clear hwz1
        have y1:=cellL hc1 hbd1
        have y2:=cellL hc2 hbd1
        have z0:=cellL x0 hbd1
        have z1:=cellL x1 hbd1
        have z2:=cellL x2 hbd1
        have z3:=cellL x3 hbd1
        have z4:=cellL x4 hbd1
        have s0:=cellL c0 hbd1
        have s1:=cellL c1 hbd1
        have s2:=cellL c2 hbd1
        have s3:=cellL c3 hbd1
        have hC1:=rl (ae pats) e.1 e.2 p.s t.s Av Br Dr nv cv cr dr w.heap.size wd1 HQ.out.2.2.2.2.2.2.2.1 (by omega) (λh=>HQ.out.2.2.2.2.2.2.1 _ (Jd p h)) (Nat.le_trans hsq hbd1.size) (HQ.out.2.2.2.1.later hbd1) (own_below HQ.out.2.1 hbd1 (Nat.le_refl _)) (own_below HQ.out.2.2.1 hbd1 (Nat.le_refl _))
        have hse1:(e.1,e.2)=e:=rfl
        rw[hse1]at hC1
        have HD1:=Lib.hid hbd1
        have hsd1:wr.heap.size<=wd1.heap.size:=hbd1.size
        clear hse1 hbd1
        refine Rf.pl_quiet ?_
        iterate 16 go_big_quiet_step (fail)
        refine wpQuiet_nil (Rf.pl_one ?_)
        clear y1 y2 hc1 hc2 z0 z1 z2 z3 z4 s0 s1 s2 s3 x0 x1 x2 x3 x4 x5 x6 x7 x8 x9 x10 x11 x12 x13 x14 c0 c1 c2 c3 c4 c5 c6 c7 c8 c9 c10 c11
        go_wp2_with (go_at_call 54;refine hC1.mono ?_;rintro e8 w31 ⟨va1,vb1,b1,rfl,hb1,hq1,hown1⟩;have HCn:Hid (ll (ae pats) w.heap.size nv e p.s t.s va1 vb1 (.bool b1) w31):=⟨b1,rfl,hq1,hown1⟩;clear hC1 hq1 hown1)
        refine⟨hb1.mono hsd1,Rf.pl_quiet ?_⟩
        have HBn:=Lib.hid (aa HD1.out hb1)
        clear hb1
        iterate 7 go_big_quiet_step (fail)
        refine wpQuiet_nil (Rf.pl_done ?_)
        go_wp2_with fail
        go_meet
        case rel=>exact⟨HCn,HBn⟩
       case rest =>
        obtain⟨hcc1,hbb1⟩:=hcut
        obtain⟨b1,rfl,hq1,hown1⟩:=hcc1.out
        obtain⟨w31,hwe1⟩:∃x,x=wc:=⟨_,rfl⟩
        subst hwe1
        have HB31:=hbb1
        have hs31:w.heap.size<=w31.heap.size:=Nat.le_trans hsq HB31.out.size
        clear hc1 hc2
        clear hcc1 x0 x1 x2 x3 x4 c0 c1 c2 c3
        cases hr1:rb1 (ae pats) e p.s t.s with
        | none =>
         rw[hr1]at hq1
         obtain rfl:b1=false:=hq1
         have h0:rb3 (ae pats) e p t=none:=by unfold rb3;simp[hr1]
         have HZ:=Lib.hid (hnone.out h0)
         clear hown1 h0 hr1
         go_wp2
         go_roundw
         case rel=>exact⟨m+1,by omega,by go_num,by show ep _ _ _ _ _ _;rw[HZ.out];exact HO3.out.later HB31.out,aa HB3.out HB31.out⟩
         case measure=>simp[intOf];omega
        | some e1 =>
         rw[hr1]at hq1
         obtain rfl:b1=true:=hq1
         obtain⟨hw1,hw2⟩:=hown1 e1 hr1
         obtain⟨B1,f1,rfl,hcf1,_⟩:=own_slice hw1
         obtain⟨D1,h1,rfl,_,_⟩:=own_slice hw2
         have HN1:=Lib.hid (And.intro hw1 hw2)
         clear hw1 hw2 hown1
         replace x5:=ac x5 HB31.out
         replace x6:=ac x6 HB31.out
         replace x7:=ac x7 HB31.out
         replace x8:=ac x8 HB31.out
         replace x9:=ac x9 HB31.out
         replace c4:=ac c4 HB31.out
         replace c5:=ac c5 HB31.out
         replace c6:=ac c6 HB31.out
         replace c7:=ac c7 HB31.out
         go_upto_region 18 with fail
         go_cut [18,19,20] from 52 to 127 (λx y z wx=>Hid (ll (ae pats) w.heap.size nv e1 p.p t.p x y z wx)/\Hid (Below w31.heap.size w31 wx))
         case first =>
          refine Rf.p0 w31.heap.size _ (.quiet [0,1,2,3,4,5,6,7,8,9] (.one 10 (.quiet [11,12,13,14,15,16,17] (.done)))) ?_ (λa w h=>h)
          intro wd2 hbd2 hwz2
          clear hwz2
          have z5:=cellL x5 hbd2
          have z6:=cellL x6 hbd2
          have z7:=cellL x7 hbd2
          have z8:=cellL x8 hbd2
          have z9:=cellL x9 hbd2
          have s4:=cellL c4 hbd2
          have s5:=cellL c5 hbd2
          have s6:=cellL c6 hbd2
          have s7:=cellL c7 hbd2
          have hC2:=rl (ae pats) e1.1 e1.2 p.p t.p Av B1 D1 nv cv f1 h1 w.heap.size wd2 HQ.out.2.2.2.2.2.2.2.1 (by omega) (λh=>HQ.out.2.2.2.2.2.2.1 _ (Je p h)) (Nat.le_trans hs31 hbd2.size) ((HQ.out.2.2.2.1.later HB31.out).later hbd2) (own_below HN1.out.1 hbd2 (Nat.le_refl _)) (own_below HN1.out.2 hbd2 (Nat.le_refl _))
          have hse2:(e1.1,e1.2)=e1:=rfl
          rw[hse2]at hC2
          have HD2:=Lib.hid hbd2
          have hsd2:w31.heap.size<=wd2.heap.size:=hbd2.size
          clear hse2 hbd2
          refine Rf.pl_quiet ?_
          iterate 10 go_big_quiet_step (fail)
          refine wpQuiet_nil (Rf.pl_one ?_)
          clear z5 z6 z7 z8 z9 s4 s5 s6 s7 x5 x6 x7 x8 x9 x10 x11 x12 x13 x14 c4 c5 c6 c7 c8 c9 c10 c11
          go_wp2_with (go_at_call 54;refine hC2.mono ?_;rintro e8 w32 ⟨va2,vb2,b2,rfl,hb2,hq2,hown2⟩;have HCn:Hid (ll (ae pats) w.heap.size nv e1 p.p t.p va2 vb2 (.bool b2) w32):=⟨b2,rfl,hq2,hown2⟩;clear hC2 hq2 hown2)
          refine⟨hb2.mono hsd2,Rf.pl_quiet ?_⟩
          have HBn:=Lib.hid (aa HD2.out hb2)
          clear hb2
          iterate 7 go_big_quiet_step (fail)
          refine wpQuiet_nil (Rf.pl_done ?_)
          go_wp2_with fail
          go_meet
          case rel=>exact⟨HCn,HBn⟩
         case rest =>
          obtain⟨hcc2,hbb2⟩:=hcut
          obtain⟨b2,rfl,hq2,hown2⟩:=hcc2.out
          obtain⟨w32,hwe2⟩:∃x,x=wc:=⟨_,rfl⟩
          subst hwe2
          have HB32:=Lib.hid (aa HB31.out hbb2.out)
          have hs32:w.heap.size<=w32.heap.size:=Nat.le_trans hsq HB32.out.size
          clear hcc2 x5 x6 x7 x8 x9 c4 c5 c6 c7
          cases hr2:rb1 (ae pats) e1 p.p t.p with
          | none =>
           rw[hr2]at hq2
           obtain rfl:b2=false:=hq2
           have h0:rb3 (ae pats) e p t=none:=by unfold rb3;simp[hr1,hr2]
           have HZ:=Lib.hid (hnone.out h0)
           clear hown2 h0 hr1 hr2
           go_wp2
           go_roundw
           case rel=>exact⟨m+1,by omega,by go_num,by show ep _ _ _ _ _ _;rw[HZ.out];exact HO3.out.later HB32.out,aa HB3.out HB32.out⟩
           case measure=>simp[intOf];omega
          | some e2 =>
           rw[hr2]at hq2
           obtain rfl:b2=true:=hq2
           obtain⟨hw1,hw2⟩:=hown2 e2 hr2
           obtain⟨B2,f2,rfl,hcf2,_⟩:=own_slice hw1
           obtain⟨D2,h2,rfl,_,_⟩:=own_slice hw2
           have HN2:=Lib.hid (And.intro hw1 hw2)
           clear hw1 hw2 hown2
           replace x10:=ac x10 HB32.out
           replace x11:=ac x11 HB32.out
           replace x12:=ac x12 HB32.out
           replace x13:=ac x13 HB32.out
           replace x14:=ac x14 HB32.out
           replace c8:=ac c8 HB32.out
           replace c9:=ac c9 HB32.out
           replace c10:=ac c10 HB32.out
           replace c11:=ac c11 HB32.out
           go_upto_region 20 with fail
           go_cut [21,22,23] from 52 to 127 (λx y z wx=>Hid (ll (ae pats) w.heap.size nv e2 p.o t.o x y z wx)/\Hid (Below w32.heap.size w32 wx))
           case first =>
            refine Rf.p0 w32.heap.size _ (.quiet [0,1,2,3,4,5,6,7,8,9] (.one 10 (.quiet [11,12,13,14,15,16,17] (.done)))) ?_ (λa w h=>h)
            intro wd3 hbd3 hwz3
            clear hwz3
            have z10:=cellL x10 hbd3
            have z11:=cellL x11 hbd3
            have z12:=cellL x12 hbd3
            have z13:=cellL x13 hbd3
            have z14:=cellL x14 hbd3
            have s8:=cellL c8 hbd3
            have s9:=cellL c9 hbd3
            have s10:=cellL c10 hbd3
            have s11:=cellL c11 hbd3
            have hC3:=rl (ae pats) e2.1 e2.2 p.o t.o Av B2 D2 nv cv f2 h2 w.heap.size wd3 HQ.out.2.2.2.2.2.2.2.1 (by omega) (λh=>HQ.out.2.2.2.2.2.2.1 _ (Jf p h)) (Nat.le_trans hs32 hbd3.size) ((HQ.out.2.2.2.1.later HB32.out).later hbd3) (own_below HN2.out.1 hbd3 (Nat.le_refl _)) (own_below HN2.out.2 hbd3 (Nat.le_refl _))
            have hse3:(e2.1,e2.2)=e2:=rfl
            rw[hse3]at hC3
            have HD3:=Lib.hid hbd3
            have hsd3:w32.heap.size<=wd3.heap.size:=hbd3.size
            clear hse3 hbd3
            refine Rf.pl_quiet ?_
            iterate 10 go_big_quiet_step (fail)
            refine wpQuiet_nil (Rf.pl_one ?_)
            clear z10 z11 z12 z13 z14 s8 s9 s10 s11 x10 x11 x12 x13 x14 c8 c9 c10 c11
            go_wp2_with (go_at_call 54;refine hC3.mono ?_;rintro e8 w33 ⟨va3,vb3,b3,rfl,hb3,hq3,hown3⟩;have HCn:Hid (ll (ae pats) w.heap.size nv e2 p.o t.o va3 vb3 (.bool b3) w33):=⟨b3,rfl,hq3,hown3⟩;clear hC3 hq3 hown3)
            refine⟨hb3.mono hsd3,Rf.pl_quiet ?_⟩
            have HBn:=Lib.hid (aa HD3.out hb3)
            clear hb3
            iterate 7 go_big_quiet_step (fail)
            refine wpQuiet_nil (Rf.pl_done ?_)
            go_wp2_with fail
            go_meet
            case rel=>exact⟨HCn,HBn⟩
           case rest =>
            obtain⟨hcc3,hbb3⟩:=hcut
            obtain⟨b3,rfl,hq3,hown3⟩:=hcc3.out
            obtain⟨w33,hwe3⟩:∃x,x=wc:=⟨_,rfl⟩
            subst hwe3
            have HB33:=Lib.hid (aa HB32.out hbb3.out)
            have hs33:w.heap.size<=w33.heap.size:=Nat.le_trans hsq HB33.out.size
            clear hcc3 x10 x11 x12 x13 x14 c8 c9 c10 c11
            cases hr3:rb1 (ae pats) e2 p.o t.o with
            | none =>
             rw[hr3]at hq3
             obtain rfl:b3=false:=hq3
             have h0:rb3 (ae pats) e p t=none:=by unfold rb3;simp[hr1,hr2,hr3]
             have HZ:=Lib.hid (hnone.out h0)
             clear hown3 h0 hr1 hr2 hr3
             go_wp2
             go_roundw
             case rel=>exact⟨m+1,by omega,by go_num,by show ep _ _ _ _ _ _;rw[HZ.out];exact HO3.out.later HB33.out,aa HB3.out HB33.out⟩
             case measure=>simp[intOf];omega
            | some e3 =>
             rw[hr3]at hq3
             obtain rfl:b3=true:=hq3
             obtain⟨hw1,hw2⟩:=hown3 e3 hr3
             obtain⟨B3,f3,rfl,hcf3,_⟩:=own_slice hw1
             obtain⟨D3,h3,rfl,_,_⟩:=own_slice hw2
             have HN3:=Lib.hid (And.intro hw1 hw2)
             clear hw1 hw2 hown3
             have h0:rb3 (ae pats) e p t=some e3:=by unfold rb3;simp[hr1,hr2,hr3]
             have hst:=hsome.out e3 h0
             have hfe3:iG (ae pats) e3:=qX HQ.out.2.2.2.2.1 h0
             have hO9:=HO3.out.later HB33.out
             obtain⟨xs,ys,⟨o1,a1⟩,o2,a2⟩:=hO9
             obtain⟨Ax,cx,ex,_,hrx⟩:=own_slice o1
             obtain⟨Ay,cy,ey,_,_⟩:=own_slice o2
             subst ex ey
             rw[hal]at o1 o2
             simp only[hal]
             have hrr:RdRs w33 Ax ((cj (ae pats) set p L k m).map (·.1)):=⟨xs,hrx,a1.mono λ_ _ _ h=>h.rd⟩
             have hrow:RdTs w33 B3 e3.1:=by
              obtain⟨A9,c9,e9,_,h9⟩:=own_slice HN3.out.1
              injection e9 with e9
              subst e9
              exact RdTs.of h9
             have hhas:=Gq ((cj (ae pats) set p L k m).map (·.1)) e3.1 Ax B3 al cx nv f3 w33 (by rw[List.length_map];exact hal) (by rw[hfe3.1];exact HQ.out.2.2.2.2.2.2.2.1) (by omega) (by omega) (λy hy=>by
              obtain⟨z,hz,rfl⟩:=List.mem_map.1 hy
              have:=(FT (λe he=>(HX.out.2.2.1 e he)) hz).1
              have h9:=HQ.out.2.2.2.2.2.2.2.1
              omega) hrr hrow
             have hx1:w33.ownsRow w.heap.size 62 4 (.slice B3 nv f3) e3.1.length (e3.1.flatMap tmC):=by rw[hfe3.1,HQ.out.2.2.2.2.2.2.2.1];exact HN3.out.1
             have hy1:w33.ownsRow w.heap.size 4 1 (.slice D3 nv h3) e3.2.length (e3.2.map Value.bool):=by rw[hfe3.2,HQ.out.2.2.2.2.2.2.2.1];exact HN3.out.2
             have HB9:=Lib.hid (aa HB3.out HB33.out)
             have hs9:W4.heap.size<=w33.heap.size:=HB9.out.size
             clear hr1 hr2 hr3 h0 hrx hrr hrow hfe3
             by_cases hin:e3.1∈(cj (ae pats) set p L k m).map (·.1)
             ·rw[decide_eq_true hin]at hhas
              have HF:Hid (∀wz,Below w33.heap.size w33 wz->ep w.heap.size W4.heap.size wz (.slice Ax al cx) (.slice Ay al cy) (cj (ae pats) set p L k (m+1))/\Below W4.heap.size W4 wz):=λwz hbz=>by
               refine⟨?_,aa HB9.out hbz⟩
               rw[hst]
               unfold iC
               rw[if_pos hin]
               exact ep.later ⟨xs,ys,⟨by rw[hal];exact o1,a1⟩,by rw[hal];exact o2,a2⟩ hbz
              clear hst hin hx1 hy1 o1 o2 a1 a2
              go_wp2_with (go_at_call 55;refine hhas.mono ?_;rintro e8 w8 ⟨rfl,hb8⟩)
              go_roundw
              case rel=>exact⟨m+1,by omega,by go_num,(HF.out _ hb8).1,(HF.out _ hb8).2⟩
              case measure=>simp[intOf];omega
             ·rw[decide_eq_false hin]at hhas
              have hst2:Hid (cj (ae pats) set p L k (m+1)=cj (ae pats) set p L k m++[e3]):=by
               show _=_
               rw[hst]
               unfold iC
               rw[if_neg hin]
              have HY:=Lib.hid (And.intro o1 (And.intro a1 (And.intro o2 (And.intro a2 (And.intro hx1 hy1)))))
              have hin1:Tryz.prog.underlying 35=some (.slice 58):=Tryz.underlying35
              have hin2:Tryz.prog.underlying 105=some (.slice 104):=Tryz.underlying105
              clear hst hin hx1 hy1 o1 o2 a1 a2
              go_upto_region 22 with (go_at_call 55;refine hhas.mono ?_;rintro e8 w8 ⟨rfl,hb8⟩)
              have hal8:Below w8.heap.size w8 (w8.alloc (.cells #[.slice B3 nv f3] 58)):=blw
              have own5:=own_below HY.out.1 (aa hb8 hal8) (Nat.le_refl _)
              have HV8:=Lib.hid (aa hb8 hal8)
              have hs8:W4.heap.size<=w8.heap.size:=Nat.le_trans hs9 hb8.size
              clear hb8 hal8 hhas
              go_upto_region 23 with (at_builtin;refine ak rfl rfl hin1 dj rfl (by omega) rfl own5 rfl (Rd.of_block (heap_alloc_new w8 _) rfl) rfl (by intro u hu;simp only[List.mem_cons,List.not_mem_nil,or_false]at hu;subst hu;rfl) (by omega) (by omega) (by simp;omega) ?_;intro v6 w6 own6 hb6 hg6)
              obtain⟨p1,p2,p3,p4⟩:=Jc (e:=e3) HY.out.1 HY.out.2.1 HY.out.2.2.1 HY.out.2.2.2.1 HV8.out HY.out.2.2.2.2.1 HY.out.2.2.2.2.2 hg6
              have hal6:Below w6.heap.size w6 (w6.alloc (.cells #[.slice D3 nv h3] 104)):=blw
              have ownF:=own_below p2 hal6 (Nat.le_refl _)
              have hb96:Below W4.heap.size W4 w6:=HB9.out.trans ((HV8.out.mono hs9).trans hb6)
              have HY6:=Lib.hid (And.intro own6 (And.intro p1 (And.intro p2 (And.intro p3 (And.intro p4 (And.intro hal6 hb96))))))
              have hs6:W4.heap.size<=w6.heap.size:=hb96.size
              clear own6 hb6 hg6 own5 p1 p2 p3 p4 hal6 hb96
              go_wp2_with (at_builtin;refine ak rfl rfl hin2 G9 rfl (by omega) rfl ownF rfl (Rd.of_block (heap_alloc_new w6 _) rfl) rfl (by intro u hu;simp only[List.mem_cons,List.not_mem_nil,or_false]at hu;subst hu;rfl) (by omega) (by omega) (by simp;omega) ?_;intro v7 w7 own7 hb7 hg7;have HF:Hid (ep w.heap.size W4.heap.size w7 v6 v7 (cj (ae pats) set p L k (m+1))/\Below W4.heap.size W4 w7):=⟨by rw[hst2.out];exact Jb HY6.out.1 HY6.out.2.1 HY6.out.2.2.1 HY6.out.2.2.2.1 HY6.out.2.2.2.2.2.1 HY6.out.2.2.2.2.1 hg7 own7 hal,HY6.out.2.2.2.2.2.2.trans ((HY6.out.2.2.2.2.2.1.mono hs6).trans hb7)⟩;clear own7 hb7 hg7 ownF)
              go_roundw
              case rel=>exact⟨m+1,by omega,by go_num,HF.out.1,HF.out.2⟩
              case measure=>simp[intOf];omega
      ·obtain rfl:N=m:=by omega
       have HZ:Hid (cj (ae pats) set p L (k+1) 0=cj (ae pats) set p L k N):=DR HE0.out (by rw[H.out.1];exact Nat.le_refl _)
       go_wp2
       go_roundw
       case rel=>exact⟨k+1,by omega,by go_num,by show ep _ _ _ _ _ _;rw[HZ.out];exact HO3.out,HB3⟩
       case measure=>simp[intOf];omega
    ·obtain rfl:n=k:=by omega
     have HZ:Hid (bfs (ae pats) set (pats.take (j+1))=cj (ae pats) set p L n 0):=by
      show _=_
      rw[hnx.out,←FU,HX.out.2.2.2.2.2.2]
     have HB9:=Lib.hid (aa HX.out.2.2.2.2.2.1 HB2.out)
     go_wp2
     go_roundw
     case rel=>exact⟨j+1,by omega,by go_num,by show ep _ _ _ _ _ _;rw[HZ.out];exact HO2.out.lower hsw,HB9⟩
     case measure=>simp[intOf];omega
  ·obtain rfl:M=j:=by omega
   obtain⟨hN,hM,hz,hs,hp,hP,hnv⟩:=H.out
   have hO:=HO.out
   rw[List.take_of_length_le (by omega)]at hO
   obtain⟨A,ca,B,cb,rfl,rfl,hca,_,hrd⟩:=hO.at_
   have hbl:(bfs (ae pats) set pats).length<=1500:=by
    have:=mr set pats M (by omega)
    rw[List.take_of_length_le (by omega)]at this
    omega
   have hsm:Hid (((bfs (ae pats) set pats).map (·.1)).foldl cH []=bi set pats):=Bj set pats
   have hval:∀r∈(bfs (ae pats) set pats).map (·.1),r.length=nv/\aN r:=λr hr=>⟨by rw[←hnv];exact(yc hr).1,AJ hz (by omega) hr⟩
   have hlen:((bfs (ae pats) set pats).map (·.1)).length=(bfs (ae pats) set pats).length:=List.length_map ..
   generalize (bfs (ae pats) set pats).map (·.1)=rows at *
   generalize (bfs (ae pats) set pats).length=n at *
   have HR:=Lib.hid (And.intro hrd (And.intro hval hlen))
   have hown:=own_below HV.out.1 HB.out (Nat.le_refl _)
   have HB1:=Lib.hid (aa HV.out.2.2 HB.out)
   have HO9:=Lib.hid hown
   clear hN hM hz hs hp hP hO hrd hval hlen hown HO HB
   go_upto_region 28 with fail
   go_loopw [24,25] (λv i wx=>∃k:Nat,k<=n/\i=.int .i64 k/\Hid (JH wr wx v ((rows.take k).foldl cH []))) (λ_ i _=>n-(intOf i).toNat)
   case atStart=>exact⟨0,by omega,rfl,none,0,rfl,Nat.le_refl _,RdL.nil _ _ _ _,Below.refl _ _⟩
   case round =>
    rename_i wr0
    obtain⟨k,hk,rfl,HQ⟩:=hrel
    obtain⟨A9,c9,rfl,hc9,hr9,hb9⟩:=HQ.out
    by_cases hlt:k<n
    ·obtain⟨hrd,hval,hlen⟩:=HR.out
     obtain⟨row,hrow⟩:∃row,rows[k]?=some row:=⟨_,List.getElem?_eq_getElem (by omega)⟩
     obtain⟨g,o,A',c',rfl,hcell,hle,hrr⟩:=(RdRs.later hrd hb9).at1 hrow
     have hv:=hval row (List.mem_of_getElem? hrow)
     have hol:=tl (rows.take k) []
     rw[List.length_take,List.length_nil]at hol
     have hom:∀y∈(rows.take k).foldl cH [],y.length=nv/\aN y:=λy hy=>hval y (List.mem_of_mem_take (C8 hy))
     have hsn:Hid ((rows.take (k+1)).foldl cH []=cH ((rows.take k).foldl cH []) row):=by
      show _=_
      rw[ah hrow,List.foldl_append];rfl
     rw[hv.1]at hcell
     have hput:=Jg ((rows.take k).foldl cH []) row A9 A' _ c9 nv c' _ rfl hv.1 (by omega) hc9 (by rw[←hv.1];exact hle) (λy hy=>(hom y hy).2) hv.2 (λy hy=>(hom y hy).1) hr9 hrr
     have HB9:=Lib.hid hb9
     generalize ((rows.take k).foldl cH []).length=l9 at *
     clear hc9 hr9 hb9 hrd hval hlen hrow hle hrr hv hol hom
     go_wp2_with (go_at_call 56;refine hput.mono ?_;rintro e8 w8 ⟨A8,c8,rfl,hc8,hr8,hb8⟩)
     go_roundw
     case rel=>exact⟨k+1,by omega,by go_num,by show JH _ _ _ _;rw[hsn.out];exact⟨A8,c8,rfl,hc8,hr8,aa HB9.out hb8⟩⟩
     case measure=>simp[intOf];omega
    ·obtain rfl:n=k:=by omega
     rw[List.take_of_length_le (by rw[HR.out.2.2];exact Nat.le_refl _),hsm.out]at hc9 hr9
     have e9:Hid (((rows.take n).foldl cH []).length=(bi set pats).length):=by
      show _=_
      rw[List.take_of_length_le (by rw[HR.out.2.2];exact Nat.le_refl _),hsm.out]
     simp only[e9.out]
     have HF:=Lib.hid (And.intro hc9 (And.intro hr9 hb9))
     clear hc9 hr9 hb9
     go_wp2
     refine bodyPost_ret (v:=.tuple #[.slice Av nv cv,.slice A9 (bi set pats).length c9]) (by simp[results,Tryz.results18,go_sem]) rfl ?_
     exact⟨_,A9,c9,rfl,by rw[hnv];exact own_below HO9.out HF.out.2.2 (Nat.le_refl _),HF.out.1,HF.out.2.1,aa HB1.out HF.out.2.2⟩
end Go.Proofs.YtfcbghmbbjolcaaGreatDoor
