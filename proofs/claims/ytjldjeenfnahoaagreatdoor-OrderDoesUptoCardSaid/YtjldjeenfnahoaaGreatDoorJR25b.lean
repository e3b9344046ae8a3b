/- The answer for filter (ossuaryref25): term, compared. The an -/
import Derived.Test.YtjldjeenfnahoaaGreatDoorJSameInts
set_option maxHeartbeats 4000000
set_option maxRecDepth 10000
namespace Go.Proofs.YtjldjeenfnahoaaGreatDoor
open Go Go.RowKit Fm
theorem it {vars:List ByteArray} {row:List Tm} {k:Int} {s:ByteArray} {t:Tm} {b:Bool} (h:b=false∨(k≠1/\k≠2)):cE vars row k s t b=none:=by
 unfold cE
 rcases h with h|⟨h1,h2⟩
 ·subst h;rfl
 ·have e1:(k == 1)=false:=by simpa using h1
  have e2:(k == 2)=false:=by simpa using h2
  rw[e1,e2];cases b<;>rfl
theorem pm {l:List ByteArray} {x y:ByteArray} {k:Nat} (h:l[k]?=some y):Lib.idxFromS (l.drop k) x k=if (y.toList == x.toList)=true then (k:Int) else Lib.idxFromS (l.drop (k+1)) x (k+1):=by
 rw[an h,Lib.idxFromS]
 have e:(y.toList == x.toList)=decide (y=x):=by
  by_cases h:y=x
  ·subst h;simp
  ·simp only[h,decide_false]
   rw[Lib.bytes_beq_false_iff];exact h
 rw[e];simp
theorem lW (s:ByteArray):∀(l:List ByteArray) (i:Nat),Lib.idxFromS l s i<0∨(i:Int)<=Lib.idxFromS l s i
 | [],i=>by left;unfold Lib.idxFromS;omega
 | a::r,i=>by
  unfold Lib.idxFromS
  split
  ·right;omega
  ·rcases lW s r (i+1) with h|h
   ·exact .inl h
   ·right;omega
theorem kA (vars:List ByteArray) (row:List Tm) (A1 A2 A:Option Addr) (c1 c2 m c:Nat) (k:Int) (s:ByteArray) (t:Tm) (w:World) (hv:vars.length<=281474976710656) (hrl:row.length<=281474976710656) (hm:m<=281474976710656)
  (hr1:Rd w A1 (vars.map Value.string)) (hr2:RdTs w A2 row) :
  Calls Tryz.prog 97 #[.agg #[.int .i64 k,.string s,.int .i64 t.k,.string t.x,.string t.l,.string t.y,.slice A m c],.slice A1 vars.length c1,.slice A2 row.length c2] w
   λe w'=>e=.returned (fU (cE vars row k s t (m == 0)))/\Below w.heap.size w w':=by
 obtain⟨v,hvv⟩:∃v,fU (cE vars row k s t (m == 0))=v:=⟨_,rfl⟩
 rw[hvv]
 have HV:=Lib.hid hvv
 obtain⟨W,hW⟩:∃W:World,(w.alloc (.cells #[.int .i64 k,.string s,.int .i64 t.k,.string t.x,.string t.l,.string t.y,.slice A m c] 67)).alloc (.cells #[.int .i64 0,.string ⟨#[]⟩,.string ⟨#[]⟩,.string ⟨#[]⟩] 65)=W:=⟨_,rfl⟩
 have hB0:Below w.heap.size w W:=by rw[←hW];exact blw
 have hx0:W.heap[w.heap.size]?=some (.cells #[.int .i64 k,.string s,.int .i64 t.k,.string t.x,.string t.l,.string t.y,.slice A m c] 67 (0,0)):=by rw[←hW];exact am w _ _
 have hx1:W.heap[w.heap.size+1]?=some (.cells #[.int .i64 0,.string ⟨#[]⟩,.string ⟨#[]⟩,.string ⟨#[]⟩] 65 (0,0)):=by rw[←hW];exact ai w _ _
 have b0:W.cell? ⟨w.heap.size,0,none⟩=some (.int .i64 k):=by rw[World.cell?,hx0];rfl
 have b1:W.cell? ⟨w.heap.size,1,none⟩=some (.string s):=by rw[World.cell?,hx0];rfl
 have b2:W.cell? ⟨w.heap.size,2,none⟩=some (.int .i64 t.k):=by rw[World.cell?,hx0];rfl
 have b3:W.cell? ⟨w.heap.size,3,none⟩=some (.string t.x):=by rw[World.cell?,hx0];rfl
 have b4:W.cell? ⟨w.heap.size,4,none⟩=some (.string t.l):=by rw[World.cell?,hx0];rfl
 have b5:W.cell? ⟨w.heap.size,5,none⟩=some (.string t.y):=by rw[World.cell?,hx0];rfl
 have b6:W.cell? ⟨w.heap.size,6,none⟩=some (.slice A m c):=by rw[World.cell?,hx0];rfl
 have d0:W.cell? ⟨w.heap.size+1,0,none⟩=some (.int .i64 0):=by rw[World.cell?,hx1];rfl
 have d1:W.cell? ⟨w.heap.size+1,1,none⟩=some (.string ⟨#[]⟩):=by rw[World.cell?,hx1];rfl
 have d2:W.cell? ⟨w.heap.size+1,2,none⟩=some (.string ⟨#[]⟩):=by rw[World.cell?,hx1];rfl
 have d3:W.cell? ⟨w.heap.size+1,3,none⟩=some (.string ⟨#[]⟩):=by rw[World.cell?,hx1];rfl
 have fz:∀i,W.frozen? ⟨w.heap.size+1,i,none⟩=false:=λi=>by simp[World.frozen?,hx1]
 have f0:=fz 0
 have f1:=fz 1
 have f2:=fz 2
 have f3:=fz 3
 have hs4:∀v0 v1 v2 v3,Below w.heap.size w ((((W.setCell ⟨w.heap.size+1,0,none⟩ v0).setCell ⟨w.heap.size+1,1,none⟩ v1).setCell ⟨w.heap.size+1,2,none⟩ v2).setCell ⟨w.heap.size+1,3,none⟩ v3):=λv0 v1 v2 v3=>hB0.trans (bp (Nat.le_succ _) v0 v1 v2 v3)
 have k1:=hr1.later hB0
 have k2:=RdTs.later hr2 hB0
 have HW:=Lib.hid hW
 have HB0:=Lib.hid hB0
 have Hs4:=Lib.hid hs4
 have K1:=Lib.hid k1
 have K2:=Lib.hid k2
 have hv':(vars.length:Int)<=281474976710656:=by omega
 have hrl':(row.length:Int)<=281474976710656:=by omega
 have hm':(m:Int)<=281474976710656:=by omega
 clear hW hB0 hr1 hr2 hx0 hx1 hvv fz hs4 k1 k2
 by_cases hm0:(m:Int)=0
 ·have hb:(m == 0)=true:=by simp;omega
  have HB:=Lib.hid hb
  clear hb
  by_cases h2:k=2
  ·subst h2
   go_enter Tryz.func97,Tryz.ntmps97
   go_wp2
   exact bodyPost_ret (v:=Value.tuple #[.agg #[.int .i64 t.k,.string t.x,.string t.l,.string t.y],.bool true]) (by simp[results,Tryz.results97,go_sem]) rfl ⟨by rw[←HV.out,HB.out];rfl,blw⟩
  ·by_cases h1:k=1
   ·subst h1
    have Hvar:Hid (v=fU (if Lib.idxOfS vars s<0 then none else row[(Lib.idxOfS vars s).toNat]?)):=by show v=_;rw[←HV.out,HB.out];rfl
    have hidx:=dN vars s
    obtain⟨nv,hnv⟩:∃n,vars.length=n:=⟨_,rfl⟩
    obtain⟨nr,hnr⟩:∃n,row.length=n:=⟨_,rfl⟩
    rw[hnv]at hv' hv hidx ⊢
    rw[hnr]at hrl' hrl ⊢
    have Hnv:=Lib.hid hnv
    have Hnr:=Lib.hid hnr
    clear hnv hnr
    go_enter Tryz.func97,Tryz.ntmps97
    go_wp2
    simp only[HW.out]
    go_loopw [8] (λi wr=>∃j:Nat,j<=nv/\j<=nr/\i=.int .i64 j/\Hid (Lib.idxOfS vars s=Lib.idxFromS (vars.drop j) s j)/\Below W.heap.size W wr) (λi _=>nv-(intOf i).toNat)
    case atStart=>exact⟨0,by omega,by omega,rfl,rfl,Below.refl _ _⟩
    case round =>
     obtain⟨j,hj,hjr,rfl,H,hB⟩:=hrel
     replace b0:=ab b0 hB
     replace b1:=ab b1 hB
     replace b6:=ab b6 hB
     replace f0:=(hB.frozen (p:=⟨w.heap.size+1,0,none⟩) (ae d0)).trans f0
     replace d0:=ab d0 hB
     replace f1:=(hB.frozen (p:=⟨w.heap.size+1,1,none⟩) (ae d1)).trans f1
     replace d1:=ab d1 hB
     replace f2:=(hB.frozen (p:=⟨w.heap.size+1,2,none⟩) (ae d2)).trans f2
     replace d2:=ab d2 hB
     replace f3:=(hB.frozen (p:=⟨w.heap.size+1,3,none⟩) (ae d3)).trans f3
     replace d3:=ab d3 hB
     have HBW:=Lib.hid (HB0.out.trans (hB.mono HB0.out.size))
     clear b2 b3 b4 b5
     by_cases e1:(j:Int)<nv
     ·obtain⟨y,hy⟩:∃x,vars[j]?=some x:=⟨_,List.getElem?_eq_getElem (by have:=Hnv.out;omega)⟩
      by_cases e2:(j:Int)<nr
      ·obtain⟨g,o,rfl,cx⟩:=(K1.out.later hB).at_ (j:=j) (u:=.string y) (by simp[hy])
       obtain⟨u,hu⟩:∃u,row[j]?=some u:=⟨_,List.getElem?_eq_getElem (by have:=Hnr.out;omega)⟩
       obtain⟨g2,o2,rfl,q0,q1,q2,q3⟩:=(RdTs.later K2.out hB).at4 hu
       have H2:Hid (Lib.idxOfS vars s=if (y.toList == s.toList)=true then (j:Int) else Lib.idxFromS (vars.drop (j+1)) s (j+1)):=by show _=_;rw[H.out,pm hy]
       have Hu:=Lib.hid hu
       clear hy hu H
       cases he:(y.toList == s.toList)
       ·go_wp2
        go_quiet (fail)
        go_wp2
        go_roundw
        case rel=>exact⟨j+1,by omega,by omega,by go_num,by show _=_;rw[H2.out,he];simp,below_drewN hB nq⟩
        case measure=>simp[intOf];omega
       ·have Hr:Hid (v=fU (some u)):=by
         show v=_
         rw[Hvar.out,H2.out,he]
         simp only[if_true]
         rw[if_neg (by omega),Int.toNat_natCast,Hu.out]
        go_wp2
        go_quiet (fail)
        go_wp2
        exact bodyPost_ret (v:=Value.tuple #[.agg #[.int .i64 u.k,.string u.x,.string u.l,.string u.y],.bool true]) (by simp[results,Tryz.results97,go_sem,d0,d1,d2,d3]) rfl ⟨congrArg Ending.returned Hr.out.symm,(below_drewN HBW.out nq).trans (bp (Nat.le_succ _) _ _ _ _)⟩
      ·have Hn:Hid (v=.tuple #[.agg #[.int .i64 0,.string ⟨#[]⟩,.string ⟨#[]⟩,.string ⟨#[]⟩],.bool false]):=by
        show v=_
        rw[Hvar.out]
        have hge:Lib.idxOfS vars s<0∨(j:Int)<=Lib.idxOfS vars s:=by
         rw[H.out]
         exact lW _ _ _
        split
        ·rfl
        ·rw[List.getElem?_eq_none (by have:=Hnr.out;omega)];rfl
       go_wp2
       exact bodyPost_ret (v:=Value.tuple #[.agg #[.int .i64 0,.string ⟨#[]⟩,.string ⟨#[]⟩,.string ⟨#[]⟩],.bool false]) (by simp[results,Tryz.results97,go_sem,d0,d1,d2,d3]) rfl ⟨congrArg Ending.returned Hn.out.symm,by first|exact HBW.out|exact HBW.out.trans (bp (Nat.le_succ _) _ _ _ _)⟩
     ·have Hn:Hid (v=.tuple #[.agg #[.int .i64 0,.string ⟨#[]⟩,.string ⟨#[]⟩,.string ⟨#[]⟩],.bool false]):=by
       show v=_
       rw[Hvar.out,H.out,List.drop_eq_nil_of_le (by have:=Hnv.out;omega)];rfl
      go_wp2
      exact bodyPost_ret (v:=Value.tuple #[.agg #[.int .i64 0,.string ⟨#[]⟩,.string ⟨#[]⟩,.string ⟨#[]⟩],.bool false]) (by simp[results,Tryz.results97,go_sem,d0,d1,d2,d3]) rfl ⟨congrArg Ending.returned Hn.out.symm,by first|exact HBW.out|exact HBW.out.trans (bp (Nat.le_succ _) _ _ _ _)⟩
   ·have hk:(k == 2)=false:=by simpa using h2
    have hk1:(k == 1)=false:=by simpa using h1
    have Hn:Hid (v=.tuple #[.agg #[.int .i64 0,.string ⟨#[]⟩,.string ⟨#[]⟩,.string ⟨#[]⟩],.bool false]):=by show v=_;rw[←HV.out,it (.inr ⟨h1,h2⟩)];rfl
    generalize vars.length=nv at *
    generalize row.length=nr at *
    go_enter Tryz.func97,Tryz.ntmps97
    go_wp2
    simp only[HW.out]
    go_loop [8] (λi=>i=.int .i64 0) (λ_=>0)
    case atStart=>rfl
    case round =>
     obtain rfl:=hrel
     by_cases e1:0<(nv:Int)
     ·by_cases e2:0<(nr:Int)
      ·go_wp2
       exact bodyPost_ret (v:=Value.tuple #[.agg #[.int .i64 0,.string ⟨#[]⟩,.string ⟨#[]⟩,.string ⟨#[]⟩],.bool false]) (by simp[results,Tryz.results97,go_sem,d0,d1,d2,d3]) rfl ⟨congrArg Ending.returned Hn.out.symm,by first|exact HB0.out|exact Hs4.out _ _ _ _⟩
      ·go_wp2
       exact bodyPost_ret (v:=Value.tuple #[.agg #[.int .i64 0,.string ⟨#[]⟩,.string ⟨#[]⟩,.string ⟨#[]⟩],.bool false]) (by simp[results,Tryz.results97,go_sem,d0,d1,d2,d3]) rfl ⟨congrArg Ending.returned Hn.out.symm,by first|exact HB0.out|exact Hs4.out _ _ _ _⟩
     ·go_wp2
      exact bodyPost_ret (v:=Value.tuple #[.agg #[.int .i64 0,.string ⟨#[]⟩,.string ⟨#[]⟩,.string ⟨#[]⟩],.bool false]) (by simp[results,Tryz.results97,go_sem,d0,d1,d2,d3]) rfl ⟨congrArg Ending.returned Hn.out.symm,by first|exact HB0.out|exact Hs4.out _ _ _ _⟩
 ·have hb:(m == 0)=false:=by simp;omega
  by_cases h2:k=2
  ·subst h2
   have Hn:Hid (v=.tuple #[.agg #[.int .i64 0,.string ⟨#[]⟩,.string ⟨#[]⟩,.string ⟨#[]⟩],.bool false]):=by show v=_;rw[←HV.out,it (.inl hb)];rfl
   generalize vars.length=nv at *
   generalize row.length=nr at *
   go_enter Tryz.func97,Tryz.ntmps97
   go_wp2
   simp only[HW.out]
   go_loop [8] (λi=>i=.int .i64 0) (λ_=>0)
   case atStart=>rfl
   case round =>
    obtain rfl:=hrel
    by_cases e1:0<(nv:Int)
    ·by_cases e2:0<(nr:Int)
     ·go_wp2
      exact bodyPost_ret (v:=Value.tuple #[.agg #[.int .i64 0,.string ⟨#[]⟩,.string ⟨#[]⟩,.string ⟨#[]⟩],.bool false]) (by simp[results,Tryz.results97,go_sem,d0,d1,d2,d3]) rfl ⟨congrArg Ending.returned Hn.out.symm,by first|exact HB0.out|exact Hs4.out _ _ _ _⟩
     ·go_wp2
      exact bodyPost_ret (v:=Value.tuple #[.agg #[.int .i64 0,.string ⟨#[]⟩,.string ⟨#[]⟩,.string ⟨#[]⟩],.bool false]) (by simp[results,Tryz.results97,go_sem,d0,d1,d2,d3]) rfl ⟨congrArg Ending.returned Hn.out.symm,by first|exact HB0.out|exact Hs4.out _ _ _ _⟩
    ·go_wp2
     exact bodyPost_ret (v:=Value.tuple #[.agg #[.int .i64 0,.string ⟨#[]⟩,.string ⟨#[]⟩,.string ⟨#[]⟩],.bool false]) (by simp[results,Tryz.results97,go_sem,d0,d1,d2,d3]) rfl ⟨congrArg Ending.returned Hn.out.symm,by first|exact HB0.out|exact Hs4.out _ _ _ _⟩
  ·have hk:(k == 2)=false:=by simpa using h2
   by_cases h1:k=1
   ·subst h1
    have Hn:Hid (v=.tuple #[.agg #[.int .i64 0,.string ⟨#[]⟩,.string ⟨#[]⟩,.string ⟨#[]⟩],.bool false]):=by show v=_;rw[←HV.out,it (.inl hb)];rfl
    generalize vars.length=nv at *
    generalize row.length=nr at *
    go_enter Tryz.func97,Tryz.ntmps97
    go_wp2
    simp only[HW.out]
    go_loop [8] (λi=>i=.int .i64 0) (λ_=>0)
    case atStart=>rfl
    case round =>
     obtain rfl:=hrel
     by_cases e1:0<(nv:Int)
     ·by_cases e2:0<(nr:Int)
      ·go_wp2
       exact bodyPost_ret (v:=Value.tuple #[.agg #[.int .i64 0,.string ⟨#[]⟩,.string ⟨#[]⟩,.string ⟨#[]⟩],.bool false]) (by simp[results,Tryz.results97,go_sem,d0,d1,d2,d3]) rfl ⟨congrArg Ending.returned Hn.out.symm,by first|exact HB0.out|exact Hs4.out _ _ _ _⟩
      ·go_wp2
       exact bodyPost_ret (v:=Value.tuple #[.agg #[.int .i64 0,.string ⟨#[]⟩,.string ⟨#[]⟩,.string ⟨#[]⟩],.bool false]) (by simp[results,Tryz.results97,go_sem,d0,d1,d2,d3]) rfl ⟨congrArg Ending.returned Hn.out.symm,by first|exact HB0.out|exact Hs4.out _ _ _ _⟩
     ·go_wp2
      exact bodyPost_ret (v:=Value.tuple #[.agg #[.int .i64 0,.string ⟨#[]⟩,.string ⟨#[]⟩,.string ⟨#[]⟩],.bool false]) (by simp[results,Tryz.results97,go_sem,d0,d1,d2,d3]) rfl ⟨congrArg Ending.returned Hn.out.symm,by first|exact HB0.out|exact Hs4.out _ _ _ _⟩
   ·have hk1:(k == 1)=false:=by simpa using h1
    have Hn:Hid (v=.tuple #[.agg #[.int .i64 0,.string ⟨#[]⟩,.string ⟨#[]⟩,.string ⟨#[]⟩],.bool false]):=by show v=_;rw[←HV.out,it (.inl hb)];rfl
    generalize vars.length=nv at *
    generalize row.length=nr at *
    go_enter Tryz.func97,Tryz.ntmps97
    go_wp2
    simp only[HW.out]
    go_loop [8] (λi=>i=.int .i64 0) (λ_=>0)
    case atStart=>rfl
    case round =>
     obtain rfl:=hrel
     by_cases e1:0<(nv:Int)
     ·by_cases e2:0<(nr:Int)
      ·go_wp2
       exact bodyPost_ret (v:=Value.tuple #[.agg #[.int .i64 0,.string ⟨#[]⟩,.string ⟨#[]⟩,.string ⟨#[]⟩],.bool false]) (by simp[results,Tryz.results97,go_sem,d0,d1,d2,d3]) rfl ⟨congrArg Ending.returned Hn.out.symm,by first|exact HB0.out|exact Hs4.out _ _ _ _⟩
      ·go_wp2
       exact bodyPost_ret (v:=Value.tuple #[.agg #[.int .i64 0,.string ⟨#[]⟩,.string ⟨#[]⟩,.string ⟨#[]⟩],.bool false]) (by simp[results,Tryz.results97,go_sem,d0,d1,d2,d3]) rfl ⟨congrArg Ending.returned Hn.out.symm,by first|exact HB0.out|exact Hs4.out _ _ _ _⟩
     ·go_wp2
      exact bodyPost_ret (v:=Value.tuple #[.agg #[.int .i64 0,.string ⟨#[]⟩,.string ⟨#[]⟩,.string ⟨#[]⟩],.bool false]) (by simp[results,Tryz.results97,go_sem,d0,d1,d2,d3]) rfl ⟨congrArg Ending.returned Hn.out.symm,by first|exact HB0.out|exact Hs4.out _ _ _ _⟩
theorem qn (k:Int) (a b:Tm) (w:World) (ha:a.x.size<=281474976710656) (hb:b.x.size<=281474976710656) :
  Calls Tryz.prog 102 #[.int .i64 k,.agg #[.int .i64 a.k,.string a.x,.string a.l,.string a.y],.agg #[.int .i64 b.k,.string b.x,.string b.l,.string b.y]] w λe w'=>e=.returned (.int .i64 (zA k a b))/\Below w.heap.size w w':=by
 obtain⟨ak,ax,al,ay⟩:=a
 obtain⟨bk,bx,bl,by_⟩:=b
 simp only at ha hb ⊢
 have hSm:=λW=>AA ak ax al ay bk bx bl by_ W ha hb
 have hL1:=λW=>tL ak ax al ay bk bx bl by_ W ha hb
 have hL2:=λW=>tL bk bx bl by_ ak ax al ay W hb ha
 have HSm:=Lib.hid hSm
 have HL1:=Lib.hid hL1
 have HL2:=Lib.hid hL2
 obtain⟨W,hW⟩:∃W:World,(w.alloc (.cells #[.int .i64 ak,.string ax,.string al,.string ay] 65)).alloc (.cells #[.int .i64 bk,.string bx,.string bl,.string by_] 65)=W:=⟨_,rfl⟩
 have hB0:Below w.heap.size w W:=by rw[←hW];exact blw
 have HB0:=Lib.hid hB0
 have HW:=Lib.hid hW
 have hx0:W.heap[w.heap.size]?=some (.cells #[.int .i64 ak,.string ax,.string al,.string ay] 65 (0,0)):=by rw[←hW];exact am w _ _
 have hx1:W.heap[w.heap.size+1]?=some (.cells #[.int .i64 bk,.string bx,.string bl,.string by_] 65 (0,0)):=by rw[←hW];exact ai w _ _
 have b0:W.cell? ⟨w.heap.size,0,none⟩=some (.int .i64 ak):=by rw[World.cell?,hx0];rfl
 have b1:W.cell? ⟨w.heap.size,1,none⟩=some (.string ax):=by rw[World.cell?,hx0];rfl
 have b2:W.cell? ⟨w.heap.size,2,none⟩=some (.string al):=by rw[World.cell?,hx0];rfl
 have b3:W.cell? ⟨w.heap.size,3,none⟩=some (.string ay):=by rw[World.cell?,hx0];rfl
 have d0:W.cell? ⟨w.heap.size+1,0,none⟩=some (.int .i64 bk):=by rw[World.cell?,hx1];rfl
 have d1:W.cell? ⟨w.heap.size+1,1,none⟩=some (.string bx):=by rw[World.cell?,hx1];rfl
 have d2:W.cell? ⟨w.heap.size+1,2,none⟩=some (.string bl):=by rw[World.cell?,hx1];rfl
 have d3:W.cell? ⟨w.heap.size+1,3,none⟩=some (.string by_):=by rw[World.cell?,hx1];rfl
 clear hW hB0 hSm hL1 hL2 ha hb
 unfold zA
 by_cases h6:k=6
 ·subst h6
  simp only[show ((6:Int) == 6)=true from rfl,if_true]
  have hc:=HSm.out W
  generalize gN ⟨ak,ax,al,ay⟩ ⟨bk,bx,bl,by_⟩=q at *
  clear hx0 hx1
  go_enter Tryz.func102,Tryz.ntmps102
  go_wp2_with fail
  simp only[HW.out]
  refine hc.mono ?_
  rintro e w2 ⟨rfl,hb2⟩
  go_wp2
  go_ret
  exact⟨rfl,aa HB0.out hb2⟩
 have e6:(k == 6)=false:=by simpa using h6
 rw[e6]
 by_cases h7:k=7
 ·subst h7
  simp only[show ((7:Int) == 7)=true from rfl,if_true,Bool.false_eq_true,if_false]
  have hc:=HSm.out W
  generalize gN ⟨ak,ax,al,ay⟩ ⟨bk,bx,bl,by_⟩=q at *
  clear hx0 hx1
  go_enter Tryz.func102,Tryz.ntmps102
  go_wp2_with fail
  simp only[HW.out]
  refine hc.mono ?_
  rintro e w2 ⟨rfl,hb2⟩
  go_wp2_with (refine(oH _ _).mono ?_;rintro e w3 ⟨rfl,rfl⟩)
  go_ret
  exact⟨rfl,aa HB0.out hb2⟩
 have e7:(k == 7)=false:=by simpa using h7
 rw[e7]
 by_cases h8:k=8
 ·subst h8
  simp only[show ((8:Int) == 8)=true from rfl,if_true,Bool.false_eq_true,if_false]
  have hc:=HL1.out W
  generalize dW ⟨ak,ax,al,ay⟩ ⟨bk,bx,bl,by_⟩=q at *
  clear hx0 hx1
  go_enter Tryz.func102,Tryz.ntmps102
  go_wp2_with fail
  simp only[HW.out]
  refine hc.mono ?_
  rintro e w2 ⟨rfl,hb2⟩
  go_wp2
  go_ret
  exact⟨rfl,aa HB0.out hb2⟩
 have e8:(k == 8)=false:=by simpa using h8
 rw[e8]
 by_cases h10:k=10
 ·subst h10
  simp only[show ((10:Int) == 10)=true from rfl,if_true,Bool.false_eq_true,if_false]
  have hc:=HL2.out W
  generalize dW ⟨bk,bx,bl,by_⟩ ⟨ak,ax,al,ay⟩=q at *
  clear hx0 hx1
  go_enter Tryz.func102,Tryz.ntmps102
  go_wp2_with fail
  simp only[HW.out]
  refine hc.mono ?_
  rintro e w2 ⟨rfl,hb2⟩
  go_wp2
  go_ret
  exact⟨rfl,aa HB0.out hb2⟩
 have e10:(k == 10)=false:=by simpa using h10
 rw[e10]
 by_cases h9:k=9
 ·subst h9
  simp only[show ((9:Int) == 9)=true from rfl,if_true,Bool.false_eq_true,if_false]
  have hc:=HL2.out W
  generalize dW ⟨bk,bx,bl,by_⟩ ⟨ak,ax,al,ay⟩=q at *
  clear hx0 hx1
  go_enter Tryz.func102,Tryz.ntmps102
  go_wp2_with fail
  simp only[HW.out]
  refine hc.mono ?_
  rintro e w2 ⟨rfl,hb2⟩
  go_wp2_with (refine(oH _ _).mono ?_;rintro e w3 ⟨rfl,rfl⟩)
  go_ret
  exact⟨rfl,aa HB0.out hb2⟩
 have e9:(k == 9)=false:=by simpa using h9
 rw[e9]
 simp only[Bool.false_eq_true,if_false]
 have hc:=HL1.out W
 generalize dW ⟨ak,ax,al,ay⟩ ⟨bk,bx,bl,by_⟩=q at *
 clear hx0 hx1
 go_enter Tryz.func102,Tryz.ntmps102
 go_wp2_with fail
 simp only[HW.out]
 refine hc.mono ?_
 rintro e w2 ⟨rfl,hb2⟩
 go_wp2_with (refine(oH _ _).mono ?_;rintro e w3 ⟨rfl,rfl⟩)
 go_ret
 exact⟨rfl,aa HB0.out hb2⟩
end Go.Proofs.YtjldjeenfnahoaaGreatDoor
