/- The document's layer 25, walked: truth, Alone, Same, Less, A -/
import Derived.Test.YtjldjeenfnahoaaGreatDoorJFilRef2
set_option maxHeartbeats 4000000
namespace Go.Proofs.YtjldjeenfnahoaaGreatDoor
open Go Go.RowKit Fm
def dQ (t:Tm):Int:=if bH t then (if eG t then 1 else 2) else 3
theorem Ae (k:Int) (x l y:ByteArray):dQ ⟨k,x,l,y⟩=if aM ⟨k,x,l,y⟩ aK && (x.toList == [116,114,117,101] || x.toList == [49]) then 1 else if aM ⟨k,x,l,y⟩ aK && (x.toList == [102,97,108,115,101] || x.toList == [48]) then 2 else 3:=by
 unfold dQ bH eG
 simp only
 cases aM ⟨k,x,l,y⟩ aK<;>cases (x.toList == [116,114,117,101])<;>cases (x.toList == [49])<;>cases (x.toList == [102,97,108,115,101])<;>cases (x.toList == [48])<;>rfl
theorem fS (k:Int) (x l y:ByteArray) (w:World) :
  Calls Tryz.prog 128 #[.agg #[.int .i64 k,.string x,.string l,.string y]] w λe w'=>e=.returned (.int .i64 (dQ ⟨k,x,l,y⟩))/\Below w.heap.size w w':=by
 have ht:=λW=>xE k x l y aK W
 have hv:=Ae k x l y
 generalize dQ ⟨k,x,l,y⟩=v at hv ⊢
 generalize aM ⟨k,x,l,y⟩ aK=q at ht hv
 unfold aK at ht
 have Hv:=Lib.hid hv
 clear hv
 go_enter Tryz.func128,Tryz.ntmps128
 go_wp2_with fail
 refine(ht _).mono ?_
 rintro e w1 ⟨rfl,hb1⟩
 obtain⟨hc1,hf1⟩:=aB hb1
 cases q
 ·go_wp2_with fail
  refine(ht _).mono ?_
  rintro e w2 ⟨rfl,hb2⟩
  go_wp2
  go_ret
  exact⟨by rw[Hv.out];rfl,blw⟩
 ·cases h1:(x.toList == [116,114,117,101])
  ·cases h2:(x.toList == [49])
   ·go_wp2_with fail
    refine(ht _).mono ?_
    rintro e w2 ⟨rfl,hb2⟩
    obtain⟨hc2,hf2⟩:=aB (aa hb1 hb2)
    cases h3:(x.toList == [102,97,108,115,101])
    ·cases h4:(x.toList == [48])
     ·go_wp2
      go_ret
      exact⟨by rw[Hv.out,h1,h2,h3,h4];rfl,blw⟩
     ·go_wp2
      go_ret
      exact⟨by rw[Hv.out,h1,h2,h3,h4];rfl,blw⟩
    ·go_wp2
     go_ret
     exact⟨by rw[Hv.out,h1,h2,h3];rfl,blw⟩
   ·go_wp2
    go_ret
    exact⟨by rw[Hv.out,h1,h2];rfl,blw⟩
  ·go_wp2
   go_ret
   exact⟨by rw[Hv.out,h1];rfl,blw⟩
theorem xJ (k:Int) (x l y:ByteArray) (w:World) (hs:x.size<=281474976710656) :
  Calls Tryz.prog 98 #[.agg #[.int .i64 k,.string x,.string l,.string y]] w λe w'=>e=.returned (.int .i64 (gr ⟨k,x,l,y⟩))/\Below w.heap.size w w':=by
 have hN:=λW=>eU k x l y W hs
 have hT:=λW=>fS k x l y W
 have ho:=λty W=>xE k x l y ty W
 obtain⟨D,hD⟩:∃D:ByteArray,(⟨(bu ⟨k,x,l,y⟩).toArray⟩:ByteArray)=D:=⟨_,rfl⟩
 simp only[ew,hD]at hN
 have hl:D.toList=bu ⟨k,x,l,y⟩:=by rw[←hD,toList_mk]
 have hv:gr ⟨k,x,l,y⟩=if aM ⟨k,x,l,y⟩ aK then bC (dQ ⟨k,x,l,y⟩ == 1) else if aM ⟨k,x,l,y⟩ aO then bC (bP ⟨k,x,l,y⟩ && !(D.toList == [48])) else if k == 3 then bC (!x.toList.isEmpty) else 3:=by
  unfold gr
  rw[←hl]
  congr 2
  unfold dQ
  cases bH ⟨k,x,l,y⟩<;>cases eG ⟨k,x,l,y⟩<;>rfl
 rw[hv]
 have ho1:=ho aK
 have ho2:=ho aO
 clear hv hl hD ho hs
 generalize aM ⟨k,x,l,y⟩ aK=q1 at *
 generalize aM ⟨k,x,l,y⟩ aO=q2 at *
 generalize bP ⟨k,x,l,y⟩=i at *
 generalize cV ⟨k,x,l,y⟩=m at *
 generalize dQ ⟨k,x,l,y⟩=t at *
 unfold aK at ho1
 unfold aO at ho2
 go_enter Tryz.func98,Tryz.ntmps98
 go_wp2_with fail
 refine(hN _).mono ?_
 rintro e w1 ⟨rfl,hb1⟩
 obtain⟨hc1,hf1⟩:=aB hb1
 go_wp2_with fail
 refine(ho1 _).mono ?_
 rintro e w2 ⟨rfl,hb⟩
 have hb2:=aa hb1 hb
 clear hb1 hb hc1 hf1
 obtain⟨hc2,hf2⟩:=aB hb2
 cases q1
 ·go_wp2_with fail
  refine(ho2 _).mono ?_
  rintro e w3 ⟨rfl,hb⟩
  have hb3:=aa hb2 hb
  clear hb2 hb hc2 hf2
  obtain⟨hc3,hf3⟩:=aB hb3
  cases q2
  ·by_cases hk:k=3
   ·have hk3:(k == 3)=true:=by simp[hk]
    clear hk
    go_wp2_with ((refine(cy _ _).mono ?_);(rintro e w4 ⟨rfl,rfl⟩))
    go_ret
    exact⟨by simp,blw⟩
   ·have hk3:(k == 3)=false:=by simp[hk]
    clear hk
    go_wp2_with ((refine(cy _ _).mono ?_);(rintro e w4 ⟨rfl,rfl⟩))
    go_ret
    exact⟨by simp,blw⟩
  ·cases i
   all_goals
    go_wp2_with ((refine(cy _ _).mono ?_);(rintro e w4 ⟨rfl,rfl⟩))
    go_ret
    exact⟨by simp,blw⟩
 ·go_wp2_with fail
  refine(hT _).mono ?_
  rintro e w3 ⟨rfl,hb⟩
  have hb3:=aa hb2 hb
  clear hb2 hb hc2 hf2
  go_wp2_with ((refine(cy _ _).mono ?_);(rintro e w4 ⟨rfl,rfl⟩))
  go_ret
  exact⟨by simp,blw⟩
def gw (d e:List UInt8):Bool:=decide ((d.length:Int)<e.length) || ((d.length:Int) == e.length && Op.bytesLess d e)
theorem ox (t:Tm):(dQ t != 3)=bH t:=by
 unfold dQ
 cases bH t<;>cases eG t<;>rfl
theorem wA (d e:List UInt8):(iX d e == 0)=(d == e):=by
 rw[Bool.eq_iff_iff,beq_iff_eq,beq_iff_eq]
 unfold iX
 split
 ·exact dO d e
 ·rename_i h
  constructor
  ·intro hc;exact(h hc).elim
  ·intro hde;subst hde;simp[Lib.compareInt]at h
theorem mg (d e:List UInt8):decide (iX d e<0)=gw d e:=by
 unfold iX gw
 rw[bytesLess_eq]
 by_cases h1:(d.length:Int)<e.length
 ·have:Lib.compareInt d.length e.length = -1:=by unfold Lib.compareInt;rw[if_pos h1]
  simp[this,h1]
 ·by_cases h2:(d.length:Int) > e.length
  ·have:Lib.compareInt d.length e.length=1:=by unfold Lib.compareInt;rw[if_neg h1,if_pos h2]
   have h3:¬ (d.length:Int)=e.length:=by omega
   rw[this]
   have h4:((d.length:Int) == e.length)=false:=by simpa using h3
   simp[h4,h1]
  ·have h3:(d.length:Int)=e.length:=by omega
   have:Lib.compareInt d.length e.length=0:=by unfold Lib.compareInt;rw[if_neg h1,if_neg h2]
   have h4:((d.length:Int) == e.length)=true:=by simpa using h3
   have h5:decide ((d.length:Int)<e.length)=false:=by simpa using h1
   rw[this,h4,h5,if_pos rfl,Bool.false_or,Bool.true_and]
   rw[decide_eq_decide]
   exact pv d e
theorem uX (a b:Tm):gN a b=if bP a && bP b then bC (cV a == cV b && bu a == bu b) else if (dQ a != 3) && (dQ b != 3) then bC (dQ a == dQ b)
  else if bg a b then 1 else if !iR a || !iR b then 2 else if ba a && ba b then 2 else 3:=by
 rw[ox,ox]
 unfold gN qu
 cases hn:(bP a && bP b)
 ·cases hb:(bH a && bH b)
  ·simp only[Bool.false_or,Bool.false_eq_true,if_false]
   cases hp:(ba a && ba b)
   ·simp
   ·simp only[if_true]
    rw[Bool.and_eq_true]at hp
    obtain⟨p1,p2⟩:=hp
    rw[lF p1]
    have h1:(bc a.x.toList b.x.toList == 0)=(a.x.toList == b.x.toList):=by
     rw[Bool.eq_iff_iff,beq_iff_eq,beq_iff_eq];exact dO _ _
    have h2:bg a b=(a.x.toList == b.x.toList):=by
     unfold ba at p1 p2
     simp only[Bool.and_eq_true,beq_iff_eq,List.isEmpty_iff]at p1 p2
     unfold bg
     rw[p1.1.1,p2.1.1,p1.1.2,p2.1.2,p1.2,p2.2]
     simp
    rw[h1,h2]
    cases (a.x.toList == b.x.toList)
    ·simp[bC]
    ·simp[bC]
  ·simp only[Bool.false_or,Bool.true_or,if_true,Bool.false_eq_true,if_false]
   rw[Bool.and_eq_true]at hb
   rw[nP hb.1 hb.2]
   unfold dQ
   rw[hb.1,hb.2]
   cases eG a<;>cases eG b<;>rfl
 ·simp only[Bool.true_or,if_true]
  rw[Bool.and_eq_true]at hn
  rw[qt hn.1 hn.2,←wA]
  cases cV a<;>cases cV b
  ·simp
  ·simp[wt,bC]
  ·simp[wt,bC]
  ·have:(-iX (bu a) (bu b) == 0)=(iX (bu a) (bu b) == 0):=by rw[Bool.eq_iff_iff,beq_iff_eq,beq_iff_eq];omega
   simp[this]
theorem vO (a b:Tm):dW a b=if bP a && bP b && (cV a != cV b) then bC (cV a) else if bP a && bP b && cV a then bC (gw (bu b) (bu a)) else if bP a && bP b then bC (gw (bu a) (bu b))
  else if (dQ a != 3) && (dQ b != 3) then bC (dQ a == 2 && dQ b == 1) else if ba a && ba b then bC (Op.bytesLess a.x.toList b.x.toList) else 3:=by
 rw[ox,ox,←mg,←mg]
 unfold dW qu
 cases hn:(bP a && bP b)
 ·cases hb:(bH a && bH b)
  ·simp only[Bool.false_or,Bool.false_and,Bool.false_eq_true,if_false]
   cases hp:(ba a && ba b)
   ·simp
   ·simp only[if_true]
    rw[Bool.and_eq_true]at hp
    rw[lF hp.1,bytesLess_eq]
    congr 1
    rw[decide_eq_decide]
    exact pv _ _
  ·simp only[Bool.false_or,Bool.true_or,if_true,Bool.false_and,Bool.false_eq_true,if_false]
   rw[Bool.and_eq_true]at hb
   rw[nP hb.1 hb.2]
   unfold dQ
   rw[hb.1,hb.2]
   cases eG a<;>cases eG b<;>rfl
 ·simp only[Bool.true_or,if_true,Bool.true_and]
  rw[Bool.and_eq_true]at hn
  rw[qt hn.1 hn.2]
  have:=zz (bu a) (bu b)
  cases cV a<;>cases cV b
  ·simp
  ·simp[wt,bC]
  ·simp[wt,bC]
  ·simp only[bne_self_eq_false,Bool.false_eq_true,if_false,if_true]
   rw[this]
theorem sd (d e:ByteArray) (w:World) :
  Calls Tryz.prog 160 #[.string d,.string e] w λe' w'=>e'=.returned (.bool (gw d.toList e.toList))/\w=w':=by
 have h1:(d.toList.length:Int)=d.size:=by rw[ByteArray.toList_eq,ac]
 have h2:(e.toList.length:Int)=e.size:=by rw[ByteArray.toList_eq,ac]
 unfold gw
 rw[h1,h2]
 clear h1 h2
 go_enter Tryz.func160,Tryz.ntmps160
 go_wp2
 all_goals
  go_ret
  exact⟨by simp_all<;>(intro;omega),rfl⟩
theorem AA (k1:Int) (x1 l1 y1:ByteArray) (k2:Int) (x2 l2 y2:ByteArray) (w:World) (hs1:x1.size<=281474976710656) (hs2:x2.size<=281474976710656) :
  Calls Tryz.prog 129 #[.agg #[.int .i64 k1,.string x1,.string l1,.string y1],.agg #[.int .i64 k2,.string x2,.string l2,.string y2]] w λe w' =>
   e=.returned (.int .i64 (gN ⟨k1,x1,l1,y1⟩ ⟨k2,x2,l2,y2⟩))/\Below w.heap.size w w':=by
 have hN1:=λW=>eU k1 x1 l1 y1 W hs1
 have hN2:=λW=>eU k2 x2 l2 y2 W hs2
 have hT1:=λW=>fS k1 x1 l1 y1 W
 have hT2:=λW=>fS k2 x2 l2 y2 W
 obtain⟨D1,hD1⟩:∃D:ByteArray,(⟨(bu ⟨k1,x1,l1,y1⟩).toArray⟩:ByteArray)=D:=⟨_,rfl⟩
 obtain⟨D2,hD2⟩:∃D:ByteArray,(⟨(bu ⟨k2,x2,l2,y2⟩).toArray⟩:ByteArray)=D:=⟨_,rfl⟩
 simp only[ew,hD1]at hN1
 simp only[ew,hD2]at hN2
 have hl1:D1.toList=bu ⟨k1,x1,l1,y1⟩:=by rw[←hD1,toList_mk]
 have hl2:D2.toList=bu ⟨k2,x2,l2,y2⟩:=by rw[←hD2,toList_mk]
 have hv:=uX ⟨k1,x1,l1,y1⟩ ⟨k2,x2,l2,y2⟩
 rw[←hl1,←hl2]at hv
 generalize gN ⟨k1,x1,l1,y1⟩ ⟨k2,x2,l2,y2⟩=v at hv ⊢
 clear hl1 hl2 hD1 hD2 hs1 hs2
 generalize cV ⟨k1,x1,l1,y1⟩=m1 at *
 generalize cV ⟨k2,x2,l2,y2⟩=m2 at *
 generalize bP ⟨k1,x1,l1,y1⟩=i1 at *
 generalize bP ⟨k2,x2,l2,y2⟩=i2 at *
 generalize dQ ⟨k1,x1,l1,y1⟩=t1 at *
 generalize dQ ⟨k2,x2,l2,y2⟩=t2 at *
 have Hv:=Lib.hid hv
 clear hv
 go_enter Tryz.func129,Tryz.ntmps129
 go_wp2_with fail
 refine(hN1 _).mono ?_
 rintro e w1 ⟨rfl,hb1⟩
 obtain⟨hc1,hf1⟩:=aB hb1
 go_wp2_with fail
 refine(hN2 _).mono ?_
 rintro e w2 ⟨rfl,hb2⟩
 have hb:=aa hb1 hb2
 clear hc1 hf1 hb1 hb2
 obtain⟨hc,hf⟩:=aB hb
 cases hi:(i1 && i2)
 ·cases i1<;>cases i2<;>try (cases hi;done)
  all_goals
   clear hi
   by_cases ht:t1=3
   ·have q1:(t1 != 3)=false:=by simp[ht]
    clear ht
    go_wp2_with fail
    refine(hT1 _).mono ?_
    rintro e w3 ⟨rfl,hbn⟩
    have hb9:=aa hb hbn
    clear hb hbn hc hf
    have hb:=hb9
    clear hb9
    obtain⟨hc,hf⟩:=aB hb
    go_wp2_with (first|(go_at_call 104;refine(gZ _ _ _ _ _).mono ?_;rintro e w5 ⟨rfl,hbn⟩;have hb9:=aa hb hbn;clear hb hbn hc hf;have hb:=hb9;clear hb9;obtain⟨hc,hf⟩:=aB hb)|(go_at_call 159;refine(iC _ _ _ _ _).mono ?_;rintro e w5 ⟨rfl,hbn⟩;have hb9:=aa hb hbn;clear hb hbn hc hf;have hb:=hb9;clear hb9;obtain⟨hc,hf⟩:=aB hb))
    all_goals
     go_ret
     refine⟨?_,blw⟩
     rw[Hv.out]
     simp_all[bg,iR,ba]<;>(repeat' split)<;>first|rfl|omega|(simp_all;done)|(simp_all;omega)
   ·have q1:(t1 != 3)=true:=by simp[ht]
    clear ht
    by_cases ht:t2=3
    ·have q2:(t2 != 3)=false:=by simp[ht]
     clear ht
     go_wp2_with fail
     refine(hT1 _).mono ?_
     rintro e w3 ⟨rfl,hbn⟩
     have hb9:=aa hb hbn
     clear hb hbn hc hf
     have hb:=hb9
     clear hb9
     obtain⟨hc,hf⟩:=aB hb
     go_wp2_with fail
     refine(hT2 _).mono ?_
     rintro e w3 ⟨rfl,hbn⟩
     have hb9:=aa hb hbn
     clear hb hbn hc hf
     have hb:=hb9
     clear hb9
     obtain⟨hc,hf⟩:=aB hb
     go_wp2_with (first|(go_at_call 104;refine(gZ _ _ _ _ _).mono ?_;rintro e w5 ⟨rfl,hbn⟩;have hb9:=aa hb hbn;clear hb hbn hc hf;have hb:=hb9;clear hb9;obtain⟨hc,hf⟩:=aB hb)|(go_at_call 159;refine(iC _ _ _ _ _).mono ?_;rintro e w5 ⟨rfl,hbn⟩;have hb9:=aa hb hbn;clear hb hbn hc hf;have hb:=hb9;clear hb9;obtain⟨hc,hf⟩:=aB hb))
     all_goals
      go_ret
      refine⟨?_,blw⟩
      rw[Hv.out]
      simp_all[bg,iR,ba]<;>(repeat' split)<;>first|rfl|omega|(simp_all;done)|(simp_all;omega)
    ·have q2:(t2 != 3)=true:=by simp[ht]
     clear ht
     go_wp2_with fail
     refine(hT1 _).mono ?_
     rintro e w3 ⟨rfl,hbn⟩
     have hb9:=aa hb hbn
     clear hb hbn hc hf
     have hb:=hb9
     clear hb9
     obtain⟨hc,hf⟩:=aB hb
     go_wp2_with fail
     refine(hT2 _).mono ?_
     rintro e w3 ⟨rfl,hbn⟩
     have hb9:=aa hb hbn
     clear hb hbn hc hf
     have hb:=hb9
     clear hb9
     obtain⟨hc,hf⟩:=aB hb
     have g01:=λd os=>aD hb 0 _ rfl d os
     have g02:=λd os=>aD hb 1 _ rfl d os
     have g03:=λd os=>aD hb 2 _ rfl d os
     have g04:=λd os=>aD hb 3 _ rfl d os
     have g11:=λd os=>aC hb 0 _ rfl d os
     have g12:=λd os=>aC hb 1 _ rfl d os
     have g13:=λd os=>aC hb 2 _ rfl d os
     have g14:=λd os=>aC hb 3 _ rfl d os
     go_wp2
     refine wrq ?_;(repeat (any_goals (go_big_quiet_step ((first|(go_at_call 128;with_reducible exact Calls.regrown_of (hT1 _))|(go_at_call 128;with_reducible exact Calls.regrown_of (hT2 _))|(go_at_call 103;with_reducible exact Calls.quiet_tr (cy _ _)))))));all_goals (refine wqn ?_;intro d9 os9)
     go_wp2
     go_ret
     exact⟨by rw[Hv.out];simp[*],blw⟩
 ·rw[Bool.and_eq_true]at hi
  obtain⟨rfl,rfl⟩:=hi
  cases m1<;>cases m2
  all_goals
   go_wp2_with ((refine(cy _ _).mono ?_);(rintro e w4 ⟨rfl,rfl⟩))
   go_ret
   exact⟨by rw[Hv.out];simp[*],blw⟩
theorem tL (k1:Int) (x1 l1 y1:ByteArray) (k2:Int) (x2 l2 y2:ByteArray) (w:World) (hs1:x1.size<=281474976710656) (hs2:x2.size<=281474976710656) :
  Calls Tryz.prog 130 #[.agg #[.int .i64 k1,.string x1,.string l1,.string y1],.agg #[.int .i64 k2,.string x2,.string l2,.string y2]] w λe w' =>
   e=.returned (.int .i64 (dW ⟨k1,x1,l1,y1⟩ ⟨k2,x2,l2,y2⟩))/\Below w.heap.size w w':=by
 have hN1:=λW=>eU k1 x1 l1 y1 W hs1
 have hN2:=λW=>eU k2 x2 l2 y2 W hs2
 have hT1:=λW=>fS k1 x1 l1 y1 W
 have hT2:=λW=>fS k2 x2 l2 y2 W
 have hP1:=λW=>iC k1 x1 l1 y1 W
 have hP2:=λW=>iC k2 x2 l2 y2 W
 obtain⟨D1,hD1⟩:∃D:ByteArray,(⟨(bu ⟨k1,x1,l1,y1⟩).toArray⟩:ByteArray)=D:=⟨_,rfl⟩
 obtain⟨D2,hD2⟩:∃D:ByteArray,(⟨(bu ⟨k2,x2,l2,y2⟩).toArray⟩:ByteArray)=D:=⟨_,rfl⟩
 simp only[ew,hD1]at hN1
 simp only[ew,hD2]at hN2
 have hl1:D1.toList=bu ⟨k1,x1,l1,y1⟩:=by rw[←hD1,toList_mk]
 have hl2:D2.toList=bu ⟨k2,x2,l2,y2⟩:=by rw[←hD2,toList_mk]
 have hv:=vO ⟨k1,x1,l1,y1⟩ ⟨k2,x2,l2,y2⟩
 rw[←hl1,←hl2]at hv
 simp only at hv
 generalize dW ⟨k1,x1,l1,y1⟩ ⟨k2,x2,l2,y2⟩=v at hv ⊢
 clear hl1 hl2 hD1 hD2 hs1 hs2
 generalize cV ⟨k1,x1,l1,y1⟩=m1 at *
 generalize cV ⟨k2,x2,l2,y2⟩=m2 at *
 generalize bP ⟨k1,x1,l1,y1⟩=i1 at *
 generalize bP ⟨k2,x2,l2,y2⟩=i2 at *
 generalize dQ ⟨k1,x1,l1,y1⟩=t1 at *
 generalize dQ ⟨k2,x2,l2,y2⟩=t2 at *
 generalize ba ⟨k1,x1,l1,y1⟩=p1 at *
 generalize ba ⟨k2,x2,l2,y2⟩=p2 at *
 have Hv:=Lib.hid hv
 clear hv
 go_enter Tryz.func130,Tryz.ntmps130
 go_wp2_with fail
 refine(hN1 _).mono ?_
 rintro e w1 ⟨rfl,hb1⟩
 obtain⟨hc1,hf1⟩:=aB hb1
 go_wp2_with fail
 refine(hN2 _).mono ?_
 rintro e w2 ⟨rfl,hb2⟩
 have hb:=aa hb1 hb2
 clear hc1 hf1 hb1 hb2
 obtain⟨hc,hf⟩:=aB hb
 cases hi:(i1 && i2)
 ·cases i1<;>cases i2<;>try (cases hi;done)
  all_goals
   clear hi
   by_cases ht:t1=3
   ·have q1:(t1 != 3)=false:=by simp[ht]
    clear ht
    go_wp2_with fail
    refine(hT1 _).mono ?_
    rintro e w3 ⟨rfl,hbn⟩
    have hb9:=aa hb hbn
    clear hb hbn hc hf
    have hb:=hb9
    clear hb9
    obtain⟨hc,hf⟩:=aB hb
    cases p1
    ·go_wp2_with fail
     refine(hP1 _).mono ?_
     rintro e w3 ⟨rfl,hbn⟩
     have hb9:=aa hb hbn
     clear hb hbn hc hf
     have hb:=hb9
     clear hb9
     obtain⟨hc,hf⟩:=aB hb
     go_wp2
     go_ret
     exact⟨by rw[Hv.out];simp[*],blw⟩
    ·go_wp2_with fail
     refine(hP1 _).mono ?_
     rintro e w3 ⟨rfl,hbn⟩
     have hb9:=aa hb hbn
     clear hb hbn hc hf
     have hb:=hb9
     clear hb9
     obtain⟨hc,hf⟩:=aB hb
     cases p2
     ·go_wp2_with fail
      refine(hP2 _).mono ?_
      rintro e w3 ⟨rfl,hbn⟩
      have hb9:=aa hb hbn
      clear hb hbn hc hf
      have hb:=hb9
      clear hb9
      obtain⟨hc,hf⟩:=aB hb
      go_wp2
      go_ret
      exact⟨by rw[Hv.out];simp[*],blw⟩
     ·go_wp2_with fail
      refine(hP2 _).mono ?_
      rintro e w3 ⟨rfl,hbn⟩
      have hb9:=aa hb hbn
      clear hb hbn hc hf
      have hb:=hb9
      clear hb9
      obtain⟨hc,hf⟩:=aB hb
      go_wp2_with ((refine(cy _ _).mono ?_);(rintro e w4 ⟨rfl,rfl⟩))
      go_ret
      exact⟨by rw[Hv.out];simp[*],blw⟩
   ·have q1:(t1 != 3)=true:=by simp[ht]
    clear ht
    by_cases ht:t2=3
    ·have q2:(t2 != 3)=false:=by simp[ht]
     clear ht
     go_wp2_with fail
     refine(hT1 _).mono ?_
     rintro e w3 ⟨rfl,hbn⟩
     have hb9:=aa hb hbn
     clear hb hbn hc hf
     have hb:=hb9
     clear hb9
     obtain⟨hc,hf⟩:=aB hb
     go_wp2_with fail
     refine(hT2 _).mono ?_
     rintro e w3 ⟨rfl,hbn⟩
     have hb9:=aa hb hbn
     clear hb hbn hc hf
     have hb:=hb9
     clear hb9
     obtain⟨hc,hf⟩:=aB hb
     cases p1
     ·go_wp2_with fail
      refine(hP1 _).mono ?_
      rintro e w3 ⟨rfl,hbn⟩
      have hb9:=aa hb hbn
      clear hb hbn hc hf
      have hb:=hb9
      clear hb9
      obtain⟨hc,hf⟩:=aB hb
      go_wp2
      go_ret
      exact⟨by rw[Hv.out];simp[*],blw⟩
     ·go_wp2_with fail
      refine(hP1 _).mono ?_
      rintro e w3 ⟨rfl,hbn⟩
      have hb9:=aa hb hbn
      clear hb hbn hc hf
      have hb:=hb9
      clear hb9
      obtain⟨hc,hf⟩:=aB hb
      cases p2
      ·go_wp2_with fail
       refine(hP2 _).mono ?_
       rintro e w3 ⟨rfl,hbn⟩
       have hb9:=aa hb hbn
       clear hb hbn hc hf
       have hb:=hb9
       clear hb9
       obtain⟨hc,hf⟩:=aB hb
       go_wp2
       go_ret
       exact⟨by rw[Hv.out];simp[*],blw⟩
      ·go_wp2_with fail
       refine(hP2 _).mono ?_
       rintro e w3 ⟨rfl,hbn⟩
       have hb9:=aa hb hbn
       clear hb hbn hc hf
       have hb:=hb9
       clear hb9
       obtain⟨hc,hf⟩:=aB hb
       go_wp2_with ((refine(cy _ _).mono ?_);(rintro e w4 ⟨rfl,rfl⟩))
       go_ret
       exact⟨by rw[Hv.out];simp[*],blw⟩
    ·have q2:(t2 != 3)=true:=by simp[ht]
     clear ht
     go_wp2_with fail
     refine(hT1 _).mono ?_
     rintro e w3 ⟨rfl,hbn⟩
     have hb9:=aa hb hbn
     clear hb hbn hc hf
     have hb:=hb9
     clear hb9
     obtain⟨hc,hf⟩:=aB hb
     go_wp2_with fail
     refine(hT2 _).mono ?_
     rintro e w3 ⟨rfl,hbn⟩
     have hb9:=aa hb hbn
     clear hb hbn hc hf
     have hb:=hb9
     clear hb9
     obtain⟨hc,hf⟩:=aB hb
     go_wp2_with fail
     refine(hT1 _).mono ?_
     rintro e w3 ⟨rfl,hbn⟩
     have hb9:=aa hb hbn
     clear hb hbn hc hf
     have hb:=hb9
     clear hb9
     obtain⟨hc,hf⟩:=aB hb
     by_cases h2:t1=2
     ·have q3:(t1 == 2)=true:=by simp[h2]
      clear h2
      go_wp2_with fail
      refine(hT2 _).mono ?_
      rintro e w3 ⟨rfl,hbn⟩
      have hb9:=aa hb hbn
      clear hb hbn hc hf
      have hb:=hb9
      clear hb9
      obtain⟨hc,hf⟩:=aB hb
      go_wp2_with ((refine(cy _ _).mono ?_);(rintro e w4 ⟨rfl,rfl⟩))
      go_ret
      exact⟨by rw[Hv.out];simp[*],blw⟩
     ·have q3:(t1 == 2)=false:=by simp[h2]
      clear h2
      go_wp2_with ((refine(cy _ _).mono ?_);(rintro e w4 ⟨rfl,rfl⟩))
      go_ret
      exact⟨by rw[Hv.out];simp[*],blw⟩
 ·rw[Bool.and_eq_true]at hi
  obtain⟨rfl,rfl⟩:=hi
  cases m1<;>cases m2
  all_goals
   go_wp2_with (first|(go_at_call 160;refine(sd _ _ _).mono ?_;rintro e w4 ⟨rfl,rfl⟩)|(go_at_call 103;refine(cy _ _).mono ?_;rintro e w4 ⟨rfl,rfl⟩))
   go_ret
   exact⟨by rw[Hv.out];simp[*],blw⟩
def AK (first:Int) (b:Bool):Int:=if b then 3 else first
def sZ (l:List Int) (wr:Bool):Int:=if gJ l 2 then 2 else if wr || iI l 2 then 3 else 1
def orF (l:List Int) (wr:Bool):Int:=if gJ l 1 then 1 else if wr || iI l 1 then 3 else 2
theorem wJ (x:Int) (l:List Int) (wr:Bool):sZ (x::l) wr=if x == 2 then 2 else sZ l (wr || x != 1):=by
 unfold sZ gJ iI
 rw[List.contains_cons,List.any_cons,show dU 2=1 from rfl]
 rw[show ((2:Int) == x)=(x == 2) from BEq.comm]
 cases (x == 2)
 ·simp only[Bool.false_or,Bool.or_assoc];rfl
 ·rfl
theorem yl (x:Int) (l:List Int) (wr:Bool):orF (x::l) wr=if x == 1 then 1 else orF l (wr || x != 2):=by
 unfold orF gJ iI
 rw[List.contains_cons,List.any_cons,show dU 1=2 from rfl]
 rw[show ((1:Int) == x)=(x == 1) from BEq.comm]
 cases (x == 1)
 ·simp only[Bool.false_or,Bool.or_assoc];rfl
 ·rfl
theorem Cj (l:List Int) (A:Option Addr) (c:Nat) (w:World) (hl:l.length<=1000000000) (hr:Rd w A (l.map (Value.int .i64))) :
  Calls Tryz.prog 100 #[.slice A l.length c] w λe w'=>e=.returned (.int .i64 (mo l))/\Below w.heap.size w w':=by
 have hres:sZ l false=mo l:=by unfold sZ mo eD;simp[dU]
 generalize mo l=r at hres ⊢
 have Hres:=Lib.hid hres
 clear hres
 go_enter Tryz.func100,Tryz.ntmps100
 go_wp2
 go_loop [3,4] (λo i=>∃(k:Nat) (b:Bool),k<=l.length/\i=.int .i64 k/\o=.int .i64 (AK 1 b)/\Hid (sZ (l.drop k) b=r)) (λ_ i=>l.length-(intOf i).toNat)
 case atStart=>exact⟨0,false,by omega,rfl,rfl,Hres⟩
 case round =>
  obtain⟨k,b,hk,rfl,rfl,H⟩:=hrel
  by_cases hlt:k<l.length
  ·obtain⟨x,hx⟩:∃x,l[k]?=some x:=⟨_,List.getElem?_eq_getElem hlt⟩
   obtain⟨g,o,rfl,hcx⟩:=hr.at_ (j:=k) (u:=.int .i64 x) (by simp[hx])
   have hd:l.drop k=x::l.drop (k+1):=by
    rw[List.drop_eq_getElem_cons hlt]
    rw[List.getElem?_eq_getElem hlt]at hx
    injection hx with hx;rw[hx]
   have H2:Hid ((if x == 2 then 2 else sZ (l.drop (k+1)) (b || x != 1))=r):=by
    show _=_
    rw[←H.out,hd,wJ]
   clear hx hd H hr
   cases hx0:(x == 2)
   ·rw[hx0]at H2
    cases hx1:(x != 1)
    ·rw[hx1,Bool.or_false]at H2
     go_wp2
     go_round
     case rel=>exact⟨k+1,b,by omega,by go_num,rfl,H2⟩
     case measure=>simp[intOf];omega
    ·rw[hx1,Bool.or_true]at H2
     go_wp2
     go_round
     case rel=>exact⟨k+1,true,by omega,by go_num,rfl,H2⟩
     case measure=>simp[intOf];omega
   ·rw[hx0]at H2
    go_wp2
    go_ret
    exact⟨by rw[←H2.out];rfl,Below.refl _ _⟩
  ·have H2:Hid (AK 1 b=r):=by
    show _=_
    rw[←H.out,List.drop_eq_nil_of_le (by omega)]
    cases b<;>rfl
   clear H
   go_wp2
   go_ret
   exact⟨by rw[←H2.out];rfl,Below.refl _ _⟩
theorem Dj (l:List Int) (A:Option Addr) (c:Nat) (w:World) (hl:l.length<=1000000000) (hr:Rd w A (l.map (Value.int .i64))) :
  Calls Tryz.prog 101 #[.slice A l.length c] w λe w'=>e=.returned (.int .i64 (orI l))/\Below w.heap.size w w':=by
 have hres:orF l false=orI l:=by unfold orF orI eD;simp[dU]
 generalize orI l=r at hres ⊢
 have Hres:=Lib.hid hres
 clear hres
 go_enter Tryz.func101,Tryz.ntmps101
 go_wp2
 go_loop [3,4] (λo i=>∃(k:Nat) (b:Bool),k<=l.length/\i=.int .i64 k/\o=.int .i64 (AK 2 b)/\Hid (orF (l.drop k) b=r)) (λ_ i=>l.length-(intOf i).toNat)
 case atStart=>exact⟨0,false,by omega,rfl,rfl,Hres⟩
 case round =>
  obtain⟨k,b,hk,rfl,rfl,H⟩:=hrel
  by_cases hlt:k<l.length
  ·obtain⟨x,hx⟩:∃x,l[k]?=some x:=⟨_,List.getElem?_eq_getElem hlt⟩
   obtain⟨g,o,rfl,hcx⟩:=hr.at_ (j:=k) (u:=.int .i64 x) (by simp[hx])
   have hd:l.drop k=x::l.drop (k+1):=by
    rw[List.drop_eq_getElem_cons hlt]
    rw[List.getElem?_eq_getElem hlt]at hx
    injection hx with hx;rw[hx]
   have H2:Hid ((if x == 1 then 1 else orF (l.drop (k+1)) (b || x != 2))=r):=by
    show _=_
    rw[←H.out,hd,yl]
   clear hx hd H hr
   cases hx0:(x == 1)
   ·rw[hx0]at H2
    cases hx1:(x != 2)
    ·rw[hx1,Bool.or_false]at H2
     go_wp2
     go_round
     case rel=>exact⟨k+1,b,by omega,by go_num,rfl,H2⟩
     case measure=>simp[intOf];omega
    ·rw[hx1,Bool.or_true]at H2
     go_wp2
     go_round
     case rel=>exact⟨k+1,true,by omega,by go_num,rfl,H2⟩
     case measure=>simp[intOf];omega
   ·rw[hx0]at H2
    go_wp2
    go_ret
    exact⟨by rw[←H2.out];rfl,Below.refl _ _⟩
  ·have H2:Hid (AK 2 b=r):=by
    show _=_
    rw[←H.out,List.drop_eq_nil_of_le (by omega)]
    cases b<;>rfl
   clear H
   go_wp2
   go_ret
   exact⟨by rw[←H2.out];rfl,Below.refl _ _⟩
theorem below_drewN {B:Nat} {a w:World} (h:Below B a w) (n:Nat):Below B a (w.drewN n):=⟨h.os,h.tape,h.output,h.size,h.block⟩
end Go.Proofs.YtjldjeenfnahoaaGreatDoor
