/- The document's layer 25, walked: truth, Alone, Same, Less, A -/
import Derived.Test.YtoejnneknpoanaaGreatDoorJFilRef2
set_option maxHeartbeats 4000000
namespace Go.Proofs.YtoejnneknpoanaaGreatDoor
open Go Go.RowKit Fm
def ef (t:Tm):Int:=if bL t then (if eQ t then 1 else 2) else 3
theorem BS (k:Int) (x l y:ByteArray):ef ⟨k,x,l,y⟩=if aN ⟨k,x,l,y⟩ aL && (x.toList == [116,114,117,101] || x.toList == [49]) then 1 else if aN ⟨k,x,l,y⟩ aL && (x.toList == [102,97,108,115,101] || x.toList == [48]) then 2 else 3:=by
 unfold ef bL eQ
 simp only
 cases aN ⟨k,x,l,y⟩ aL<;>cases (x.toList == [116,114,117,101])<;>cases (x.toList == [49])<;>cases (x.toList == [102,97,108,115,101])<;>cases (x.toList == [48])<;>rfl
theorem gj (k:Int) (x l y:ByteArray) (w:World) :
  Calls Tryz.prog 164 #[.agg #[.int .i64 k,.string x,.string l,.string y]] w λe w'=>e=.returned (.int .i64 (ef ⟨k,x,l,y⟩))/\Below w.heap.size w w':=by
 have ht:=λW=>zk k x l y aL W
 have hv:=BS k x l y
 generalize ef ⟨k,x,l,y⟩=v at hv ⊢
 generalize aN ⟨k,x,l,y⟩ aL=q at ht hv
 unfold aL at ht
 have Hv:=Lib.hid hv
 clear hv
 go_enter Tryz.func164,Tryz.ntmps164
 go_wp2_with fail
 refine(ht _).mono ?_
 rintro e w1 ⟨rfl,hb1⟩
 obtain⟨hc1,hf1⟩:=aC hb1
 cases q
 ·go_wp2_with fail
  refine(ht _).mono ?_
  rintro e w2 ⟨rfl,hb2⟩
  go_wp2
  go_ret
  exact⟨by rw[Hv.out];rfl,blw⟩
 ·cases h1:(x.toList == [116,114,117,101])
  ·cases h2:(x.toList == [49])
   ·go_wp2_with fail
    refine(ht _).mono ?_
    rintro e w2 ⟨rfl,hb2⟩
    obtain⟨hc2,hf2⟩:=aC (aa hb1 hb2)
    cases h3:(x.toList == [102,97,108,115,101])
    ·cases h4:(x.toList == [48])
     ·go_wp2
      go_ret
      exact⟨by rw[Hv.out,h1,h2,h3,h4];rfl,blw⟩
     ·go_wp2
      go_ret
      exact⟨by rw[Hv.out,h1,h2,h3,h4];rfl,blw⟩
    ·go_wp2
     go_ret
     exact⟨by rw[Hv.out,h1,h2,h3];rfl,blw⟩
   ·go_wp2
    go_ret
    exact⟨by rw[Hv.out,h1,h2];rfl,blw⟩
  ·go_wp2
   go_ret
   exact⟨by rw[Hv.out,h1];rfl,blw⟩
theorem zq (k:Int) (x l y:ByteArray) (w:World) (hs:x.size<=281474976710656) :
  Calls Tryz.prog 127 #[.agg #[.int .i64 k,.string x,.string l,.string y]] w λe w'=>e=.returned (.int .i64 (gL ⟨k,x,l,y⟩))/\Below w.heap.size w w':=by
 have hN:=λW=>ff k x l y W hs
 have hT:=λW=>gj k x l y W
 have ho:=λty W=>zk k x l y ty W
 obtain⟨D,hD⟩:∃D:ByteArray,(⟨(bz ⟨k,x,l,y⟩).toArray⟩:ByteArray)=D:=⟨_,rfl⟩
 simp only[eJ,hD]at hN
 have hl:D.toList=bz ⟨k,x,l,y⟩:=by rw[←hD,toList_mk]
 have hv:gL ⟨k,x,l,y⟩=if aN ⟨k,x,l,y⟩ aL then bG (ef ⟨k,x,l,y⟩ == 1) else if aN ⟨k,x,l,y⟩ aP then bG (bU ⟨k,x,l,y⟩ && !(D.toList == [48])) else if k == 3 then bG (!x.toList.isEmpty) else 3:=by
  unfold gL
  rw[←hl]
  congr 2
  unfold ef
  cases bL ⟨k,x,l,y⟩<;>cases eQ ⟨k,x,l,y⟩<;>rfl
 rw[hv]
 have ho1:=ho aL
 have ho2:=ho aP
 clear hv hl hD ho hs
 generalize aN ⟨k,x,l,y⟩ aL=q1 at *
 generalize aN ⟨k,x,l,y⟩ aP=q2 at *
 generalize bU ⟨k,x,l,y⟩=i at *
 generalize df ⟨k,x,l,y⟩=m at *
 generalize ef ⟨k,x,l,y⟩=t at *
 unfold aL at ho1
 unfold aP at ho2
 go_enter Tryz.func127,Tryz.ntmps127
 go_wp2_with fail
 refine(hN _).mono ?_
 rintro e w1 ⟨rfl,hb1⟩
 obtain⟨hc1,hf1⟩:=aC hb1
 go_wp2_with fail
 refine(ho1 _).mono ?_
 rintro e w2 ⟨rfl,hb⟩
 have hb2:=aa hb1 hb
 clear hb1 hb hc1 hf1
 obtain⟨hc2,hf2⟩:=aC hb2
 cases q1
 ·go_wp2_with fail
  refine(ho2 _).mono ?_
  rintro e w3 ⟨rfl,hb⟩
  have hb3:=aa hb2 hb
  clear hb2 hb hc2 hf2
  obtain⟨hc3,hf3⟩:=aC hb3
  cases q2
  ·by_cases hk:k=3
   ·have hk3:(k == 3)=true:=by simp[hk]
    clear hk
    go_wp2_with ((refine(cH _ _).mono ?_);(rintro e w4 ⟨rfl,rfl⟩))
    go_ret
    exact⟨by simp,blw⟩
   ·have hk3:(k == 3)=false:=by simp[hk]
    clear hk
    go_wp2_with ((refine(cH _ _).mono ?_);(rintro e w4 ⟨rfl,rfl⟩))
    go_ret
    exact⟨by simp,blw⟩
  ·cases i
   all_goals
    go_wp2_with ((refine(cH _ _).mono ?_);(rintro e w4 ⟨rfl,rfl⟩))
    go_ret
    exact⟨by simp,blw⟩
 ·go_wp2_with fail
  refine(hT _).mono ?_
  rintro e w3 ⟨rfl,hb⟩
  have hb3:=aa hb2 hb
  clear hb2 hb hc2 hf2
  go_wp2_with ((refine(cH _ _).mono ?_);(rintro e w4 ⟨rfl,rfl⟩))
  go_ret
  exact⟨by simp,blw⟩
def gP (d e:List UInt8):Bool:=decide ((d.length:Int)<e.length) || ((d.length:Int) == e.length && Op.bytesLess d e)
theorem q9 (t:Tm):(ef t != 3)=bL t:=by
 unfold ef
 cases bL t<;>cases eQ t<;>rfl
theorem ym (d e:List UInt8):(jm d e == 0)=(d == e):=by
 rw[Bool.eq_iff_iff,beq_iff_eq,beq_iff_eq]
 unfold jm
 split
 ·exact dZ d e
 ·rename_i h
  constructor
  ·intro hc;exact(h hc).elim
  ·intro hde;subst hde;simp[Lib.compareInt]at h
theorem nM (d e:List UInt8):decide (jm d e<0)=gP d e:=by
 unfold jm gP
 rw[bytesLess_eq]
 by_cases h1:(d.length:Int)<e.length
 ·have:Lib.compareInt d.length e.length = -1:=by unfold Lib.compareInt;rw[if_pos h1]
  simp[this,h1]
 ·by_cases h2:(d.length:Int) > e.length
  ·have:Lib.compareInt d.length e.length=1:=by unfold Lib.compareInt;rw[if_neg h1,if_pos h2]
   have h3:¬ (d.length:Int)=e.length:=by omega
   rw[this]
   have h4:((d.length:Int) == e.length)=false:=by simpa using h3
   simp[h4,h1]
  ·have h3:(d.length:Int)=e.length:=by omega
   have:Lib.compareInt d.length e.length=0:=by unfold Lib.compareInt;rw[if_neg h1,if_neg h2]
   have h4:((d.length:Int) == e.length)=true:=by simpa using h3
   have h5:decide ((d.length:Int)<e.length)=false:=by simpa using h1
   rw[this,h4,h5,if_pos rfl,Bool.false_or,Bool.true_and]
   rw[decide_eq_decide]
   exact qY d e
theorem xb (a b:Tm):ie a b=if bU a && bU b then bG (df a == df b && bz a == bz b) else if (ef a != 3) && (ef b != 3) then bG (ef a == ef b)
  else if bm a b then 1 else if !je a || !je b then 2 else if bf a && bf b then 2 else 3:=by
 rw[q9,q9]
 unfold ie sr
 cases hn:(bU a && bU b)
 ·cases hb:(bL a && bL b)
  ·simp only[Bool.false_or,Bool.false_eq_true,if_false]
   cases hp:(bf a && bf b)
   ·simp
   ·simp only[if_true]
    rw[Bool.and_eq_true]at hp
    obtain⟨p1,p2⟩:=hp
    rw[mY p1]
    have h1:(bp a.x.toList b.x.toList == 0)=(a.x.toList == b.x.toList):=by
     rw[Bool.eq_iff_iff,beq_iff_eq,beq_iff_eq];exact dZ _ _
    have h2:bm a b=(a.x.toList == b.x.toList):=by
     unfold bf at p1 p2
     simp only[Bool.and_eq_true,beq_iff_eq,List.isEmpty_iff]at p1 p2
     unfold bm
     rw[p1.1.1,p2.1.1,p1.1.2,p2.1.2,p1.2,p2.2]
     simp
    rw[h1,h2]
    cases (a.x.toList == b.x.toList)
    ·simp[bG]
    ·simp[bG]
  ·simp only[Bool.false_or,Bool.true_or,if_true,Bool.false_eq_true,if_false]
   rw[Bool.and_eq_true]at hb
   rw[pz hb.1 hb.2]
   unfold ef
   rw[hb.1,hb.2]
   cases eQ a<;>cases eQ b<;>rfl
 ·simp only[Bool.true_or,if_true]
  rw[Bool.and_eq_true]at hn
  rw[sn hn.1 hn.2,←ym]
  cases df a<;>cases df b
  ·simp
  ·simp[wt,bG]
  ·simp[wt,bG]
  ·have:(-jm (bz a) (bz b) == 0)=(jm (bz a) (bz b) == 0):=by rw[Bool.eq_iff_iff,beq_iff_eq,beq_iff_eq];omega
   simp[this]
theorem xL (a b:Tm):em a b=if bU a && bU b && (df a != df b) then bG (df a) else if bU a && bU b && df a then bG (gP (bz b) (bz a)) else if bU a && bU b then bG (gP (bz a) (bz b))
  else if (ef a != 3) && (ef b != 3) then bG (ef a == 2 && ef b == 1) else if bf a && bf b then bG (Op.bytesLess a.x.toList b.x.toList) else 3:=by
 rw[q9,q9,←nM,←nM]
 unfold em sr
 cases hn:(bU a && bU b)
 ·cases hb:(bL a && bL b)
  ·simp only[Bool.false_or,Bool.false_and,Bool.false_eq_true,if_false]
   cases hp:(bf a && bf b)
   ·simp
   ·simp only[if_true]
    rw[Bool.and_eq_true]at hp
    rw[mY hp.1,bytesLess_eq]
    congr 1
    rw[decide_eq_decide]
    exact qY _ _
  ·simp only[Bool.false_or,Bool.true_or,if_true,Bool.false_and,Bool.false_eq_true,if_false]
   rw[Bool.and_eq_true]at hb
   rw[pz hb.1 hb.2]
   unfold ef
   rw[hb.1,hb.2]
   cases eQ a<;>cases eQ b<;>rfl
 ·simp only[Bool.true_or,if_true,Bool.true_and]
  rw[Bool.and_eq_true]at hn
  rw[sn hn.1 hn.2]
  have:=Bl (bz a) (bz b)
  cases df a<;>cases df b
  ·simp
  ·simp[wt,bG]
  ·simp[wt,bG]
  ·simp only[bne_self_eq_false,Bool.false_eq_true,if_false,if_true]
   rw[this]
theorem ud (d e:ByteArray) (w:World) :
  Calls Tryz.prog 194 #[.string d,.string e] w λe' w'=>e'=.returned (.bool (gP d.toList e.toList))/\w=w':=by
 have h1:(d.toList.length:Int)=d.size:=by rw[ByteArray.toList_eq,ac]
 have h2:(e.toList.length:Int)=e.size:=by rw[ByteArray.toList_eq,ac]
 unfold gP
 rw[h1,h2]
 clear h1 h2
 go_enter Tryz.func194,Tryz.ntmps194
 go_wp2
 all_goals
  go_ret
  exact⟨by simp_all<;>(intro;omega),rfl⟩
theorem Cd (k1:Int) (x1 l1 y1:ByteArray) (k2:Int) (x2 l2 y2:ByteArray) (w:World) (hs1:x1.size<=281474976710656) (hs2:x2.size<=281474976710656) :
  Calls Tryz.prog 165 #[.agg #[.int .i64 k1,.string x1,.string l1,.string y1],.agg #[.int .i64 k2,.string x2,.string l2,.string y2]] w λe w' =>
   e=.returned (.int .i64 (ie ⟨k1,x1,l1,y1⟩ ⟨k2,x2,l2,y2⟩))/\Below w.heap.size w w':=by
 have hN1:=λW=>ff k1 x1 l1 y1 W hs1
 have hN2:=λW=>ff k2 x2 l2 y2 W hs2
 have hT1:=λW=>gj k1 x1 l1 y1 W
 have hT2:=λW=>gj k2 x2 l2 y2 W
 obtain⟨D1,hD1⟩:∃D:ByteArray,(⟨(bz ⟨k1,x1,l1,y1⟩).toArray⟩:ByteArray)=D:=⟨_,rfl⟩
 obtain⟨D2,hD2⟩:∃D:ByteArray,(⟨(bz ⟨k2,x2,l2,y2⟩).toArray⟩:ByteArray)=D:=⟨_,rfl⟩
 simp only[eJ,hD1]at hN1
 simp only[eJ,hD2]at hN2
 have hl1:D1.toList=bz ⟨k1,x1,l1,y1⟩:=by rw[←hD1,toList_mk]
 have hl2:D2.toList=bz ⟨k2,x2,l2,y2⟩:=by rw[←hD2,toList_mk]
 have hv:=xb ⟨k1,x1,l1,y1⟩ ⟨k2,x2,l2,y2⟩
 rw[←hl1,←hl2]at hv
 generalize ie ⟨k1,x1,l1,y1⟩ ⟨k2,x2,l2,y2⟩=v at hv ⊢
 clear hl1 hl2 hD1 hD2 hs1 hs2
 generalize df ⟨k1,x1,l1,y1⟩=m1 at *
 generalize df ⟨k2,x2,l2,y2⟩=m2 at *
 generalize bU ⟨k1,x1,l1,y1⟩=i1 at *
 generalize bU ⟨k2,x2,l2,y2⟩=i2 at *
 generalize ef ⟨k1,x1,l1,y1⟩=t1 at *
 generalize ef ⟨k2,x2,l2,y2⟩=t2 at *
 have Hv:=Lib.hid hv
 clear hv
 go_enter Tryz.func165,Tryz.ntmps165
 go_wp2_with fail
 refine(hN1 _).mono ?_
 rintro e w1 ⟨rfl,hb1⟩
 obtain⟨hc1,hf1⟩:=aC hb1
 go_wp2_with fail
 refine(hN2 _).mono ?_
 rintro e w2 ⟨rfl,hb2⟩
 have hb:=aa hb1 hb2
 clear hc1 hf1 hb1 hb2
 obtain⟨hc,hf⟩:=aC hb
 cases hi:(i1 && i2)
 ·cases i1<;>cases i2<;>try (cases hi;done)
  all_goals
   clear hi
   by_cases ht:t1=3
   ·have q1:(t1 != 3)=false:=by simp[ht]
    clear ht
    go_wp2_with fail
    refine(hT1 _).mono ?_
    rintro e w3 ⟨rfl,hbn⟩
    have hb9:=aa hb hbn
    clear hb hbn hc hf
    have hb:=hb9
    clear hb9
    obtain⟨hc,hf⟩:=aC hb
    go_wp2_with (first|(go_at_call 133;refine(iv _ _ _ _ _).mono ?_;rintro e w5 ⟨rfl,hbn⟩;have hb9:=aa hb hbn;clear hb hbn hc hf;have hb:=hb9;clear hb9;obtain⟨hc,hf⟩:=aC hb)|(go_at_call 193;refine(iV _ _ _ _ _).mono ?_;rintro e w5 ⟨rfl,hbn⟩;have hb9:=aa hb hbn;clear hb hbn hc hf;have hb:=hb9;clear hb9;obtain⟨hc,hf⟩:=aC hb))
    all_goals
     go_ret
     refine⟨?_,blw⟩
     rw[Hv.out]
     simp_all[bm,je,bf]<;>(repeat' split)<;>first|rfl|omega|(simp_all;done)|(simp_all;omega)
   ·have q1:(t1 != 3)=true:=by simp[ht]
    clear ht
    by_cases ht:t2=3
    ·have q2:(t2 != 3)=false:=by simp[ht]
     clear ht
     go_wp2_with fail
     refine(hT1 _).mono ?_
     rintro e w3 ⟨rfl,hbn⟩
     have hb9:=aa hb hbn
     clear hb hbn hc hf
     have hb:=hb9
     clear hb9
     obtain⟨hc,hf⟩:=aC hb
     go_wp2_with fail
     refine(hT2 _).mono ?_
     rintro e w3 ⟨rfl,hbn⟩
     have hb9:=aa hb hbn
     clear hb hbn hc hf
     have hb:=hb9
     clear hb9
     obtain⟨hc,hf⟩:=aC hb
     go_wp2_with (first|(go_at_call 133;refine(iv _ _ _ _ _).mono ?_;rintro e w5 ⟨rfl,hbn⟩;have hb9:=aa hb hbn;clear hb hbn hc hf;have hb:=hb9;clear hb9;obtain⟨hc,hf⟩:=aC hb)|(go_at_call 193;refine(iV _ _ _ _ _).mono ?_;rintro e w5 ⟨rfl,hbn⟩;have hb9:=aa hb hbn;clear hb hbn hc hf;have hb:=hb9;clear hb9;obtain⟨hc,hf⟩:=aC hb))
     all_goals
      go_ret
      refine⟨?_,blw⟩
      rw[Hv.out]
      simp_all[bm,je,bf]<;>(repeat' split)<;>first|rfl|omega|(simp_all;done)|(simp_all;omega)
    ·have q2:(t2 != 3)=true:=by simp[ht]
     clear ht
     go_wp2_with fail
     refine(hT1 _).mono ?_
     rintro e w3 ⟨rfl,hbn⟩
     have hb9:=aa hb hbn
     clear hb hbn hc hf
     have hb:=hb9
     clear hb9
     obtain⟨hc,hf⟩:=aC hb
     go_wp2_with fail
     refine(hT2 _).mono ?_
     rintro e w3 ⟨rfl,hbn⟩
     have hb9:=aa hb hbn
     clear hb hbn hc hf
     have hb:=hb9
     clear hb9
     obtain⟨hc,hf⟩:=aC hb
     have g01:=λd os=>aE hb 0 _ rfl d os
     have g02:=λd os=>aE hb 1 _ rfl d os
     have g03:=λd os=>aE hb 2 _ rfl d os
     have g04:=λd os=>aE hb 3 _ rfl d os
     have g11:=λd os=>aD hb 0 _ rfl d os
     have g12:=λd os=>aD hb 1 _ rfl d os
     have g13:=λd os=>aD hb 2 _ rfl d os
     have g14:=λd os=>aD hb 3 _ rfl d os
     go_wp2
     refine wrq ?_;(repeat (any_goals (go_big_quiet_step ((first|(go_at_call 164;with_reducible exact Calls.regrown_of (hT1 _))|(go_at_call 164;with_reducible exact Calls.regrown_of (hT2 _))|(go_at_call 132;with_reducible exact Calls.quiet_tr (cH _ _)))))));all_goals (refine wqn ?_;intro d9 os9)
     go_wp2
     go_ret
     exact⟨by rw[Hv.out];simp[*],blw⟩
 ·rw[Bool.and_eq_true]at hi
  obtain⟨rfl,rfl⟩:=hi
  cases m1<;>cases m2
  all_goals
   go_wp2_with ((refine(cH _ _).mono ?_);(rintro e w4 ⟨rfl,rfl⟩))
   go_ret
   exact⟨by rw[Hv.out];simp[*],blw⟩
theorem vG (k1:Int) (x1 l1 y1:ByteArray) (k2:Int) (x2 l2 y2:ByteArray) (w:World) (hs1:x1.size<=281474976710656) (hs2:x2.size<=281474976710656) :
  Calls Tryz.prog 166 #[.agg #[.int .i64 k1,.string x1,.string l1,.string y1],.agg #[.int .i64 k2,.string x2,.string l2,.string y2]] w λe w' =>
   e=.returned (.int .i64 (em ⟨k1,x1,l1,y1⟩ ⟨k2,x2,l2,y2⟩))/\Below w.heap.size w w':=by
 have hN1:=λW=>ff k1 x1 l1 y1 W hs1
 have hN2:=λW=>ff k2 x2 l2 y2 W hs2
 have hT1:=λW=>gj k1 x1 l1 y1 W
 have hT2:=λW=>gj k2 x2 l2 y2 W
 have hP1:=λW=>iV k1 x1 l1 y1 W
 have hP2:=λW=>iV k2 x2 l2 y2 W
 obtain⟨D1,hD1⟩:∃D:ByteArray,(⟨(bz ⟨k1,x1,l1,y1⟩).toArray⟩:ByteArray)=D:=⟨_,rfl⟩
 obtain⟨D2,hD2⟩:∃D:ByteArray,(⟨(bz ⟨k2,x2,l2,y2⟩).toArray⟩:ByteArray)=D:=⟨_,rfl⟩
 simp only[eJ,hD1]at hN1
 simp only[eJ,hD2]at hN2
 have hl1:D1.toList=bz ⟨k1,x1,l1,y1⟩:=by rw[←hD1,toList_mk]
 have hl2:D2.toList=bz ⟨k2,x2,l2,y2⟩:=by rw[←hD2,toList_mk]
 have hv:=xL ⟨k1,x1,l1,y1⟩ ⟨k2,x2,l2,y2⟩
 rw[←hl1,←hl2]at hv
 simp only at hv
 generalize em ⟨k1,x1,l1,y1⟩ ⟨k2,x2,l2,y2⟩=v at hv ⊢
 clear hl1 hl2 hD1 hD2 hs1 hs2
 generalize df ⟨k1,x1,l1,y1⟩=m1 at *
 generalize df ⟨k2,x2,l2,y2⟩=m2 at *
 generalize bU ⟨k1,x1,l1,y1⟩=i1 at *
 generalize bU ⟨k2,x2,l2,y2⟩=i2 at *
 generalize ef ⟨k1,x1,l1,y1⟩=t1 at *
 generalize ef ⟨k2,x2,l2,y2⟩=t2 at *
 generalize bf ⟨k1,x1,l1,y1⟩=p1 at *
 generalize bf ⟨k2,x2,l2,y2⟩=p2 at *
 have Hv:=Lib.hid hv
 clear hv
 go_enter Tryz.func166,Tryz.ntmps166
 go_wp2_with fail
 refine(hN1 _).mono ?_
 rintro e w1 ⟨rfl,hb1⟩
 obtain⟨hc1,hf1⟩:=aC hb1
 go_wp2_with fail
 refine(hN2 _).mono ?_
 rintro e w2 ⟨rfl,hb2⟩
 have hb:=aa hb1 hb2
 clear hc1 hf1 hb1 hb2
 obtain⟨hc,hf⟩:=aC hb
 cases hi:(i1 && i2)
 ·cases i1<;>cases i2<;>try (cases hi;done)
  all_goals
   clear hi
   by_cases ht:t1=3
   ·have q1:(t1 != 3)=false:=by simp[ht]
    clear ht
    go_wp2_with fail
    refine(hT1 _).mono ?_
    rintro e w3 ⟨rfl,hbn⟩
    have hb9:=aa hb hbn
    clear hb hbn hc hf
    have hb:=hb9
    clear hb9
    obtain⟨hc,hf⟩:=aC hb
    cases p1
    ·go_wp2_with fail
     refine(hP1 _).mono ?_
     rintro e w3 ⟨rfl,hbn⟩
     have hb9:=aa hb hbn
     clear hb hbn hc hf
     have hb:=hb9
     clear hb9
     obtain⟨hc,hf⟩:=aC hb
     go_wp2
     go_ret
     exact⟨by rw[Hv.out];simp[*],blw⟩
    ·go_wp2_with fail
     refine(hP1 _).mono ?_
     rintro e w3 ⟨rfl,hbn⟩
     have hb9:=aa hb hbn
     clear hb hbn hc hf
     have hb:=hb9
     clear hb9
     obtain⟨hc,hf⟩:=aC hb
     cases p2
     ·go_wp2_with fail
      refine(hP2 _).mono ?_
      rintro e w3 ⟨rfl,hbn⟩
      have hb9:=aa hb hbn
      clear hb hbn hc hf
      have hb:=hb9
      clear hb9
      obtain⟨hc,hf⟩:=aC hb
      go_wp2
      go_ret
      exact⟨by rw[Hv.out];simp[*],blw⟩
     ·go_wp2_with fail
      refine(hP2 _).mono ?_
      rintro e w3 ⟨rfl,hbn⟩
      have hb9:=aa hb hbn
      clear hb hbn hc hf
      have hb:=hb9
      clear hb9
      obtain⟨hc,hf⟩:=aC hb
      go_wp2_with ((refine(cH _ _).mono ?_);(rintro e w4 ⟨rfl,rfl⟩))
      go_ret
      exact⟨by rw[Hv.out];simp[*],blw⟩
   ·have q1:(t1 != 3)=true:=by simp[ht]
    clear ht
    by_cases ht:t2=3
    ·have q2:(t2 != 3)=false:=by simp[ht]
     clear ht
     go_wp2_with fail
     refine(hT1 _).mono ?_
     rintro e w3 ⟨rfl,hbn⟩
     have hb9:=aa hb hbn
     clear hb hbn hc hf
     have hb:=hb9
     clear hb9
     obtain⟨hc,hf⟩:=aC hb
     go_wp2_with fail
     refine(hT2 _).mono ?_
     rintro e w3 ⟨rfl,hbn⟩
     have hb9:=aa hb hbn
     clear hb hbn hc hf
     have hb:=hb9
     clear hb9
     obtain⟨hc,hf⟩:=aC hb
     cases p1
     ·go_wp2_with fail
      refine(hP1 _).mono ?_
      rintro e w3 ⟨rfl,hbn⟩
      have hb9:=aa hb hbn
      clear hb hbn hc hf
      have hb:=hb9
      clear hb9
      obtain⟨hc,hf⟩:=aC hb
      go_wp2
      go_ret
      exact⟨by rw[Hv.out];simp[*],blw⟩
     ·go_wp2_with fail
      refine(hP1 _).mono ?_
      rintro e w3 ⟨rfl,hbn⟩
      have hb9:=aa hb hbn
      clear hb hbn hc hf
      have hb:=hb9
      clear hb9
      obtain⟨hc,hf⟩:=aC hb
      cases p2
      ·go_wp2_with fail
       refine(hP2 _).mono ?_
       rintro e w3 ⟨rfl,hbn⟩
       have hb9:=aa hb hbn
       clear hb hbn hc hf
       have hb:=hb9
       clear hb9
       obtain⟨hc,hf⟩:=aC hb
       go_wp2
       go_ret
       exact⟨by rw[Hv.out];simp[*],blw⟩
      ·go_wp2_with fail
       refine(hP2 _).mono ?_
       rintro e w3 ⟨rfl,hbn⟩
       have hb9:=aa hb hbn
       clear hb hbn hc hf
       have hb:=hb9
       clear hb9
       obtain⟨hc,hf⟩:=aC hb
       go_wp2_with ((refine(cH _ _).mono ?_);(rintro e w4 ⟨rfl,rfl⟩))
       go_ret
       exact⟨by rw[Hv.out];simp[*],blw⟩
    ·have q2:(t2 != 3)=true:=by simp[ht]
     clear ht
     go_wp2_with fail
     refine(hT1 _).mono ?_
     rintro e w3 ⟨rfl,hbn⟩
     have hb9:=aa hb hbn
     clear hb hbn hc hf
     have hb:=hb9
     clear hb9
     obtain⟨hc,hf⟩:=aC hb
     go_wp2_with fail
     refine(hT2 _).mono ?_
     rintro e w3 ⟨rfl,hbn⟩
     have hb9:=aa hb hbn
     clear hb hbn hc hf
     have hb:=hb9
     clear hb9
     obtain⟨hc,hf⟩:=aC hb
     go_wp2_with fail
     refine(hT1 _).mono ?_
     rintro e w3 ⟨rfl,hbn⟩
     have hb9:=aa hb hbn
     clear hb hbn hc hf
     have hb:=hb9
     clear hb9
     obtain⟨hc,hf⟩:=aC hb
     by_cases h2:t1=2
     ·have q3:(t1 == 2)=true:=by simp[h2]
      clear h2
      go_wp2_with fail
      refine(hT2 _).mono ?_
      rintro e w3 ⟨rfl,hbn⟩
      have hb9:=aa hb hbn
      clear hb hbn hc hf
      have hb:=hb9
      clear hb9
      obtain⟨hc,hf⟩:=aC hb
      go_wp2_with ((refine(cH _ _).mono ?_);(rintro e w4 ⟨rfl,rfl⟩))
      go_ret
      exact⟨by rw[Hv.out];simp[*],blw⟩
     ·have q3:(t1 == 2)=false:=by simp[h2]
      clear h2
      go_wp2_with ((refine(cH _ _).mono ?_);(rintro e w4 ⟨rfl,rfl⟩))
      go_ret
      exact⟨by rw[Hv.out];simp[*],blw⟩
 ·rw[Bool.and_eq_true]at hi
  obtain⟨rfl,rfl⟩:=hi
  cases m1<;>cases m2
  all_goals
   go_wp2_with (first|(go_at_call 194;refine(ud _ _ _).mono ?_;rintro e w4 ⟨rfl,rfl⟩)|(go_at_call 132;refine(cH _ _).mono ?_;rintro e w4 ⟨rfl,rfl⟩))
   go_ret
   exact⟨by rw[Hv.out];simp[*],blw⟩
def Cl (first:Int) (b:Bool):Int:=if b then 3 else first
def uW (l:List Int) (wr:Bool):Int:=if ia l 2 then 2 else if wr || j5 l 2 then 3 else 1
def orF (l:List Int) (wr:Bool):Int:=if ia l 1 then 1 else if wr || j5 l 1 then 3 else 2
theorem yx (x:Int) (l:List Int) (wr:Bool):uW (x::l) wr=if x == 2 then 2 else uW l (wr || x != 1):=by
 unfold uW ia j5
 rw[List.contains_cons,List.any_cons,show el 2=1 from rfl]
 rw[show ((2:Int) == x)=(x == 2) from BEq.comm]
 cases (x == 2)
 ·simp only[Bool.false_or,Bool.or_assoc];rfl
 ·rfl
theorem zV (x:Int) (l:List Int) (wr:Bool):orF (x::l) wr=if x == 1 then 1 else orF l (wr || x != 2):=by
 unfold orF ia j5
 rw[List.contains_cons,List.any_cons,show el 1=2 from rfl]
 rw[show ((1:Int) == x)=(x == 1) from BEq.comm]
 cases (x == 1)
 ·simp only[Bool.false_or,Bool.or_assoc];rfl
 ·rfl
theorem DV (l:List Int) (A:Option Addr) (c:Nat) (w:World) (hl:l.length<=1000000000) (hr:Rd w A (l.map (Value.int .i64))) :
  Calls Tryz.prog 129 #[.slice A l.length c] w λe w'=>e=.returned (.int .i64 (nT l))/\Below w.heap.size w w':=by
 have hres:uW l false=nT l:=by unfold uW nT eO;simp[el]
 generalize nT l=r at hres ⊢
 have Hres:=Lib.hid hres
 clear hres
 go_enter Tryz.func129,Tryz.ntmps129
 go_wp2
 go_loop [3,4] (λo i=>∃(k:Nat) (b:Bool),k<=l.length/\i=.int .i64 k/\o=.int .i64 (Cl 1 b)/\Hid (uW (l.drop k) b=r)) (λ_ i=>l.length-(intOf i).toNat)
 case atStart=>exact⟨0,false,by omega,rfl,rfl,Hres⟩
 case round =>
  obtain⟨k,b,hk,rfl,rfl,H⟩:=hrel
  by_cases hlt:k<l.length
  ·obtain⟨x,hx⟩:∃x,l[k]?=some x:=⟨_,List.getElem?_eq_getElem hlt⟩
   obtain⟨g,o,rfl,hcx⟩:=hr.at_ (j:=k) (u:=.int .i64 x) (by simp[hx])
   have hd:l.drop k=x::l.drop (k+1):=by
    rw[List.drop_eq_getElem_cons hlt]
    rw[List.getElem?_eq_getElem hlt]at hx
    injection hx with hx;rw[hx]
   have H2:Hid ((if x == 2 then 2 else uW (l.drop (k+1)) (b || x != 1))=r):=by
    show _=_
    rw[←H.out,hd,yx]
   clear hx hd H hr
   cases hx0:(x == 2)
   ·rw[hx0]at H2
    cases hx1:(x != 1)
    ·rw[hx1,Bool.or_false]at H2
     go_wp2
     go_round
     case rel=>exact⟨k+1,b,by omega,by go_num,rfl,H2⟩
     case measure=>simp[intOf];omega
    ·rw[hx1,Bool.or_true]at H2
     go_wp2
     go_round
     case rel=>exact⟨k+1,true,by omega,by go_num,rfl,H2⟩
     case measure=>simp[intOf];omega
   ·rw[hx0]at H2
    go_wp2
    go_ret
    exact⟨by rw[←H2.out];rfl,Below.refl _ _⟩
  ·have H2:Hid (Cl 1 b=r):=by
    show _=_
    rw[←H.out,List.drop_eq_nil_of_le (by omega)]
    cases b<;>rfl
   clear H
   go_wp2
   go_ret
   exact⟨by rw[←H2.out];rfl,Below.refl _ _⟩
theorem ET (l:List Int) (A:Option Addr) (c:Nat) (w:World) (hl:l.length<=1000000000) (hr:Rd w A (l.map (Value.int .i64))) :
  Calls Tryz.prog 130 #[.slice A l.length c] w λe w'=>e=.returned (.int .i64 (orI l))/\Below w.heap.size w w':=by
 have hres:orF l false=orI l:=by unfold orF orI eO;simp[el]
 generalize orI l=r at hres ⊢
 have Hres:=Lib.hid hres
 clear hres
 go_enter Tryz.func130,Tryz.ntmps130
 go_wp2
 go_loop [3,4] (λo i=>∃(k:Nat) (b:Bool),k<=l.length/\i=.int .i64 k/\o=.int .i64 (Cl 2 b)/\Hid (orF (l.drop k) b=r)) (λ_ i=>l.length-(intOf i).toNat)
 case atStart=>exact⟨0,false,by omega,rfl,rfl,Hres⟩
 case round =>
  obtain⟨k,b,hk,rfl,rfl,H⟩:=hrel
  by_cases hlt:k<l.length
  ·obtain⟨x,hx⟩:∃x,l[k]?=some x:=⟨_,List.getElem?_eq_getElem hlt⟩
   obtain⟨g,o,rfl,hcx⟩:=hr.at_ (j:=k) (u:=.int .i64 x) (by simp[hx])
   have hd:l.drop k=x::l.drop (k+1):=by
    rw[List.drop_eq_getElem_cons hlt]
    rw[List.getElem?_eq_getElem hlt]at hx
    injection hx with hx;rw[hx]
   have H2:Hid ((if x == 1 then 1 else orF (l.drop (k+1)) (b || x != 2))=r):=by
    show _=_
    rw[←H.out,hd,zV]
   clear hx hd H hr
   cases hx0:(x == 1)
   ·rw[hx0]at H2
    cases hx1:(x != 2)
    ·rw[hx1,Bool.or_false]at H2
     go_wp2
     go_round
     case rel=>exact⟨k+1,b,by omega,by go_num,rfl,H2⟩
     case measure=>simp[intOf];omega
    ·rw[hx1,Bool.or_true]at H2
     go_wp2
     go_round
     case rel=>exact⟨k+1,true,by omega,by go_num,rfl,H2⟩
     case measure=>simp[intOf];omega
   ·rw[hx0]at H2
    go_wp2
    go_ret
    exact⟨by rw[←H2.out];rfl,Below.refl _ _⟩
  ·have H2:Hid (Cl 2 b=r):=by
    show _=_
    rw[←H.out,List.drop_eq_nil_of_le (by omega)]
    cases b<;>rfl
   clear H
   go_wp2
   go_ret
   exact⟨by rw[←H2.out];rfl,Below.refl _ _⟩
theorem below_drewN {B:Nat} {a w:World} (h:Below B a w) (n:Nat):Below B a (w.drewN n):=⟨h.os,h.tape,h.output,h.size,h.block⟩
end Go.Proofs.YtoejnneknpoanaaGreatDoor
