/- The answer for term (ossuaryref08): valid, small, Right. Rea -/
import Derived.Test.YtjldjeenfnahoaaGreatDoorJUtfRef3
set_option maxHeartbeats 4000000
set_option maxRecDepth 100000
namespace Go.Proofs.YtjldjeenfnahoaaGreatDoor
open Go Go.RowKit Um Fm
theorem qo (s:ByteArray) (w:World) (hs:s.size<=1048576) :
  Calls Tryz.prog 142 #[.string s] w λe w'=>e=.returned (.bool (aP s))/\Below w.heap.size w w':=by
 have hS:=xD s w (by omega)
 cases hv:aP s
 ·rw[qe hv]at hS
  generalize (gH s.data.toList).2.1=j at *
  generalize (gH s.data.toList).1=l at *
  clear hv
  go_enter Tryz.func142,Tryz.ntmps142
  go_wp2_with (refine hS.mono ?_;rintro e w2 ⟨v,m,rfl,-,hb⟩)
  go_ret
  exact⟨rfl,hb⟩
 ·rw[mB hv]at hS
  generalize (gH s.data.toList).2.1=j at *
  generalize (gH s.data.toList).1=l at *
  clear hv
  go_enter Tryz.func142,Tryz.ntmps142
  go_wp2_with (refine hS.mono ?_;rintro e w2 ⟨v,m,rfl,-,hb⟩)
  go_ret
  exact⟨rfl,hb⟩
theorem uU (s:ByteArray) (k:Nat) (h:k<s.size):da (s.data.toList.drop k)=(!(decide (65<=bn s k) && decide (bn s k<=90)) && da (s.data.toList.drop (k+1))):=by
 have hl:k<s.data.toList.length:=by rw[ac];exact h
 rw[List.drop_eq_getElem_cons hl]
 unfold da
 rw[List.all_cons]
 congr 2
 unfold upB bn
 rw[List.getD_eq_getElem?_getD,List.getElem?_eq_getElem hl];rfl
theorem xL (s:ByteArray) (w:World) (hs:s.size<=1048576) :
  Calls Tryz.prog 145 #[.string s] w λe w'=>e=.returned (.bool (da s.data.toList))/\w=w':=by
 go_enter Tryz.func145,Tryz.ntmps145
 go_wp2
 go_loop [3] (λi=>∃k:Nat,k<=s.size/\i=.int .i64 k/\Hid (da s.data.toList=da (s.data.toList.drop k))) (λi=>s.size-(intOf i).toNat)
 case atStart=>exact⟨0,by omega,rfl,rfl⟩
 case round =>
  obtain⟨k,hk,rfl,H⟩:=hrel
  by_cases hlt:k<s.size
  ·have hb:=fG s k
   have H2:Hid (da s.data.toList=(!(decide (65<=bn s k) && decide (bn s k<=90)) && da (s.data.toList.drop (k+1)))):=by show _=_;rw[H.out,uU s k hlt]
   by_cases h1:65<=bn s k
   ·by_cases h2:bn s k<=90
    ·go_wp2
     go_ret
     exact⟨by rw[H2.out,decide_eq_true h1,decide_eq_true h2];rfl,rfl⟩
    ·go_wp2
     go_round
     case rel=>exact⟨k+1,by omega,by go_num,by show _=_;rw[H2.out,decide_eq_false h2,Bool.and_false,Bool.not_false,Bool.true_and]⟩
     case measure=>simp[intOf];omega
   ·go_wp2
    go_round
    case rel=>exact⟨k+1,by omega,by go_num,by show _=_;rw[H2.out,decide_eq_false h1,Bool.false_and,Bool.not_false,Bool.true_and]⟩
    case measure=>simp[intOf];omega
  ·have H2:Hid (da s.data.toList=true):=by show _=_;rw[H.out,List.drop_eq_nil_of_le (by rw[ac];omega)];rfl
   go_wp2
   go_ret
   exact⟨by rw[H2.out];rfl,rfl⟩
theorem Calls.quiet_r8 {P:Program} {f:FuncId} {args:Array Value} {w:World} {d:Nat} {os:Array Obj} {v:Value}
  (h:Calls P f args (Sort.grow (redrawn w d) os) λe w'=>e=.returned v/\Sort.grow (redrawn w d) os=w'):Calls P f args (Sort.grow (redrawn w d) os) λe w''=>e=.returned v/\∃p:Regrown,w''=Sort.grow (redrawn w p.d) p.os:=
 h.mono λ_ _ ⟨he,hb⟩=>⟨he,⟨d,os⟩,hb.symm⟩
theorem gF (a b:ByteArray):bY (a++b)=(bY a && bY b):=by
 unfold bY
 rw[Bool.eq_iff_iff]
 simp[ByteArray.toList_eq]
theorem xM (t:Tm) (w:World) (hx:t.x.size<=1048576) (hl:t.l.size<=1048576) (hy:t.y.size<=1048576) :
  Calls Tryz.prog 113 #[.agg #[.int .i64 t.k,.string t.x,.string t.l,.string t.y]] w λe w'=>e=.returned (.bool (aN t))/\Below w.heap.size w w':=by
 obtain⟨k,x,l,y⟩:=t
 simp only at hx hl hy ⊢
 have hB0:Below w.heap.size w (w.alloc (.cells #[.int .i64 k,.string x,.string l,.string y] 65)):=blw
 have r0:(w.alloc (.cells #[.int .i64 k,.string x,.string l,.string y] 65)).cell? ⟨w.heap.size,0,none⟩=some (.int .i64 k):=by rw[World.cell?,heap_alloc_new];rfl
 have r1:(w.alloc (.cells #[.int .i64 k,.string x,.string l,.string y] 65)).cell? ⟨w.heap.size,1,none⟩=some (.string x):=by rw[World.cell?,heap_alloc_new];rfl
 have r2:(w.alloc (.cells #[.int .i64 k,.string x,.string l,.string y] 65)).cell? ⟨w.heap.size,2,none⟩=some (.string l):=by rw[World.cell?,heap_alloc_new];rfl
 have r3:(w.alloc (.cells #[.int .i64 k,.string x,.string l,.string y] 65)).cell? ⟨w.heap.size,3,none⟩=some (.string y):=by rw[World.cell?,heap_alloc_new];rfl
 obtain⟨W,hW⟩:∃W:World,w.alloc (.cells #[.int .i64 k,.string x,.string l,.string y] 65)=W:=⟨_,rfl⟩
 rw[hW]at hB0 r0 r1 r2 r3
 have hVx:=λW'=>qo x W' hx
 have hVy:=λW'=>qo y W' hy
 have hLx:=λW'=>xF x W' (by omega)
 have hTl:=λW'=>Ch l W' (by omega)
 have hSl:=λW'=>xL l W' hl
 have htg:=rR l
 have hlb:jt x=(!x.toList.isEmpty && ((iS x.data.toList:Int) == x.size)):=rfl
 unfold aN
 simp only[gF]
 rw[htg,hlb]
 unfold bY zT
 clear htg hlb
 generalize aP x=v at *
 generalize aP y=v2 at *
 generalize iS x.data.toList=lb at *
 generalize tag l.data.toList=tg at *
 generalize da l.data.toList=sm at *
 have HW:=Lib.hid hW
 have HB0:=Lib.hid hB0
 clear hW hB0
 by_cases h1:k=1
 ·subst h1
  rw[if_pos rfl]
  have hV:=hVx W
  clear hVx hVy hLx hTl hSl
  cases he1:l.toList.isEmpty
  all_goals cases he2:y.toList.isEmpty
  all_goals
   cases v
   all_goals
    go_enter Tryz.func113,Tryz.ntmps113
    go_wp2_with fail
    simp only[HW.out]
    go_wp2_with fail
    refine hV.mono ?_
    rintro e w2 ⟨rfl,hb2⟩
    replace r2:=ab r2 hb2
    replace r3:=ab r3 hb2
    go_wp2
    go_ret
    exact⟨rfl,aa HB0.out hb2⟩
 rw[if_neg h1]
 by_cases h2:k=2
 ·subst h2
  rw[if_pos rfl]
  clear hVx hVy hTl hSl h1
  have R1:=λd os=>ab r1 (below_regrown W d os)
  have R2:=λd os=>ab r2 (below_regrown W d os)
  have R3:=λd os=>ab r3 (below_regrown W d os)
  cases he0:x.toList.isEmpty
  ·cases hq:((lb:Int) == x.size)
   all_goals cases he1:l.toList.isEmpty
   all_goals cases he2:y.toList.isEmpty
   all_goals
    go_enter Tryz.func113,Tryz.ntmps113
    go_wp2_with fail
    simp only[HW.out]
    go_wp2
    refine wrq ?_;(repeat (any_goals (go_big_quiet_step ((go_at_call 143;exact Calls.regrown_of (hLx _))))));all_goals (refine wqn ?_;intro d9 os9)
    go_wp2
    go_ret
    exact⟨by simp,HB0.out.trans ((below_regrown _ _ _).mono HB0.out.size)⟩
  ·go_enter Tryz.func113,Tryz.ntmps113
   go_wp2_with fail
   simp only[HW.out]
   go_wp2
   refine wrq ?_;(repeat (any_goals (go_big_quiet_step ((fail)))));all_goals (refine wqn ?_;intro d9 os9)
   go_wp2
   go_ret
   exact⟨by simp,HB0.out.trans ((below_regrown _ _ _).mono HB0.out.size)⟩
 rw[if_neg h2]
 by_cases h3:k=3
 ·subst h3
  rw[if_pos rfl]
  clear hVy hLx h1 h2
  have R1:=λd os=>ab r1 (below_regrown W d os)
  have R2:=λd os=>ab r2 (below_regrown W d os)
  have R3:=λd os=>ab r3 (below_regrown W d os)
  cases v
  ·clear hTl hSl
   go_enter Tryz.func113,Tryz.ntmps113
   go_wp2_with fail
   simp only[HW.out]
   go_wp2
   refine wrq ?_;(repeat (any_goals (go_big_quiet_step ((go_at_call 142;exact Calls.regrown_of (hVx _))))));all_goals (refine wqn ?_;intro d9 os9)
   go_wp2
   go_ret
   exact⟨by simp,HB0.out.trans ((below_regrown _ _ _).mono HB0.out.size)⟩
  ·cases hq:((tg:Int) == l.size)
   ·clear hSl
    go_enter Tryz.func113,Tryz.ntmps113
    go_wp2_with fail
    simp only[HW.out]
    go_wp2
    refine wrq ?_;(repeat (any_goals (go_big_quiet_step ((first|(go_at_call 142;with_reducible exact Calls.regrown_of (hVx _))|(go_at_call 144;with_reducible exact Calls.quiet_r8 (hTl _)))))));all_goals (refine wqn ?_;intro d9 os9)
    go_wp2
    go_ret
    exact⟨by simp,HB0.out.trans ((below_regrown _ _ _).mono HB0.out.size)⟩
   ·cases he2:y.toList.isEmpty
    all_goals cases sm
    all_goals
     go_enter Tryz.func113,Tryz.ntmps113
     go_wp2_with fail
     simp only[HW.out]
     go_wp2
     refine wrq ?_;(repeat (any_goals (go_big_quiet_step ((first|(go_at_call 142;with_reducible exact Calls.regrown_of (hVx _))|(go_at_call 144;with_reducible exact Calls.quiet_r8 (hTl _))|(go_at_call 145;with_reducible exact Calls.quiet_r8 (hSl _)))))));all_goals (refine wqn ?_;intro d9 os9)
     go_wp2
     go_ret
     exact⟨by simp,HB0.out.trans ((below_regrown _ _ _).mono HB0.out.size)⟩
 rw[if_neg h3]
 by_cases h4:k=4
 ·subst h4
  rw[if_pos rfl]
  have hV:=hVx W
  clear hVx hLx hTl hSl h1 h2 h3
  cases v
  ·clear hVy
   go_enter Tryz.func113,Tryz.ntmps113
   go_wp2_with fail
   simp only[HW.out]
   go_wp2_with (refine hV.mono ?_;rintro e w2 ⟨rfl,hb2⟩)
   go_ret
   exact⟨by simp,aa HB0.out hb2⟩
  ·cases he:l.toList.isEmpty
   ·clear hVy
    go_enter Tryz.func113,Tryz.ntmps113
    go_wp2_with fail
    simp only[HW.out]
    go_wp2_with fail
    refine hV.mono ?_
    rintro e w2 ⟨rfl,hb2⟩
    replace r2:=ab r2 hb2
    replace r3:=ab r3 hb2
    go_wp2
    go_ret
    exact⟨by simp,aa HB0.out hb2⟩
   ·cases hq:(y.toList == [104,116,116,112,58,47,47,119,119,119,46,119,51,46,111,114,103,47,50,48,48,49,47,88,77,76,83,99,104,101,109,97,35,115,116,114,105,110,103])
    all_goals
     have hqn:(y.toList != [104,116,116,112,58,47,47,119,119,119,46,119,51,46,111,114,103,47,50,48,48,49,47,88,77,76,83,99,104,101,109,97,35,115,116,114,105,110,103]) = !(y.toList == [104,116,116,112,58,47,47,119,119,119,46,119,51,46,111,114,103,47,50,48,48,49,47,88,77,76,83,99,104,101,109,97,35,115,116,114,105,110,103]):=rfl
     rw[hq]at hqn
     go_enter Tryz.func113,Tryz.ntmps113
     go_wp2_with fail
     simp only[HW.out]
     go_wp2_with fail
     refine hV.mono ?_
     rintro e w2 ⟨rfl,hb2⟩
     replace r2:=ab r2 hb2
     replace r3:=ab r3 hb2
     have hT:=hVy w2
     clear hVy hV
     cases v2
     all_goals
      go_wp2_with fail
      refine hT.mono ?_
      rintro e w3 ⟨rfl,hb3⟩
      replace r3:=ab r3 hb3
      go_wp2
      go_ret
      exact⟨by simp,aa (aa HB0.out hb2) hb3⟩
 ·rw[if_neg h4]
  clear hVx hVy hLx hTl hSl
  go_enter Tryz.func113,Tryz.ntmps113
  go_wp2_with fail
  simp only[HW.out]
  go_wp2
  go_ret
  exact⟨rfl,HB0.out⟩
theorem uo:∀k,k<9->((bn badS k:Nat):Int)=il.getD k 0:=by decide
theorem zG:∀k,k<9->eV (il.getD k 0)=false:=by decide
theorem Ci (n:Int) (w:World) :
  Calls Tryz.prog 181 #[.int .i64 n] w λe w'=>e=.returned (.bool (eV n))/\w=w':=by
 have his:=λW=>qj n W
 go_enter Tryz.func181,Tryz.ntmps181
 go_wp2
 obtain⟨S,hS⟩:∃S,S=badS:=⟨_,rfl⟩
 have HS:=Lib.hid hS
 change Code.wp _ _ _ ⟨#[_,_,_,.string badS,_,_,_,_,_,_,_,_,_,_,_,_,_,_,_,_,_,_,_],_⟩ _
 rw[←hS]
 clear hS
 have hsz:S.size=9:=by rw[HS.out];rfl
 have hs1:S.size<=9:=by omega
 have hs2:9<=S.size:=by omega
 clear hsz
 go_loop [4] (λi=>∃k:Nat,k<=9/\i=.int .i64 k/\Hid (∀j,j<k->n≠bn S j)) (λi=>9-(intOf i).toNat)
 case atStart=>exact⟨0,by omega,rfl,λj h=>by omega⟩
 case round =>
  obtain⟨k,hk,rfl,H⟩:=hrel
  by_cases hlt:k<9
  ·by_cases he:n=bn S k
   ·have hb:eV n=false:=by
     have e2:=he
     rw[HS.out,uo k hlt]at e2
     rw[e2];exact zG k hlt
    have Hb:=Lib.hid hb
    have he1:(n == (bn S k:Int))=true:=by simpa using he
    clear hb he
    go_wp2
    go_ret
    exact⟨by rw[Hb.out];rfl,rfl⟩
   ·have he2:(n == (bn S k:Int))=false:=by simpa using he
    go_wp2
    go_round
    case rel =>
     exact⟨k+1,by omega,by go_num,λj hj=>by
      rcases Nat.lt_or_ge j k with h|h
      ·exact H.out j h
      ·have:j=k:=by omega
       subst this;exact he⟩
    case measure=>simp[intOf];omega
  ·have hk9:9<=k:=by omega
   have hn:il.contains n=false:=by
    have h9:∀j,j<9->n≠il.getD j 0:=λj hj=>by
     have:=H.out j (by omega)
     rwa [HS.out,uo j hj]at this
    have h0:=h9 0 (by omega);have h1:=h9 1 (by omega);have h2:=h9 2 (by omega)
    have h3:=h9 3 (by omega);have h4:=h9 4 (by omega);have h5:=h9 5 (by omega)
    have h6:=h9 6 (by omega);have h7:=h9 7 (by omega);have h8:=h9 8 (by omega)
    simp only[il,List.getD_cons_zero,List.getD_cons_succ]at h0 h1 h2 h3 h4 h5 h6 h7 h8
    simp[il,h0,h1,h2,h3,h4,h5,h6,h7,h8]
   have hr:eV n=(isB n && decide (32<n)):=by unfold eV;rw[hn];simp
   have Hr:=Lib.hid hr
   clear hr hn H
   generalize isB n=b at his Hr
   cases b
   ·go_wp2_with (go_at_call 212;refine(his _).mono ?_;rintro e w1 ⟨rfl,rfl⟩)
    go_ret
    exact⟨by rw[Hr.out];rfl,rfl⟩
   ·go_wp2_with (go_at_call 212;refine(his _).mono ?_;rintro e w1 ⟨rfl,rfl⟩)
    go_ret
    exact⟨by rw[Hr.out];simp,rfl⟩
open Lx Tx
theorem eo:(Tryz.prog.info? 5).map (λi=>(i.zero,i.size,i.bytes))=some (some (.int .u8 0),1,1):=by kernel_rfl
abbrev eO (w wr:World) (v:Value) (acc:List UInt8):Prop:=wr.ownsRow w.heap.size 5 1 v acc.length (Lib.byteCells acc)
theorem eO.snoc {w wr:World} {v:Value} {acc r:List UInt8} {n:Nat} (h:wr.ownsRow w.heap.size 5 1 v n (Lib.byteCells acc++Lib.byteCells r)) (hn:n=acc.length+r.length):eO w wr v (acc++r):=by
 unfold eO
 rw[Lib.byteCells_append,List.length_append,←hn];exact h
theorem eO.form {w wr:World} {v:Value} {acc:List UInt8} (h:eO w wr v acc):∃A c,v=.slice A acc.length c:=cU h
theorem eO.nums {w wr:World} {v:Value} {acc:List UInt8} (h:eO w wr v acc) {A:Option Addr} {c:Nat} (hv:v=.slice A acc.length c):Rd wr A ((acc.map λx=>(x.toNat:Int)).map (Value.int .u8)):=by
 subst hv
 have:=Rd.of_own h
 unfold Lib.byteCells at this
 rw[List.map_map];exact this
theorem byteCells_one (l:List UInt8):∀u∈Lib.byteCells l,u.oneCell'=true:=by
 intro u hu
 unfold Lib.byteCells at hu
 obtain⟨s,_,rfl⟩:=List.mem_map.1 hu
 rfl
theorem nT (l:List UInt8):strOfNums (l.map λx=>(x.toNat:Int))=mkS l:=by
 apply cc
 rw[strOfNums_data]
 simp only[List.map_map]
 exact(List.map_congr_left λx _=>by simp).trans (List.map_id _)
abbrev DT:ByteArray:=⟨#[48,49,50,51,52,53,54,55,56,57,65,66,67,68,69,70]⟩
theorem zq:∀d:Fin 16,bn DT d.val=(hxD d.val).toNat:=by decide
theorem kS (l:List UInt8) (k:Nat) (c:UInt8) (h:l[k]?=some c):l.take (k+1)=l.take k++[c]:=by rw[List.take_add_one,h];rfl
theorem BY {s:ByteArray} {k:Nat} {c:UInt8} (h:s.data.toList[k]?=some c):bn s k=c.toNat:=by unfold bn;rw[List.getD_eq_getElem?_getD,h];rfl
theorem qm (w:World) (cs:Array Value) (r:List UInt8) (h:cs.toList=Lib.byteCells r):Rd (w.alloc (.cells cs 5)) (some ⟨w.heap.size,0,none⟩) (Lib.byteCells r):=Rd.of_block (heap_alloc_new w _) h
theorem yW {l:List UInt8} {k:Nat} {c:UInt8} (h:l[k]?=some c):aZ (l.take (k+1))=aZ (l.take k)++el c:=by
 rw[kS _ _ _ h,lU]
 congr 1
 unfold aZ
 simp
theorem yF {l:List UInt8} {k:Nat} {c:UInt8} (h:l[k]?=some c):aj (l.take (k+1))=aj (l.take k)++cN c:=by
 rw[kS _ _ _ h]
 unfold aj
 rw[List.flatMap_append]
 congr 1
 simp
theorem xO (s:ByteArray) (w:World) (hs:s.size<=1048576) :
  Calls Tryz.prog 146 #[.string s] w λe w'=>e=.returned (.string (mkS (aZ s.data.toList)))/\Below w.heap.size w w':=by
 have hz:=ac s
 go_enter Tryz.func146,Tryz.ntmps146
 go_wp2
 go_loopw [4,5] (λv i wr=>∃(k:Nat) (acc:List UInt8),k<=s.size/\acc.length<=6*k/\i=.int .i64 k/\eO w wr v acc/\Below w.heap.size w wr/\Hid (acc=aZ (s.data.toList.take k))) (λ_ i _=>s.size-(intOf i).toNat)
 case atStart=>exact⟨0,[],by omega,by simp,rfl,World.ownsRow_nil _ _ _ _,Below.refl _ _,rfl⟩
 case round =>
  obtain⟨k,acc,hk,hal,rfl,own,hB,Ha⟩:=hrel
  have Own:=Lib.hid own
  have HB:=Lib.hid hB
  have hw0:=hB.size
  obtain⟨A,cp,hA⟩:=eO.form own
  subst hA
  clear hB own
  by_cases hlt:k<s.size
  ·obtain⟨c,hc⟩:∃c,s.data.toList[k]?=some c:=⟨_,List.getElem?_eq_getElem (by rw[hz];exact hlt)⟩
   have hbc:=BY hc
   have hn:=c.toNat_lt
   have Hnx:Hid (acc++el c=aZ (s.data.toList.take (k+1))):=by
    show _=_
    rw[yW hc,←Ha.out]
   clear hc Ha
   have single:∀{q:List UInt8},el c=[c]->Hid (acc++el c=q)->Hid (acc++[c]=q):=λe h=>by rw[e]at h;exact h
   have hsame:Lib.byteCells [c]=[.int .u8 (c.toNat:Int)]:=rfl
   by_cases h128:c.toNat<128
   ·have hR:=λW=>Ci (c.toNat:Int) W
    cases hr:eV (c.toNat:Int)
    ·rw[hr]at hR
     have hi:el c=[92,117,48,48,hxD (c.toNat / 16),hxD (c.toNat % 16)]:=by unfold el pq;rw[hr,decide_eq_true h128];rfl
     rw[hi]at Hnx
     have d1:=zq ⟨c.toNat / 16,by omega⟩
     have d2:=zq ⟨c.toNat % 16,by omega⟩
     simp only at d1 d2
     clear hi hr single hsame
     generalize hxD (c.toNat / 16)=x1 at *
     generalize hxD (c.toNat % 16)=x2 at *
     generalize c.toNat=n at *
     go_wp2_with (go_at_call 181;refine(hR _).mono ?_;rintro e w1 ⟨rfl,rfl⟩)
     refine Rf.p0 w.heap.size _ (.quiet [0,1,2,3,4,5,6,7,8] (.one 9 (.one 10 (.quiet [11] (.done))))) ?_ (λa w h=>h)
     intro wd hbd hwz
     have hle:=hbd.size
     have Own1:=Lib.hid ((own_below Own.out hbd (Nat.le_refl _)).alloc (.cells #[.int .u8 92,.int .u8 117,.int .u8 48,.int .u8 48,.int .u8 x1.toNat,.int .u8 x2.toNat] 5))
     have Hb9:Hid (Below w.heap.size wd (wd.alloc (.cells #[.int .u8 92,.int .u8 117,.int .u8 48,.int .u8 48,.int .u8 x1.toNat,.int .u8 x2.toNat] 5))):=Lib.hid ((Below.refl _ _).alloc (by omega) _)
     have Hbd:=Lib.hid (HB.out.trans (hbd.mono hw0))
     clear hwz hbd
     refine Rf.pl_quiet ?_
     iterate 9 go_big_quiet_step (fail)
     refine wpQuiet_nil (Rf.pl_one ?_)
     go_wp2_with fail
     refine⟨Hb9.out,Rf.pl_one ?_⟩
     go_wp2_with (at_builtin;refine bB (m:=6) rfl rfl Tryz.underlying96 eo rfl (by omega) rfl Own1.out rfl (qm wd _ [92,117,48,48,x1,x2] rfl) rfl (byteCells_one _) (by omega) (by omega) (by simp;omega) ?_;intro v8 w8 own8 hb8)
     refine⟨hb8,Rf.pl_quiet ?_⟩
     go_frame
     iterate 1 go_big_quiet_step (fail)
     refine wpQuiet_nil (Rf.pl_done ?_)
     have HF:=Lib.hid ((Hbd.out.trans Hb9.out).trans hb8)
     have Own8:=Lib.hid own8
     obtain⟨A8,c8,hA8⟩:=cU own8
     subst hA8
     clear own8 hb8 d1 d2
     go_wp2
     go_roundw
     case rel=>exact⟨k+1,_,by omega,(by rw[List.length_append];simp only[List.length_cons,List.length_nil];omega),by go_num,eO.snoc (r:=[92,117,48,48,x1,x2]) Own8.out rfl,HF.out,Hnx⟩
     case measure=>simp[intOf];omega
    ·rw[hr]at hR
     have hi:el c=[c]:=by unfold el pq;rw[hr];simp
     replace Hnx:=single hi Hnx
     clear hi hr single
     have Own1:=Lib.hid (Own.out.alloc (.cells #[.int .u8 c.toNat] 5))
     have Hb9:Hid (Below w.heap.size wr (wr.alloc (.cells #[.int .u8 c.toNat] 5))):=Lib.hid ((Below.refl _ _).alloc (by omega) _)
     go_wp2_with (first
      | (go_at_call 181;refine(hR _).mono ?_;rintro e w1 ⟨rfl,rfl⟩)
      | (at_builtin;refine bB (m:=1) rfl rfl Tryz.underlying96 eo rfl (by omega) rfl Own1.out rfl (qm _ _ [c] rfl) rfl (byteCells_one _) (by omega) (by omega) (by simp;omega) ?_;intro v8 w8 own8 hb8;have HF:=Lib.hid ((HB.out.trans Hb9.out).trans hb8);have Own8:=Lib.hid own8;obtain⟨A8,c8,hA8⟩:=cU own8;subst hA8;clear own8 hb8))
     go_roundw
     case rel=>exact⟨k+1,_,by omega,(by rw[List.length_append];simp only[List.length_cons,List.length_nil];omega),by go_num,eO.snoc (r:=[c]) Own8.out rfl,HF.out,Hnx⟩
     case measure=>simp[intOf];omega
   ·have hi:el c=[c]:=by unfold el pq;rw[decide_eq_false h128];simp
    replace Hnx:=single hi Hnx
    clear hi single
    have Own1:=Lib.hid (Own.out.alloc (.cells #[.int .u8 c.toNat] 5))
    have Hb9:Hid (Below w.heap.size wr (wr.alloc (.cells #[.int .u8 c.toNat] 5))):=Lib.hid ((Below.refl _ _).alloc (by omega) _)
    go_wp2_with (first
     | (at_builtin;refine bB (m:=1) rfl rfl Tryz.underlying96 eo rfl (by omega) rfl Own1.out rfl (qm _ _ [c] rfl) rfl (byteCells_one _) (by omega) (by omega) (by simp;omega) ?_;intro v8 w8 own8 hb8;have HF:=Lib.hid ((HB.out.trans Hb9.out).trans hb8);have Own8:=Lib.hid own8;obtain⟨A8,c8,hA8⟩:=cU own8;subst hA8;clear own8 hb8))
    go_roundw
    case rel=>exact⟨k+1,_,by omega,(by rw[List.length_append];simp only[List.length_cons,List.length_nil];omega),by go_num,eO.snoc (r:=[c]) Own8.out rfl,HF.out,Hnx⟩
    case measure=>simp[intOf];omega
  ·have ht:s.data.toList.take k=s.data.toList:=List.take_of_length_le (by rw[hz];omega)
   have hcv:=aY (P:=Tryz.prog) (n:=acc.length) (c:=cp) 96 9 5 Tryz.underlying96 Tryz.underlying5 Tryz.underlying9 (eO.nums Own.out rfl) (by simp)
   rw[nT]at hcv
   have HS:Hid (acc=aZ s.data.toList):=by show _=_;rw[Ha.out,ht]
   clear ht Ha
   go_wp2
   go_ret
   exact⟨by rw[←HS.out];rfl,HB.out⟩
theorem sk (s:ByteArray) (w:World) (hs:s.size<=1048576) :
  Calls Tryz.prog 147 #[.string s] w λe w'=>e=.returned (.string (mkS (aj s.data.toList)))/\Below w.heap.size w w':=by
 have hz:=ac s
 go_enter Tryz.func147,Tryz.ntmps147
 go_wp2
 go_loopw [3,4] (λv i wr=>∃(k:Nat) (acc:List UInt8),k<=s.size/\acc.length<=6*k/\i=.int .i64 k/\eO w wr v acc/\Below w.heap.size w wr/\Hid (acc=aj (s.data.toList.take k))) (λ_ i _=>s.size-(intOf i).toNat)
 case atStart=>exact⟨0,[],by omega,by simp,rfl,World.ownsRow_nil _ _ _ _,Below.refl _ _,rfl⟩
 case round =>
  obtain⟨k,acc,hk,hal,rfl,own,hB,Ha⟩:=hrel
  have Own:=Lib.hid own
  have HB:=Lib.hid hB
  have hw0:=hB.size
  obtain⟨A,cp,hA⟩:=eO.form own
  subst hA
  clear hB own
  by_cases hlt:k<s.size
  ·obtain⟨c,hc⟩:∃c,s.data.toList[k]?=some c:=⟨_,List.getElem?_eq_getElem (by rw[hz];exact hlt)⟩
   have hbc:=BY hc
   have hn:=c.toNat_lt
   have Hnx:Hid (acc++cN c=aj (s.data.toList.take (k+1))):=by
    show _=_
    rw[yF hc,←Ha.out]
   clear hc Ha
   unfold cN at Hnx
   have hne:∀x:UInt8,¬ c.toNat=x.toNat->¬ c=x:=λx h e=>h (by rw[e])
   by_cases h1:c.toNat=34
   ·obtain rfl:c=34:=UInt8.toNat_inj.1 h1
    rw[if_pos rfl]at Hnx
    clear h1 hne
    replace hbc:bn s k=34:=hbc
    have Own1:=Lib.hid (Own.out.alloc (.cells #[.int .u8 92,.int .u8 34] 5))
    have Hb9:Hid (Below w.heap.size wr (wr.alloc (.cells #[.int .u8 92,.int .u8 34] 5))):=Lib.hid ((Below.refl _ _).alloc (by omega) _)
    go_wp2_with (first
     | (at_builtin;refine bB (m:=2) rfl rfl Tryz.underlying96 eo rfl (by omega) rfl Own1.out rfl (qm _ _ [92,34] rfl) rfl (byteCells_one _) (by omega) (by omega) (by simp;omega) ?_;intro v8 w8 own8 hb8;have HF:=Lib.hid ((HB.out.trans Hb9.out).trans hb8);have Own8:=Lib.hid own8;obtain⟨A8,c8,hA8⟩:=cU own8;subst hA8;clear own8 hb8))
    go_roundw
    case rel=>exact⟨k+1,_,by omega,(by rw[List.length_append];simp only[List.length_cons,List.length_nil];omega),by go_num,eO.snoc (r:=[92,34]) Own8.out rfl,HF.out,Hnx⟩
    case measure=>simp[intOf];omega
   rw[if_neg (hne 34 h1)]at Hnx
   by_cases h2:c.toNat=92
   ·obtain rfl:c=92:=UInt8.toNat_inj.1 h2
    rw[if_pos rfl]at Hnx
    clear h1 h2 hne
    replace hbc:bn s k=92:=hbc
    have Own1:=Lib.hid (Own.out.alloc (.cells #[.int .u8 92,.int .u8 92] 5))
    have Hb9:Hid (Below w.heap.size wr (wr.alloc (.cells #[.int .u8 92,.int .u8 92] 5))):=Lib.hid ((Below.refl _ _).alloc (by omega) _)
    go_wp2_with (first
     | (at_builtin;refine bB (m:=2) rfl rfl Tryz.underlying96 eo rfl (by omega) rfl Own1.out rfl (qm _ _ [92,92] rfl) rfl (byteCells_one _) (by omega) (by omega) (by simp;omega) ?_;intro v8 w8 own8 hb8;have HF:=Lib.hid ((HB.out.trans Hb9.out).trans hb8);have Own8:=Lib.hid own8;obtain⟨A8,c8,hA8⟩:=cU own8;subst hA8;clear own8 hb8))
    go_roundw
    case rel=>exact⟨k+1,_,by omega,(by rw[List.length_append];simp only[List.length_cons,List.length_nil];omega),by go_num,eO.snoc (r:=[92,92]) Own8.out rfl,HF.out,Hnx⟩
    case measure=>simp[intOf];omega
   rw[if_neg (hne 92 h2)]at Hnx
   by_cases h3:c.toNat=10
   ·obtain rfl:c=10:=UInt8.toNat_inj.1 h3
    rw[if_pos rfl]at Hnx
    clear h1 h2 h3 hne
    replace hbc:bn s k=10:=hbc
    have Own1:=Lib.hid (Own.out.alloc (.cells #[.int .u8 92,.int .u8 110] 5))
    have Hb9:Hid (Below w.heap.size wr (wr.alloc (.cells #[.int .u8 92,.int .u8 110] 5))):=Lib.hid ((Below.refl _ _).alloc (by omega) _)
    go_wp2_with (first
     | (at_builtin;refine bB (m:=2) rfl rfl Tryz.underlying96 eo rfl (by omega) rfl Own1.out rfl (qm _ _ [92,110] rfl) rfl (byteCells_one _) (by omega) (by omega) (by simp;omega) ?_;intro v8 w8 own8 hb8;have HF:=Lib.hid ((HB.out.trans Hb9.out).trans hb8);have Own8:=Lib.hid own8;obtain⟨A8,c8,hA8⟩:=cU own8;subst hA8;clear own8 hb8))
    go_roundw
    case rel=>exact⟨k+1,_,by omega,(by rw[List.length_append];simp only[List.length_cons,List.length_nil];omega),by go_num,eO.snoc (r:=[92,110]) Own8.out rfl,HF.out,Hnx⟩
    case measure=>simp[intOf];omega
   rw[if_neg (hne 10 h3)]at Hnx
   by_cases h4:c.toNat=13
   ·obtain rfl:c=13:=UInt8.toNat_inj.1 h4
    rw[if_pos rfl]at Hnx
    clear h1 h2 h3 h4 hne
    replace hbc:bn s k=13:=hbc
    have Own1:=Lib.hid (Own.out.alloc (.cells #[.int .u8 92,.int .u8 114] 5))
    have Hb9:Hid (Below w.heap.size wr (wr.alloc (.cells #[.int .u8 92,.int .u8 114] 5))):=Lib.hid ((Below.refl _ _).alloc (by omega) _)
    go_wp2_with (first
     | (at_builtin;refine bB (m:=2) rfl rfl Tryz.underlying96 eo rfl (by omega) rfl Own1.out rfl (qm _ _ [92,114] rfl) rfl (byteCells_one _) (by omega) (by omega) (by simp;omega) ?_;intro v8 w8 own8 hb8;have HF:=Lib.hid ((HB.out.trans Hb9.out).trans hb8);have Own8:=Lib.hid own8;obtain⟨A8,c8,hA8⟩:=cU own8;subst hA8;clear own8 hb8))
    go_roundw
    case rel=>exact⟨k+1,_,by omega,(by rw[List.length_append];simp only[List.length_cons,List.length_nil];omega),by go_num,eO.snoc (r:=[92,114]) Own8.out rfl,HF.out,Hnx⟩
    case measure=>simp[intOf];omega
   rw[if_neg (hne 13 h4)]at Hnx
   clear hne
   have Own1:=Lib.hid (Own.out.alloc (.cells #[.int .u8 c.toNat] 5))
   have Hb9:Hid (Below w.heap.size wr (wr.alloc (.cells #[.int .u8 c.toNat] 5))):=Lib.hid ((Below.refl _ _).alloc (by omega) _)
   go_wp2_with (first
    | (at_builtin;refine bB (m:=1) rfl rfl Tryz.underlying96 eo rfl (by omega) rfl Own1.out rfl (qm _ _ [c] rfl) rfl (byteCells_one _) (by omega) (by omega) (by simp;omega) ?_;intro v8 w8 own8 hb8;have HF:=Lib.hid ((HB.out.trans Hb9.out).trans hb8);have Own8:=Lib.hid own8;obtain⟨A8,c8,hA8⟩:=cU own8;subst hA8;clear own8 hb8))
   go_roundw
   case rel=>exact⟨k+1,_,by omega,(by rw[List.length_append];simp only[List.length_cons,List.length_nil];omega),by go_num,eO.snoc (r:=[c]) Own8.out rfl,HF.out,Hnx⟩
   case measure=>simp[intOf];omega
  ·have ht:s.data.toList.take k=s.data.toList:=List.take_of_length_le (by rw[hz];omega)
   have hcv:=aY (P:=Tryz.prog) (n:=acc.length) (c:=cp) 96 9 5 Tryz.underlying96 Tryz.underlying5 Tryz.underlying9 (eO.nums Own.out rfl) (by simp)
   rw[nT]at hcv
   have HS:Hid (acc=aj s.data.toList):=by show _=_;rw[Ha.out,ht]
   clear ht Ha
   go_wp2
   go_ret
   exact⟨by rw[←HS.out];rfl,HB.out⟩
theorem bR {w:World} {g:Nat} {cs:Array Value} {T:TypeId} (h:w.heap[g]?=some (Obj.cells cs T (0,0))) (i:Nat) {v:Value} (hv:cs[i]?=some v):w.cell? ⟨g,i,none⟩=some v:=by
 rw[Lib.cell_of_heap h];exact hv
abbrev tC8 (t:Tm):Array Value:=#[.int .i64 t.k,.string t.x,.string t.l,.string t.y]
theorem eT {t:Tm} (h:eH t):t.x.size<=1048576/\t.l.size<=1048576/\t.y.size<=1048576:=⟨Nat.le_trans h.1 (by decide),Nat.le_trans h.2.1 (by decide),Nat.le_trans h.2.2 (by decide)⟩
theorem nK (t:Tm) (w:World) (h:eH t):Calls Tryz.prog 113 #[tA t] w λe w'=>e=.returned (.bool (aN t))/\Below w.heap.size w w':=
 xM t w (eT h).1 (eT h).2.1 (eT h).2.2
theorem tU (c:Prop) [Decidable c] (a b:List UInt8):mkS (if c then a else b)=if c then mkS a else mkS b:=by split<;>rfl
theorem BJ (x:List UInt8):(⟨#[60]⟩:ByteArray)++mkS x++⟨#[62]⟩=mkS (60::(x++[62])):=cc (by simp[ByteArray.data_append])
theorem wC (x:ByteArray):(⟨#[95,58]⟩:ByteArray)++x=mkS (95::58::x.data.toList):=cc (by simp[ByteArray.data_append])
theorem wB (x y:List UInt8):(⟨#[34]⟩:ByteArray)++mkS x++⟨#[34,94,94,60]⟩++mkS y++⟨#[62]⟩=mkS (34::(x++34::94::94::60::(y++[62]))):=cc (by simp[ByteArray.data_append])
theorem BG (x:List UInt8) (l:ByteArray):(⟨#[34]⟩:ByteArray)++mkS x++⟨#[34,64]⟩++l=mkS (34::(x++34::64::l.data.toList)):=cc (by simp[ByteArray.data_append])
theorem BH (x:List UInt8):(⟨#[34]⟩:ByteArray)++mkS x++⟨#[34]⟩=mkS (34::(x++[34])):=cc (by simp[ByteArray.data_append])
theorem tM (t:Tm) (w:World) (hs:eH t) :
  Calls Tryz.prog 115 #[tA t] w λe w'=>e=.returned (.string (mkS (bh t)))/\Below w.heap.size w w':=by
 have hb0:Below w.heap.size w (w.alloc (.cells (tC8 t) 65)):=(Below.refl _ w).alloc (Nat.le_refl _) _
 have hg:=heap_alloc_new w (.cells (tC8 t) 65)
 have hI:=λW=>xO t.x W (eT hs).1
 have hL:=λW=>sk t.x W (eT hs).1
 have hY:=λW=>xO t.y W (eT hs).2.2
 obtain⟨res,hres⟩:∃r,bh t=r:=⟨_,rfl⟩
 rw[hres]
 have HT:Hid (mkS res=mkS (bh t)):=by show _=_;rw[hres]
 clear hres
 unfold bh at HT
 have hsi:(mkS (aZ t.x.data.toList)).size<=6300000:=by rw[lL];exact gD hs.1
 have hsy:(mkS (aZ t.y.data.toList)).size<=6300000:=by rw[lL];exact gD hs.2.2
 have hsl:(mkS (aj t.x.data.toList)).size<=6300000:=by rw[lL];exact Nat.le_trans (f7 hs.1) (by decide)
 have hx:=hs.1
 have hl:=hs.2.1
 rw[tU,tU,tU,tU,←BJ,←wC,←wB,←BG,←BH]at HT
 generalize mkS (aZ t.x.data.toList)=xi at *
 generalize mkS (aZ t.y.data.toList)=yi at *
 generalize mkS (aj t.x.data.toList)=xl at *
 go_enter Tryz.func115,Tryz.ntmps115
 go_upto_region 1 with fail
 change Code.wp _ _ _ _ (w.alloc (.cells (tC8 t) 65))
 generalize w.alloc (.cells (tC8 t) 65)=W at *
 have c0:=bR hg 0 rfl
 have c1:=bR hg 1 rfl
 have c2:=bR hg 2 rfl
 have c3:=bR hg 3 rfl
 have HB:=Lib.hid hb0
 clear hg hb0 hs
 by_cases h1:t.k=1
 ·rw[if_pos h1]at HT
  go_wp2_with (go_at_call 146;with_reducible refine(hI _).mono ?_;rintro e w1 ⟨rfl,b1⟩)
  go_ret
  exact⟨by rw[HT.out];rfl,aa HB.out b1⟩
 rw[if_neg h1]at HT
 by_cases h2:t.k=2
 ·rw[if_pos h2]at HT
  go_wp2_with fail
  go_ret
  exact⟨by rw[HT.out];rfl,HB.out⟩
 rw[if_neg h2]at HT
 have R1:=λd os=>ab c1 (below_regrown W d os)
 have R2:=λd os=>ab c2 (below_regrown W d os)
 have R3:=λd os=>ab c3 (below_regrown W d os)
 by_cases h4:t.k=4
 ·rw[if_pos h4]at HT
  go_wp2_with fail
  refine wrq ?_;(repeat (any_goals (go_big_quiet_step ((first|(go_at_call 147;with_reducible exact Calls.regrown_of (hL _))|(go_at_call 146;with_reducible exact Calls.regrown_of (hY _)))))));all_goals (refine wqn ?_;intro d9 os9)
  go_wp2
  go_ret
  exact⟨by rw[HT.out];rfl,HB.out.trans ((below_regrown _ _ _).mono HB.out.size)⟩
 rw[if_neg h4]at HT
 cases he:t.l.toList.isEmpty
 ·rw[if_neg (by rw[←ByteArray.toList_eq];intro h;rw[h]at he;cases he)]at HT
  go_wp2_with fail
  refine wrq ?_;(repeat (any_goals (go_big_quiet_step ((go_at_call 147;with_reducible exact Calls.regrown_of (hL _))))));all_goals (refine wqn ?_;intro d9 os9)
  go_wp2
  go_ret
  exact⟨by rw[HT.out];rfl,HB.out.trans ((below_regrown _ _ _).mono HB.out.size)⟩
 ·rw[if_pos (by rw[←ByteArray.toList_eq];exact List.isEmpty_iff.1 he)]at HT
  go_wp2_with (go_at_call 147;with_reducible refine(hL _).mono ?_;rintro e w1 ⟨rfl,b1⟩)
  go_ret
  exact⟨by rw[HT.out];rfl,aa HB.out b1⟩
theorem xN (x y:ByteArray) (w:World) :
  Calls Tryz.prog 114 #[.string x,.string y] w λe w'=>e=.returned (.int .i64 (bc x.toList y.toList))/\w=w':=by
 go_enter Tryz.func114,Tryz.ntmps114
 go_wp2
 all_goals (go_ret;exact⟨by simp_all[bc],rfl⟩)
theorem zy {a b:Tm} (h:Lib.compareInt a.k b.k≠0):cmpW a b=Lib.compareInt a.k b.k:=by unfold cmpW orZ;rw[if_neg h]
theorem CV {a b:Tm} (h:a.k=b.k) (h2:bc (bl a.x) (bl b.x)≠0):cmpW a b=bc (bl a.x) (bl b.x):=by
 unfold cmpW orZ;rw[if_pos ((cz _ _).2 h),if_neg h2]
theorem CW {a b:Tm} (h:a.k=b.k) (h1:bc (bl a.x) (bl b.x)=0) (h2:bc (bl a.l) (bl b.l)≠0):cmpW a b=bc (bl a.l) (bl b.l):=by
 unfold cmpW orZ;rw[if_pos ((cz _ _).2 h),if_pos h1,if_neg h2]
theorem CU {a b:Tm} (h:a.k=b.k) (h1:bc (bl a.x) (bl b.x)=0) (h2:bc (bl a.l) (bl b.l)=0):cmpW a b=bc (bl a.y) (bl b.y):=by
 unfold cmpW orZ;rw[if_pos ((cz _ _).2 h),if_pos h1,if_pos h2]
theorem Dw {a b:Tm} (ha:aN a=false) (hb:aN b=false):aJ a b=cmpW a b:=by
 unfold aJ;rw[ha,hb,if_neg (by decide),if_neg (by decide),if_neg (by decide)]
theorem eqS {x y:ByteArray} (h:(x.toList == y.toList)=true):bc (bl x) (bl y)=0:=by
 rw[ByteArray.toList_eq,ByteArray.toList_eq]at h
 exact(dO _ _).2 (eq_of_beq h)
theorem neS {x y:ByteArray} (h:(x.toList == y.toList)=false):bc (bl x) (bl y)≠0:=by
 rw[ByteArray.toList_eq,ByteArray.toList_eq]at h
 intro h2
 rw[show x.data.toList=y.data.toList from (dO _ _).1 h2]at h
 simp at h
theorem ln (a b:Tm) (w:World) (ha:eH a) (hb:eH b) :
  Calls Tryz.prog 81 #[tA a,tA b] w λe w'=>e=.returned (.int .i64 (aJ a b))/\Below w.heap.size w w':=by
 obtain⟨res,hres⟩:∃r,aJ a b=r:=⟨_,rfl⟩
 rw[hres]
 have HR:Hid (res=aJ a b):=by show _=_;rw[hres]
 clear hres
 have hba:Below w.heap.size w (w.alloc (.cells (tC8 a) 65)):=(Below.refl _ w).alloc (Nat.le_refl _) _
 have hga:=heap_alloc_new w (.cells (tC8 a) 65)
 have hza:(w.alloc (.cells (tC8 a) 65)).heap.size=w.heap.size+1:=by simp
 go_enter Tryz.func81,Tryz.ntmps81
 go_upto_region 1 with fail
 change Code.wp _ _ _ _ ((w.alloc (.cells (tC8 a) 65)).alloc (.cells (tC8 b) 65))
 generalize w.alloc (.cells (tC8 a) 65)=wa at *
 have hbb:Below wa.heap.size wa (wa.alloc (.cells (tC8 b) 65)):=(Below.refl _ wa).alloc (Nat.le_refl _) _
 have hgb:=heap_alloc_new wa (.cells (tC8 b) 65)
 have hga2:=dP hbb hga
 rw[hza]at hgb
 generalize wa.alloc (.cells (tC8 b) 65)=w0 at *
 have hb0:Below w.heap.size w w0:=aa hba hbb
 have hsz:w.heap.size<=w0.heap.size:=hb0.size
 have HB0:=Lib.hid hb0
 have a0:=bR hga2 0 rfl
 have a1:=bR hga2 1 rfl
 have a2:=bR hga2 2 rfl
 have a3:=bR hga2 3 rfl
 have b0:=bR hgb 0 rfl
 have b1:=bR hgb 1 rfl
 have b2:=bR hgb 2 rfl
 have b3:=bR hgb 3 rfl
 have hRa:=λW=>nK a W ha
 have hRb:=λW=>nK b W hb
 have hTa:=λW=>tM a W ha
 have hTb:=λW=>tM b W hb
 have hO:=λx y W=>xN x y W
 clear hga hgb hga2 hza hba hbb hb0
 refine Rf.p0 w0.heap.size _ (.quiet [0,2] (.one 1 (.one 3 (.quiet [4,5] (.done))))) ?_ (λa w h=>h)
 intro wd hbd hwz
 have p0:=cellL a0 hbd
 have p1:=cellL a1 hbd
 have p2:=cellL a2 hbd
 have p3:=cellL a3 hbd
 have q0:=cellL b0 hbd
 have q1:=cellL b1 hbd
 have q2:=cellL b2 hbd
 have q3:=cellL b3 hbd
 have HD:=Lib.hid hbd
 clear hwz hbd
 refine Rf.pl_quiet ?_
 iterate 2 go_big_quiet_step (fail)
 refine wpQuiet_nil (Rf.pl_one ?_)
 clear p0 p1 p2 p3 q0 q1 q2 q3
 go_wp2_with (go_at_call 113;with_reducible refine(hRa _).mono ?_;rintro e V1 ⟨rfl,k1⟩)
 have F1:=aa HD.out k1
 refine⟨k1.mono HD.out.size,Rf.pl_one ?_⟩
 go_wp2_with (go_at_call 113;with_reducible refine(hRb _).mono ?_;rintro e V2 ⟨rfl,k2⟩)
 have F2:=aa F1 k2
 refine⟨k2.mono F1.size,Rf.pl_quiet ?_⟩
 have HF2:=Lib.hid F2
 replace a0:=ab a0 F2
 replace a1:=ab a1 F2
 replace a2:=ab a2 F2
 replace a3:=ab a3 F2
 replace b0:=ab b0 F2
 replace b1:=ab b1 F2
 replace b2:=ab b2 F2
 replace b3:=ab b3 F2
 clear k1 k2 F1 F2 hRa hRb
 iterate 2 go_big_quiet_step (fail)
 refine wpQuiet_nil (Rf.pl_done ?_)
 have fin:Below w.heap.size w V2:=HB0.out.trans (HF2.out.mono hsz)
 have HFin:=Lib.hid fin
 clear fin
 cases hra:aN a<;>cases hrb:aN b
 ·rw[Dw hra hrb]at HR
  clear hTa hTb hra hrb
  by_cases h1:a.k<b.k
  ·have HE:Hid (res = -1):=by
    show _=_
    have e:Lib.compareInt a.k b.k = -1:=by unfold Lib.compareInt;rw[if_pos h1]
    rw[HR.out,zy (by rw[e];decide),e]
   clear HR hO
   go_wp2
   go_ret
   exact⟨by rw[HE.out];rfl,HFin.out⟩
  by_cases h2:a.k > b.k
  ·have HE:Hid (res=1):=by
    show _=_
    have e:Lib.compareInt a.k b.k=1:=by unfold Lib.compareInt;rw[if_neg h1];(repeat' split);all_goals omega
    rw[HR.out,zy (by rw[e];decide),e]
   clear HR hO
   go_wp2
   go_ret
   exact⟨by rw[HE.out];rfl,HFin.out⟩
  have h3:a.k=b.k:=by omega
  cases hx:(a.x.toList == b.x.toList)
  ·have HE:Hid (res=bc a.x.toList b.x.toList):=by
    show _=_
    rw[HR.out,CV h3 (neS hx),ByteArray.toList_eq,ByteArray.toList_eq]
   clear HR
   go_wp2_with (go_at_call 114;with_reducible refine(hO _ _ _).mono ?_;rintro e V3 ⟨rfl,rfl⟩)
   go_ret
   exact⟨by rw[HE.out];rfl,HFin.out⟩
  cases hl:(a.l.toList == b.l.toList)
  ·have HE:Hid (res=bc a.l.toList b.l.toList):=by
    show _=_
    rw[HR.out,CW h3 (eqS hx) (neS hl),ByteArray.toList_eq,ByteArray.toList_eq]
   clear HR
   go_wp2_with (go_at_call 114;with_reducible refine(hO _ _ _).mono ?_;rintro e V3 ⟨rfl,rfl⟩)
   go_ret
   exact⟨by rw[HE.out];rfl,HFin.out⟩
  ·have HE:Hid (res=bc a.y.toList b.y.toList):=by
    show _=_
    rw[HR.out,CU h3 (eqS hx) (eqS hl),ByteArray.toList_eq,ByteArray.toList_eq]
   clear HR
   go_wp2_with (go_at_call 114;with_reducible refine(hO _ _ _).mono ?_;rintro e V3 ⟨rfl,rfl⟩)
   go_ret
   exact⟨by rw[HE.out];rfl,HFin.out⟩
 ·have HE:Hid (res=1):=by show _=_;rw[HR.out];unfold aJ;rw[hra,hrb];rfl
  clear HR hTa hTb hO hra hrb
  go_wp2
  go_ret
  exact⟨by rw[HE.out];rfl,HFin.out⟩
 ·have HE:Hid (res = -1):=by show _=_;rw[HR.out];unfold aJ;rw[hra,hrb];rfl
  clear HR hTa hTb hO hra hrb
  go_wp2
  go_ret
  exact⟨by rw[HE.out];rfl,HFin.out⟩
 ·have HE:Hid (res=bc (bh a) (bh b)):=by show _=_;rw[HR.out];unfold aJ;rw[hra,hrb];rfl
  have hO2:=hO (mkS (bh a)) (mkS (bh b))
  rw[iL,iL]at hO2
  clear HR hra hrb hO
  generalize mkS (bh a)=ta at *
  generalize mkS (bh b)=tb at *
  go_upto_region 3 with fail
  refine Rf.p0 V2.heap.size _ (.quiet [0,2] (.one 1 (.one 3 (.one 4 (.quiet [5] (.done)))))) ?_ (λa w h=>h)
  intro we hbe hwz
  have c0:=cellL a0 hbe
  have c1:=cellL a1 hbe
  have c2:=cellL a2 hbe
  have c3:=cellL a3 hbe
  have d0:=cellL b0 hbe
  have d1:=cellL b1 hbe
  have d2:=cellL b2 hbe
  have d3:=cellL b3 hbe
  have HF3:=Lib.hid hbe
  clear hwz hbe a0 a1 a2 a3 b0 b1 b2 b3
  refine Rf.pl_quiet ?_
  iterate 2 go_big_quiet_step (fail)
  refine wpQuiet_nil (Rf.pl_one ?_)
  clear c0 c1 c2 c3 d0 d1 d2 d3
  go_wp2_with (go_at_call 115;with_reducible refine(hTa _).mono ?_;rintro e V3 ⟨rfl,k3⟩)
  have F4:=aa HF3.out k3
  refine⟨k3.mono HF3.out.size,Rf.pl_one ?_⟩
  go_wp2_with (go_at_call 115;with_reducible refine(hTb _).mono ?_;rintro e V4 ⟨rfl,k4⟩)
  have F5:=aa F4 k4
  refine⟨k4.mono F4.size,Rf.pl_one ?_⟩
  have HF5:=Lib.hid F5
  clear k3 k4 F4 F5
  go_wp2_with (go_at_call 114;with_reducible refine(hO2 _).mono ?_;rintro e V5 ⟨rfl,rfl⟩)
  refine⟨Below.refl _ _,Rf.pl_quiet ?_⟩
  iterate 1 go_big_quiet_step (fail)
  refine wpQuiet_nil (Rf.pl_done ?_)
  go_wp2
  go_ret
  exact⟨by rw[HE.out];rfl,HFin.out.trans (HF5.out.mono HFin.out.size)⟩
end Go.Proofs.YtjldjeenfnahoaaGreatDoor
