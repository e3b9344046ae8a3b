/- The program's package filter, walked: what terms are, their -/
import Derived.Test.YtoejnneknpoanaaGreatDoorJUtfMath
import Derived.Shelf.Strings.SlTrimAscii
set_option maxHeartbeats 1000000
namespace Go.Proofs.YtoejnneknpoanaaGreatDoor
open Go Go.RowKit Fm
theorem truthInfo:(Tryz.prog.info? 104).map (λi=>(i.zero,i.size,i.bytes))=some (some (.int .i64 0),1,8):=by kernel_rfl
theorem filTold (q:Bool) (w:World) :
  Calls Tryz.prog 157 #[.bool q] w λe w'=>e=.returned (.int .i64 (toldI q))/\w=w':=by
 cases q<;>(go_enter Tryz.func157,Tryz.ntmps157;go_wp2;go_ret;exact⟨rfl,rfl⟩)
theorem filWeight (q:Bool) (w:World) :
  Calls Tryz.prog 235 #[.bool q] w λe w'=>e=.returned (.int .i64 (wt q))/\w=w':=by
 cases q<;>(go_enter Tryz.func235,Tryz.ntmps235;go_wp2;go_ret;exact⟨rfl,rfl⟩)
theorem filNot (t:Int) (w:World) :
  Calls Tryz.prog 152 #[.int .i64 t] w λe w'=>e=.returned (.int .i64 (notI t))/\w=w':=by
 go_enter Tryz.func152,Tryz.ntmps152
 go_wp2
 all_goals (go_ret;exact⟨by simp_all[notI],rfl⟩)
theorem filTyped (k:Int) (x l y ty:ByteArray) (w:World) :
  Calls Tryz.prog 187 #[.agg #[.int .i64 k,.string x,.string l,.string y],.string ty] w λe w'=>e=.returned (.bool (typedB ⟨k,x,l,y⟩ ty))/\Below w.heap.size w w':=by
 go_enter Tryz.func187,Tryz.ntmps187
 go_wp2
 all_goals (go_ret;exact⟨by simp_all[typedB],blw⟩)
theorem filLiteral (k:Int) (x l y:ByteArray) (w:World) :
  Calls Tryz.prog 158 #[.agg #[.int .i64 k,.string x,.string l,.string y]] w λe w'=>e=.returned (.bool (litB ⟨k,x,l,y⟩))/\Below w.heap.size w w':=by
 go_enter Tryz.func158,Tryz.ntmps158
 go_wp2
 all_goals (go_ret;exact⟨by simp_all[litB],blw⟩)
theorem filPlain (k:Int) (x l y:ByteArray) (w:World) :
  Calls Tryz.prog 236 #[.agg #[.int .i64 k,.string x,.string l,.string y]] w λe w'=>e=.returned (.bool (plainB ⟨k,x,l,y⟩))/\Below w.heap.size w w':=by
 go_enter Tryz.func236,Tryz.ntmps236
 go_wp2
 all_goals (go_ret;exact⟨by simp_all[plainB],blw⟩)
theorem nanS (s:ByteArray) (w:World):Calls Tryz.prog 144 #[.string s] w λe w'=>e=.returned (.bool false)/\w=w':=by
 go_enter Tryz.func144,Tryz.ntmps144
 go_wp2
 all_goals (go_ret;exact⟨by simp,rfl⟩)
theorem cmpStr (x y:ByteArray) (w:World) :
  Calls Tryz.prog 107 #[.string x,.string y] w λe w'=>e=.returned (.int .i64 (cmpS x.toList y.toList))/\w=w':=by
 go_enter Tryz.func107,Tryz.ntmps107
 go_wp2_with ((refine(nanS _ _).mono ?_);(rintro e w1 ⟨rfl,rfl⟩))
 all_goals (go_ret;exact⟨by simp_all[cmpS],rfl⟩)
theorem toList_mk (l:List UInt8):(⟨l.toArray⟩:ByteArray).toList=l:=by simp[ByteArray.toList_eq]
theorem grown_box {w:World} {cs:Array Value} {ty:TypeId} (j:Nat) (v:Value) (h:cs[j]?=some v) (d:Nat) (os:Array Obj) :
  (Sort.grow (redrawn (w.alloc (.cells cs ty)) d) os).cell? ⟨w.heap.size,j,none⟩=some v:=by
 refine cell_regrown ?_ d os
 rw[World.cell?,heap_alloc_new]
 exact h
theorem filSays (k:Int) (x l y:ByteArray) (w:World) :
  Calls Tryz.prog 188 #[.agg #[.int .i64 k,.string x,.string l,.string y]] w λe w'=>e=.returned (.tuple #[.bool (yesB ⟨k,x,l,y⟩),.bool (boolB ⟨k,x,l,y⟩)])/\Below w.heap.size w w':=by
 have ht:=λW=>filTyped k x l y booleanS W
 have hy:yesB ⟨k,x,l,y⟩=(x.toList == [116,114,117,101] || x.toList == [49]):=rfl
 have hb:boolB ⟨k,x,l,y⟩=(typedB ⟨k,x,l,y⟩ booleanS && (yesB ⟨k,x,l,y⟩ || x.toList == [102,97,108,115,101] || x.toList == [48])):=rfl
 rw[hb,hy]
 clear hb hy
 generalize typedB ⟨k,x,l,y⟩ booleanS=q at ht ⊢
 unfold booleanS at ht
 have g0:=λd os=>grown_box (w:=w) (cs:=#[.int .i64 k,.string x,.string l,.string y]) (ty:=76) 0 _ rfl d os
 have g1:=λd os=>grown_box (w:=w) (cs:=#[.int .i64 k,.string x,.string l,.string y]) (ty:=76) 1 _ rfl d os
 have g2:=λd os=>grown_box (w:=w) (cs:=#[.int .i64 k,.string x,.string l,.string y]) (ty:=76) 2 _ rfl d os
 have g3:=λd os=>grown_box (w:=w) (cs:=#[.int .i64 k,.string x,.string l,.string y]) (ty:=76) 3 _ rfl d os
 go_enter Tryz.func188,Tryz.ntmps188
 cases h1:(x.toList == [116,114,117,101])
 ·cases h2:(x.toList == [49])
  ·cases q
   ·go_wp2
    refine wrq ?_;(repeat (any_goals (go_big_quiet_step ((go_at_call 187;exact Calls.regrown_of (ht _))))));all_goals (refine wqn ?_;intro d9 os9)
    go_wp2
    go_ret2
    exact⟨by simp,blw⟩
   ·cases h3:(x.toList == [102,97,108,115,101])
    ·go_wp2
     refine wrq ?_;(repeat (any_goals (go_big_quiet_step ((go_at_call 187;exact Calls.regrown_of (ht _))))));all_goals (refine wqn ?_;intro d9 os9)
     go_wp2
     go_ret2
     exact⟨by simp,blw⟩
    ·go_wp2
     refine wrq ?_;(repeat (any_goals (go_big_quiet_step ((go_at_call 187;exact Calls.regrown_of (ht _))))));all_goals (refine wqn ?_;intro d9 os9)
     go_wp2
     go_ret2
     exact⟨by simp,blw⟩
  ·cases q
   all_goals
    go_wp2
    refine wrq ?_;(repeat (any_goals (go_big_quiet_step ((go_at_call 187;exact Calls.regrown_of (ht _))))));all_goals (refine wqn ?_;intro d9 os9)
    go_wp2
    go_ret2
    exact⟨by simp,blw⟩
 ·cases q
  all_goals
   go_wp2
   refine wrq ?_;(repeat (any_goals (go_big_quiet_step ((go_at_call 187;exact Calls.regrown_of (ht _))))));all_goals (refine wqn ?_;intro d9 os9)
   go_wp2
   go_ret2
   exact⟨by simp,blw⟩
theorem dropWhile_nil (p:UInt8->Bool):∀(l:List UInt8),l.dropWhile p=[]↔l.all p=true
 | []=>by simp
 | a::l=>by
  rw[List.dropWhile_cons]
  by_cases h:p a=true
  ·simp[h,dropWhile_nil p l]
  ·simp[h]
theorem all_reverse (p:UInt8->Bool) (l:List UInt8):l.reverse.all p=l.all p:=by
 rw[Bool.eq_iff_iff];simp
theorem trimS_nil (l cs:List UInt8):(Lib.trimS l cs).isEmpty=l.all cs.contains:=by
 rw[Bool.eq_iff_iff,List.isEmpty_iff,Lib.trimS,Lib.trimLeftS,dropWhile_nil,Lib.trimRightS]
 show (l.reverse.dropWhile cs.contains).reverse.all cs.contains=true↔_
 rw[all_reverse]
 have key:∀m:List UInt8,(m.dropWhile cs.contains).all cs.contains=true↔m.all cs.contains=true:=by
  intro m
  induction m with
  | nil=>simp
  | cons a m ih =>
   rw[List.dropWhile_cons]
   by_cases h:cs.contains a=true
   ·rw[if_pos h,ih,List.all_cons,h];simp
   ·rw[if_neg h]
 rw[key,all_reverse]
theorem trimDigits (s:ByteArray) (hs:s.size<=281474976710656):∃r:ByteArray,r.toList.isEmpty=s.toList.all digs.contains/\∀w,Calls Tryz.prog 228 #[.string s,.string ⟨#[48,49,50,51,52,53,54,55,56,57]⟩] w λe w'=>e=.returned (.string r)/\Below w.heap.size w w':=by
 refine⟨⟨(Lib.trimS s.data.toList digs).toArray⟩,?_,λw=>?_⟩
 ·rw[toList_mk,trimS_nil,ByteArray.toList_eq]
 ·exact Any.strings_Trim_laid Tryz.lays160 (by kernel_rfl) s ⟨#[48,49,50,51,52,53,54,55,56,57]⟩ w (by omega) (by decide) (ascii_of_all (by decide))
theorem trimZeros (s:ByteArray) (w:World):Calls Tryz.prog 229 #[.string s,.string ⟨#[48]⟩] w λe w'=>e=.returned (.string ⟨(s.toList.dropWhile (· == 48)).toArray⟩)/\w=w':=by
 rw[ByteArray.toList_eq]
 exact(Tryz.strings_TrimLeft_one s 48 (by decide) w).mono λ_ _ ⟨he,hw⟩=>⟨he,hw.symm⟩
theorem trimPre (s:ByteArray) (c:UInt8) (w:World):Calls Tryz.prog 227 #[.string s,.string ⟨#[c]⟩] w λe w'=>e=.returned (.string ⟨(Lib.trimPrefix s.toList [c]).toArray⟩)/\w=w':=by
 rw[ByteArray.toList_eq]
 exact(Tryz.strings_TrimPrefix s ⟨#[c]⟩ w).mono λ_ _ ⟨he,hw⟩=>⟨he,hw.symm⟩
theorem trimP_yes (c:UInt8) (r:List UInt8):Lib.trimPrefix (c::r) [c]=r:=by
 simp[Lib.trimPrefix,Lib.hasPrefix,List.isPrefixOf]
theorem trimP_no (c d:UInt8) (r:List UInt8) (h:c≠d):Lib.trimPrefix (d::r) [c]=d::r:=by
 simp[Lib.trimPrefix,Lib.hasPrefix,List.isPrefixOf,h]
theorem trimP_nil (c:UInt8):Lib.trimPrefix [] [c]=[]:=by
 simp[Lib.trimPrefix,Lib.hasPrefix,List.isPrefixOf]
theorem sign_cases (x:List UInt8):∃(m:Bool) (r:List UInt8),numL x=numR m r /\
  ((m=true/\Lib.trimPrefix x [45]=r/\(r == x)=false)∨(m=false/\Lib.trimPrefix x [45]=x/\Lib.trimPrefix x [43]=r))/\r.length<=x.length:=by
 rcases x with _|⟨d,r⟩
 ·exact⟨false,[],rfl,.inr ⟨rfl,trimP_nil _,trimP_nil _⟩,by simp⟩
 ·by_cases h1:d=45
  ·subst h1
   refine⟨true,r,rfl,.inl ⟨rfl,trimP_yes _ _,?_⟩,by simp⟩
   rw[beq_eq_false_iff_ne]
   intro h
   have:=congrArg List.length h
   simp at this
  ·by_cases h2:d=43
   ·subst h2
    exact⟨false,r,rfl,.inr ⟨rfl,trimP_no _ _ _ (by decide),trimP_yes _ _⟩,by simp⟩
   ·refine⟨false,d::r,?_,.inr ⟨rfl,trimP_no _ _ _ (Ne.symm h1),trimP_no _ _ _ (Ne.symm h2)⟩,by simp⟩
    unfold numL
    split
    ·rename_i h;injection h with h _;exact(h1 h).elim
    ·rename_i h;injection h with h _;exact(h2 h).elim
    ·rfl
def numV (o:Option (Bool × List UInt8)):Value:=.tuple #[.bool ((o.map (·.1)).getD false),.string ⟨((o.map (·.2)).getD []).toArray⟩,.bool o.isSome]
theorem numV_eq (t:Tm):numV (numT t)=.tuple #[.bool (numM t),.string ⟨(numD t).toArray⟩,.bool (numI t)]:=rfl
theorem numR_no {m:Bool} {r:List UInt8} (h:r.isEmpty=true∨(r.all digs.contains)=false):numV (numR m r)=.tuple #[.bool false,.string ⟨#[]⟩,.bool false]:=by
 unfold numR
 rw[if_pos (by rcases h with h|h<;>simp[h])]
 rfl
theorem numR_zero {m:Bool} {r:List UInt8} (h:r.isEmpty=false) (h2:(r.all digs.contains)=true) (h3:(r.dropWhile (· == 48)).isEmpty=true):numV (numR m r)=.tuple #[.bool false,.string ⟨#[48]⟩,.bool true]:=by
 unfold numR
 rw[if_neg (by simp only[h,h2];decide),if_pos h3]
 rfl
theorem numR_yes {m:Bool} {r:List UInt8} (h:r.isEmpty=false) (h2:(r.all digs.contains)=true) (h3:(r.dropWhile (· == 48)).isEmpty=false):numV (numR m r)=.tuple #[.bool m,.string ⟨(r.dropWhile (· == 48)).toArray⟩,.bool true]:=by
 unfold numR
 rw[if_neg (by simp only[h,h2];decide),if_neg (by simp[h3])]
 rfl
theorem numPack (x:ByteArray) (hs:x.size<=281474976710656):∃(m:Bool) (s rt z:ByteArray) (V:Value),numV (numL x.toList)=V /\
  ((m=true/\(∀W,Calls Tryz.prog 227 #[.string x,.string ⟨#[45]⟩] W λe w'=>e=.returned (.string s)/\W=w')/\(s.toList == x.toList)=false) ∨
  (m=false/\(∀W,Calls Tryz.prog 227 #[.string x,.string ⟨#[45]⟩] W λe w'=>e=.returned (.string x)/\W=w') /\
    (∀W,Calls Tryz.prog 227 #[.string x,.string ⟨#[43]⟩] W λe w'=>e=.returned (.string s)/\W=w'))) /\
  (∀W,Calls Tryz.prog 228 #[.string s,.string ⟨#[48,49,50,51,52,53,54,55,56,57]⟩] W λe w'=>e=.returned (.string rt)/\Below W.heap.size W w') /\
  (∀W,Calls Tryz.prog 229 #[.string s,.string ⟨#[48]⟩] W λe w'=>e=.returned (.string z)/\W=w') /\
  (s.toList.isEmpty=true∨rt.toList.isEmpty=false->V=.tuple #[.bool false,.string ⟨#[]⟩,.bool false]) /\
  (s.toList.isEmpty=false->rt.toList.isEmpty=true->z.toList.isEmpty=true->V=.tuple #[.bool false,.string ⟨#[48]⟩,.bool true]) /\
  (s.toList.isEmpty=false->rt.toList.isEmpty=true->z.toList.isEmpty=false->V=.tuple #[.bool m,.string z,.bool true]):=by
 have h1:=λW=>trimPre x 45 W
 have h2:=λW=>trimPre x 43 W
 obtain⟨m,r,hn,hm,hl⟩:=sign_cases x.toList
 have hrs:(⟨r.toArray⟩:ByteArray).size<=281474976710656:=by
  show r.toArray.size<=_
  rw[List.size_toArray]
  have:x.toList.length=x.size:=by rw[ByteArray.toList_eq];exact size_toList x
  omega
 obtain⟨rt,hrt,hT⟩:=trimDigits ⟨r.toArray⟩ hrs
 have hz:=λW=>trimZeros ⟨r.toArray⟩ W
 simp only[toList_mk]at hrt hz
 have hx:(⟨x.toList.toArray⟩:ByteArray)=x:=by rw[ByteArray.toList_eq]
 refine⟨m,⟨r.toArray⟩,rt,⟨(r.dropWhile (· == 48)).toArray⟩,_,rfl,?_,hT,hz,?_,?_,?_⟩
 ·rcases hm with ⟨rfl,e1,e2⟩|⟨rfl,e1,e2⟩
  ·rw[e1]at h1
   exact .inl ⟨rfl,h1,by rw[toList_mk];exact e2⟩
  ·rw[e1,hx]at h1
   rw[e2]at h2
   exact .inr ⟨rfl,h1,h2⟩
 ·rw[toList_mk r,hrt,hn];exact numR_no
 ·rw[toList_mk r,toList_mk (r.dropWhile _),hrt,hn];exact numR_zero
 ·rw[toList_mk r,toList_mk (r.dropWhile _),hrt,hn];exact numR_yes
theorem filNumber (k:Int) (x l y:ByteArray) (w:World) (hs:x.size<=281474976710656) :
  Calls Tryz.prog 189 #[.agg #[.int .i64 k,.string x,.string l,.string y]] w λe w'=>e=.returned (numV (numT ⟨k,x,l,y⟩))/\Below w.heap.size w w':=by
 have ht:=λW=>filTyped k x l y integerS W
 obtain⟨m,s,rt,z,V,hV,hm,hT,hz,n1,n2,n3⟩:=numPack x hs
 have hfin:numV (numT ⟨k,x,l,y⟩)=if typedB ⟨k,x,l,y⟩ integerS then V else .tuple #[.bool false,.string ⟨#[]⟩,.bool false]:=by
  unfold numT
  split
  ·rw[←hV]
  ·rfl
 rw[hfin]
 generalize typedB ⟨k,x,l,y⟩ integerS=q at ht ⊢
 unfold integerS at ht
 have N:=Lib.hid (And.intro n1 (And.intro n2 n3))
 clear n1 n2 n3 hfin hV hs
 rcases hm with ⟨rfl,h1,hm⟩|⟨rfl,h1,h2⟩
 ·cases q
  ·go_enter Tryz.func189,Tryz.ntmps189
   go_wp2_with (first
    | (go_at_call 227;refine(h1 _).mono ?_;rintro e w1 ⟨rfl,rfl⟩)
    | (go_at_call 187;refine(ht _).mono ?_;rintro e w2 ⟨rfl,hb2⟩))
   go_ret3
   exact⟨rfl,blw⟩
  ·go_enter Tryz.func189,Tryz.ntmps189
   go_wp2_with (first
    | (go_at_call 227;refine(h1 _).mono ?_;rintro e w1 ⟨rfl,rfl⟩)
    | (go_at_call 228;refine(hT _).mono ?_;rintro e w3 ⟨rfl,hb3⟩)
    | (go_at_call 229;refine(hz _).mono ?_;rintro e w4 ⟨rfl,rfl⟩)
    | (go_at_call 187;refine(ht _).mono ?_;rintro e w2 ⟨rfl,hb2⟩))
   all_goals
    go_ret3
    obtain⟨n1,n2,n3⟩:=N.out
    refine⟨?_,blw⟩
    simp_all
 ·have hxx:(x.toList == x.toList)=true:=by simp
  cases q
  ·go_enter Tryz.func189,Tryz.ntmps189
   go_wp2_with fail
   refine(h1 _).mono ?_
   rintro e w1 ⟨rfl,rfl⟩
   go_wp2_with fail
   refine(h2 _).mono ?_
   rintro e w1 ⟨rfl,rfl⟩
   go_wp2_with (go_at_call 187;refine(ht _).mono ?_;rintro e w2 ⟨rfl,hb2⟩)
   go_ret3
   exact⟨rfl,blw⟩
  ·go_enter Tryz.func189,Tryz.ntmps189
   go_wp2_with fail
   refine(h1 _).mono ?_
   rintro e w1 ⟨rfl,rfl⟩
   go_wp2_with fail
   refine(h2 _).mono ?_
   rintro e w1 ⟨rfl,rfl⟩
   go_wp2_with (first
    | (go_at_call 228;refine(hT _).mono ?_;rintro e w3 ⟨rfl,hb3⟩)
    | (go_at_call 229;refine(hz _).mono ?_;rintro e w4 ⟨rfl,rfl⟩)
    | (go_at_call 187;refine(ht _).mono ?_;rintro e w2 ⟨rfl,hb2⟩))
   all_goals
    go_ret3
    obtain⟨n1,n2,n3⟩:=N.out
    refine⟨?_,blw⟩
    simp_all
end Go.Proofs.YtoejnneknpoanaaGreatDoor
