/- A call that leaves what lay before: its world, by draws and -/
import Derived.Test.YtjldjeenfnahoaaGreatDoorJDrawn
import Derived.Test.YtjldjeenfnahoaaGreatDoorJOrd6
import Derived.Shelf.Strings.SlTrimAscii
set_option maxHeartbeats 2000000
set_option maxRecDepth 10000
namespace Go.Proofs.YtjldjeenfnahoaaGreatDoor
open Go Go.RowKit
theorem qX {w w':World} (hb:Below w.heap.size w w'):w'.heap=w.heap++(w'.heap.toList.drop w.heap.size).toArray:=by
 apply Array.toList_inj.1
 rw[Array.toList_append,List.toList_toArray]
 conv=>lhs;rw[←List.take_append_drop w.heap.size w'.heap.toList]
 congr 1
 apply List.ext_getElem?
 intro k
 rcases Nat.lt_or_ge k w.heap.size with h|h
 ·rw[List.getElem?_take,if_pos h,Array.getElem?_toList,Array.getElem?_toList]
  exact hb.block k h
 ·rw[List.getElem?_take,if_neg (by omega),List.getElem?_eq_none (by rw[Array.length_toList];exact h)]
theorem below_grow {w w':World} (hb:Below w.heap.size w w') (hd:w.drawn<=w'.drawn):∃q os,w'=Sort.grow (w.drewN q) os:=by
 refine⟨w'.drawn-w.drawn,(w'.heap.toList.drop w.heap.size).toArray,?_⟩
 have h1:=qX hb
 obtain⟨heap,tape,drawn,os,output⟩:=w'
 have h2:=hb.os
 have h3:=hb.tape
 have h4:=hb.output
 simp only at h1 h2 h3 h4 hd ⊢
 unfold Sort.grow World.drewN
 simp only
 rw[←h1,←h2,←h3,←h4,show w.drawn+(drawn-w.drawn)=drawn by omega]
theorem sW {P:Program} {f:FuncId} {args:Array Value} {w:World} {v:Value} (h:Calls P f args w λe w'=>e=.returned v/\Below w.heap.size w w') :
  Calls P f args w λe w'=>e=.returned v/\∃q os,w'=Sort.grow (w.drewN q) os:=
 (Dr.calls_le h λ_ _ x=>⟨v,x.1⟩).mono λ_ _ ⟨⟨h1,h2⟩,h3⟩=>⟨h1,below_grow h2 h3⟩
open Fm Tx Om Mp
theorem xP (F:Array Value) (old rest:List Value) (h:old.length=F.size):Sort.putCells id 0 F (old++rest).toArray=(F.toList++rest).toArray:=by
 apply Array.ext_getElem?
 intro k
 unfold Sort.putCells
 simp only[Array.getElem?_mapIdx,List.getElem?_toArray,Nat.zero_le,true_and,Nat.zero_add,Nat.sub_zero,id]
 by_cases hk:k<F.size
 ·rw[List.getElem?_append_left (by omega),List.getElem?_append_left (by simpa using hk),List.getElem?_eq_getElem (by omega),Option.map_some,if_pos hk,getElem!_pos F k hk,Array.getElem?_toList,Array.getElem?_eq_getElem hk]
 ·rw[List.getElem?_append_right (by omega),List.getElem?_append_right (by simpa using hk),h,Array.length_toList]
  simp[hk]
section
variable {α:Type} [Inhabited α] {enc:α->Value}
theorem Co (enc:α->Value) (D:Array α) (c:Array Value):Sort.putCells enc 0 D c=Sort.putCells id 0 (D.map enc) c:=by
 unfold Sort.putCells
 congr 1
 funext k x
 simp only[Array.size_map,id]
 split
 ·rename_i h
  rw[getElem!_pos D _ (by omega),getElem!_pos (D.map enc) _ (by simp;omega),Array.getElem_map]
 ·rfl
theorem ua {w w':World} {g off:Nat} {D:Array α} {cur:Array Value} {T:TypeId} {fr:Nat × Nat} (h:w.heap[g]?=some (.cells cur T fr)) (S:SW enc w g off D w') {e:TypeId} (he:T≠e):KeepT e w w':=λk c f x=>by
 obtain⟨n,os,rfl⟩:=S
 have hk:k<w.heap.size:=(Array.getElem?_eq_some_iff.1 x).1
 unfold sortWorld Sort.grow Sort.putRow Sort.mapBlock Sort.ahead
 simp only[Array.getElem?_append,Array.size_modify]
 rw[if_pos hk,Array.getElem?_modify]
 split
 ·rename_i e1
  subst e1
  rw[h]at x
  injection x with x
  injection x with _ e2 _
  exact absurd e2 he
 ·exact x
theorem rE {base:Nat} {w w':World} {g off:Nat} {D:Array α} (hb:base<=g) (hw:base<=w.heap.size) (S:SW enc w g off D w'):Below base w w':=by
 obtain⟨n,os,rfl⟩:=S
 unfold sortWorld Sort.grow Sort.putRow Sort.mapBlock Sort.ahead
 refine⟨rfl,rfl,rfl,by simp,λk hk=>?_⟩
 have hne:g≠k:=by omega
 simp only[Array.getElem?_append,Array.size_modify]
 rw[if_pos (by omega),Array.getElem?_modify,if_neg hne]
theorem bI.sw {g:Nat} {d D:Array α} {rest:List Value} {w w':World} (h:bI g (d.toList.map enc) rest w) (hs:D.size=d.size) (S:SW enc w g 0 D w'):bI g (D.toList.map enc) rest w':=by
 obtain⟨n,os,rfl⟩:=S
 have hlt:=h.lt
 unfold bI at h ⊢
 unfold sortWorld Sort.grow Sort.putRow Sort.mapBlock Sort.ahead
 simp only[Array.getElem?_append,Array.size_modify]
 rw[if_pos hlt,Array.getElem?_modify,if_pos rfl,h]
 simp only[Option.map_some,Sort.onCells]
 rw[Co,xP _ _ _ (by simp[hs]),Array.toList_map]
theorem bI.holds {g:Nat} {d:Array α} {rest:List Value} {w:World} (h:bI g (d.toList.map enc) rest w):Sort.Holds enc w g 0 d:=λj hj=>by
 refine⟨?_,h.frozen _⟩
 rw[Nat.zero_add]
 refine h.cell ?_
 rw[List.getElem?_map,Array.getElem?_toList,Array.getElem?_eq_getElem hj,getElem!_pos _ j hj]
 rfl
end
abbrev SR (base:Nat) (w:World) (nv:Nat):={p:Value × List Tm // OwnRow base w [p.1] p.2/\bD p.2/\p.2.length=nv}
section
variable {base nv:Nat} {w:World}
def encR (x:SR base w nv):Value:=x.1.1
def cfR (ks:List (Nat × Bool)) (x y:SR base w nv):Int:=au ks x.1.2 y.1.2
theorem ltR (ks:List (Nat × Bool)) (x y:SR base w nv):ltOf (cfR ks) x y=eA ks x.1.2 y.1.2:=rfl
theorem DL [Inhabited (SR base w nv)] (ks:List (Nat × Bool)):Sort.SWO (ltOf (cfR (base:=base) (w:=w) (nv:=nv) ks)) where
 irrefl:=λx=>(qa ks).irrefl x.1.2
 trans:=λx y z=>(qa ks).trans x.1.2 y.1.2 z.1.2
 ntrans:=λx y z=>(qa ks).ntrans x.1.2 y.1.2 z.1.2
theorem xj:∀{rows:List (List Tm)} {xs:List Value},All 1 (OwnRow base w) xs rows->(∀r∈rows,bD r)->(∀r∈rows,r.length=nv)->∃d:List (SR base w nv),d.map (·.1.1)=xs/\d.map (·.1.2)=rows
 | [],xs,h,_,_=>by
  have hx:xs=[]:=h
  exact⟨[],hx.symm,rfl⟩
 | r::rows,xs,h,hz,hw=>by
  obtain⟨cs,ys,rfl,hc,ho,ht⟩:=h
  obtain⟨d,h1,h2⟩:=xj ht (λq hq=>hz q (by simp[hq])) (λq hq=>hw q (by simp[hq]))
  match cs,hc with
  | [v],_=>exact⟨⟨(v,r),ho,hz r (by simp),hw r (by simp)⟩::d,by simp[h1],by simp[h2]⟩
theorem Aw (d:List (SR base w nv)):All 1 (OwnRow base w) (d.map (·.1.1)) (d.map (·.1.2)):=by
 induction d with
 | nil=>rfl
 | cons x d ih=>exact⟨[x.1.1],d.map (·.1.1),rfl,rfl,x.2.1,ih⟩
theorem uS [Inhabited (SR base w nv)] (ks:List (Nat × Bool)) (d:List (SR base w nv)) (D:Array (SR base w nv)) (hp:Sort.PermIn 0 d.length d.toArray D) (hs:Sort.SortedIn (ltOf (cfR ks)) 0 d.length D):D.toList.map (·.1.2)=dS ks (d.map (·.1.2)):=by
 obtain⟨h1,_,h3⟩:=hp
 have hD:D.size=d.length:=by simpa using h1
 refine fP ?_ ?_
 ·rw[←hD]at h3
  have e1:(D.extract 0 D.size).toList=D.toList:=by simp
  have e2:(d.toArray.extract 0 D.size).toList=d:=by simp[hD]
  rw[e1,e2]at h3
  exact h3.map _
 ·rw[List.pairwise_map,List.pairwise_iff_getElem]
  intro i j hi hj hij
  have:=hs i j (by omega) hij (by simpa[hD] using hj)
  rw[ltR,getElem!_pos D i (by simpa using hi),getElem!_pos D j (by simpa using hj)]at this
  simpa using this
end
theorem xk (W0:World) (hC:dJ W0) (ps:List Int) (keys:List Ky) (pb kb wb nv np cp co cap n g:Nat) (Ap Ao:Option Addr) (xs rest:List Value) (cur:Array Value) (rows:List (List Tm)) (w:World) (hB:Below W0.heap.size W0 w) (hg:W0.heap.size<=g) (hV:bI g xs rest w) (hA:All 1 (OwnRow W0.heap.size w) xs rows) (hn:rows.length=n) (h0:0<n) (hl:n<=1000000)
  (hz:∀r∈rows,bD r) (hw:∀r∈rows,r.length=nv) (hps:ps.length=np) (hks:keys.length=np) (hlp:np<=1000000) (hpl:∀p∈ps,0<=p/\p<nv)
  (hpb:w.heap[pb]?=some (Obj.cells #[.slice Ap np cp] 58 (0,0))) (hkb:w.heap[kb]?=some (Obj.cells #[.pointer (some ⟨wb,0,none⟩)] 79 (0,0))) (hwb:w.heap[wb]?=some (Obj.cells cur 109 (0,0))) (h7:cur[7]?=some (.slice Ao np co)) (hP:w.ownsRow W0.heap.size 3 1 (.slice Ap np cp) np (ps.map (Value.int .i64))) (hky:eF W0 Ao keys) :
  Calls Tryz.prog 77 #[.slice (some ⟨g,0,none⟩) n cap,.func (.func 78) #[] #[.pointer (some ⟨pb,0,none⟩),.pointer (some ⟨kb,0,none⟩)]] w λe w'=>e=.returned (.tuple #[])/\Below W0.heap.size W0 w'/\(∀e,69≠e->KeepT e w w')/\∃ys,bI g ys rest w'/\All 1 (OwnRow W0.heap.size w') ys (dS (aQ ps keys) rows):=by
 have eg:∀args w,(callFunc 78 args).run Tryz.prog w=.ok (.enter 78 args) w:=enters_of Tryz.func78 (by kernel_rfl) rfl
 obtain⟨d,rfl,rfl⟩:=xj hA hz hw
 have hdn:d.length=n:=by simpa using hn
 have hne:0<d.length:=by omega
 letI:Inhabited (SR W0.heap.size w nv):=⟨d[0]⟩
 have hV':bI g (d.toArray.toList.map encR) rest w:=hV
 have hO:OneCell (encR (base:=W0.heap.size) (w:=w) (nv:=nv)):=λx=>by
  obtain⟨v,h1,h2⟩:=x.2.1
  injection h1 with h1
  obtain⟨A,c,rfl,_⟩:=own_slice h2
  show x.1.1.oneCell'=true
  rw[h1];rfl
 have hcmp:CmpLays1 Tryz.prog 78 #[.pointer (some ⟨pb,0,none⟩),.pointer (some ⟨kb,0,none⟩)] encR (cfR (base:=W0.heap.size) (w:=w) (nv:=nv) (aQ ps keys)) g 0 d.toArray.size w:=by
  intro m os dk hs x y
  have S:SW encR w g 0 dk (sortWorld encR w g 0 m dk os):=⟨m,os,rfl⟩
  generalize sortWorld encR w g 0 m dk os=W at S ⊢
  have hb:Below W0.heap.size W0 W:=hB.trans (rE hg hB.size S)
  have hk:∀e,69≠e->KeepT e w W:=λe he=>ua hV S he
  obtain⟨A,c,e1,_,hx⟩:=(x.2.1.keep (hk _ (by decide))).rd
  obtain⟨B,c2,e2,_,hy⟩:=(y.2.1.keep (hk _ (by decide))).rd
  injection e1 with e1 _
  injection e2 with e2 _
  have hxn:=x.2.2.2
  have hyn:=y.2.2.2
  rw[hxn]at e1
  rw[hyn]at e2
  show Calls _ _ (#[x.1.1,y.1.1]++_) W _
  rw[e1,e2]
  have k1:=hk _ (by decide) _ _ _ hpb
  have k2:=hk _ (by decide) _ _ _ hkb
  have k3:=hk _ (by decide) _ _ _ hwb
  obtain⟨A3,c3,e3,_,hr3⟩:=own_slice (own_keep hP (hk _ (by decide)))
  injection e3 with e3 _ _
  subst e3
  exact sW (Cx x.1.2 y.1.2 ps keys pb kb wb nv nv c c2 np cp np co A B Ap Ao W hxn hyn hps hks rfl hlp (λp hp=>⟨(hpl p hp).1,(hpl p hp).2,(hpl p hp).2⟩) (hC.step hb) hx hy x.2.2.1 y.2.2.1
   (by rw[World.cell?,k1];rfl) (by rw[World.cell?,k2];rfl) (by rw[World.cell?,k3];exact h7) hr3 (RdL.mono hky hb (λ_ _ _ h=>h)))
 have H:pQ encR (cfR (base:=W0.heap.size) (w:=w) (nv:=nv) (aQ ps keys)) 78 #[.pointer (some ⟨pb,0,none⟩),.pointer (some ⟨kb,0,none⟩)] g 0 d.toArray w:=
  {hO:=DL _,eg:=eg,hcmp:=hcmp,R:=⟨hO,hV'.holds,hV.lt⟩,hsz:=by simp;omega}
 refine(rU encR _ _ _ g 0 cap n d.toArray w H (by simpa using hdn)).mono ?_
 rintro e w' ⟨rfl,D,S,hp,hs⟩
 have hk:∀e,69≠e->KeepT e w w':=λe he=>ua hV S he
 rw[←hdn]at hp hs
 refine⟨rfl,hB.trans (rE hg hB.size S),hk,D.toList.map (·.1.1),hV'.sw hp.1 S,?_⟩
 rw[←uS _ d D hp hs]
 exact(Aw D.toList).mono λ_ _ _ h=>h.keep (hk _ (by decide))
theorem qh {o:Option Tm} (h:o=none):fU o=.tuple #[.agg #[.int .i64 0,.string ⟨#[]⟩,.string ⟨#[]⟩,.string ⟨#[]⟩],.bool false]:=by subst h;rfl
theorem iU (vars:List ByteArray) (row:List Tm) (A1 A2 A:Option Addr) (c1 c2 m c:Nat) (k:Int) (s:ByteArray) (t:Tm) (w:World) (hv:vars.length<=281474976710656) (hrl:row.length<=281474976710656) (hm:m<=281474976710656)
  (hr1:Rd w A1 (vars.map Value.string)) (hr2:RdTs w A2 row) :
  Calls Tryz.prog 150 #[.agg #[.slice A1 vars.length c1,.slice A2 row.length c2],.agg #[.int .i64 k,.string s,.int .i64 t.k,.string t.x,.string t.l,.string t.y,.slice A m c]] w
   λe w'=>e=.returned (fU (cE vars row k s t (m == 0)))/\Below w.heap.size w w':=by
 have hI:=λW h=>z8 vars s A1 c1 W hv h
 have hi:=dN vars s
 unfold cE
 generalize Lib.idxOfS vars s=i at *
 obtain⟨v,hvv⟩:∃v,fU (if (m == 0)=true then (if (k == 2)=true then some t else if (k == 1)=true then (if i<0 then none else row[i.toNat]?) else none) else none)=v:=⟨_,rfl⟩
 rw[hvv]
 have HV:=Lib.hid hvv
 clear hvv
 have hv':(vars.length:Int)<=281474976710656:=by omega
 have hrl':(row.length:Int)<=281474976710656:=by omega
 have hm':(m:Int)<=281474976710656:=by omega
 go_enter Tryz.func150,Tryz.ntmps150
 go_wp2_with fail
 refine(hI _ (hr1.later blw)).mono ?_
 rintro e w1 ⟨rfl,rfl⟩
 by_cases hm0:0<(m:Int)
 ·have hb:(m == 0)=false:=by simp;omega
  have HB:=Lib.hid hb
  clear hb hr1 hI
  go_wp2
  exact bodyPost_ret (v:=Value.tuple #[.agg #[.int .i64 0,.string ⟨#[]⟩,.string ⟨#[]⟩,.string ⟨#[]⟩],.bool false]) (by simp[results,Tryz.results150,go_sem]) rfl ⟨by rw[←HV.out,HB.out];rfl,blw⟩
 ·have hb:(m == 0)=true:=by simp;omega
  have HB:=Lib.hid hb
  clear hb hI
  by_cases h2:k=2
  ·subst h2
   go_wp2
   exact bodyPost_ret (v:=Value.tuple #[.agg #[.int .i64 t.k,.string t.x,.string t.l,.string t.y],.bool true]) (by simp[results,Tryz.results150,go_sem]) rfl ⟨by rw[←HV.out,HB.out];rfl,blw⟩
  ·have h2':(k == 2)=false:=by simpa using h2
   by_cases h1:k=1
   ·subst h1
    by_cases h0:0<=i
    ·by_cases hlt:i<(row.length:Int)
     ·obtain⟨n,rfl⟩:∃n:Nat,i=n:=⟨i.toNat,by omega⟩
      obtain⟨u,hu⟩:∃u,row[n]?=some u:=⟨_,List.getElem?_eq_getElem (by omega)⟩
      obtain⟨g,o,rfl,d0,d1,d2,d3⟩:=(RdTs.later hr2 (w':=((w.alloc (.cells #[.slice A1 vars.length c1,.slice A2 row.length c2] 156)).alloc (.cells #[.int .i64 1,.string s,.int .i64 t.k,.string t.x,.string t.l,.string t.y,.slice A m c] 67)).alloc (.cells #[.int .i64 0,.string ⟨#[]⟩,.string ⟨#[]⟩,.string ⟨#[]⟩] 65)) blw).at4 hu
      clear hr1 hr2
      have Hu:=Lib.hid hu
      have hn0:¬ ((n:Int)<0):=by omega
      clear hu
      go_wp2
      exact bodyPost_ret (v:=Value.tuple #[.agg #[.int .i64 u.k,.string u.x,.string u.l,.string u.y],.bool true]) (by simp[results,Tryz.results150,go_sem]) rfl ⟨by rw[←HV.out,HB.out];simp[fU,tmV,Hu.out];rw[if_neg (by omega)];exact⟨rfl,rfl,rfl,rfl⟩,blw⟩
     ·go_wp2
      exact bodyPost_ret (v:=Value.tuple #[.agg #[.int .i64 0,.string ⟨#[]⟩,.string ⟨#[]⟩,.string ⟨#[]⟩],.bool false]) (by simp[results,Tryz.results150,go_sem]) rfl ⟨by rw[←HV.out,HB.out,qh (by simp;omega)],blw⟩
    ·go_wp2
     exact bodyPost_ret (v:=Value.tuple #[.agg #[.int .i64 0,.string ⟨#[]⟩,.string ⟨#[]⟩,.string ⟨#[]⟩],.bool false]) (by simp[results,Tryz.results150,go_sem]) rfl ⟨by rw[←HV.out,HB.out,qh (by simp;omega)],blw⟩
   ·have h1':(k == 1)=false:=by simpa using h1
    go_wp2
    exact bodyPost_ret (v:=Value.tuple #[.agg #[.int .i64 0,.string ⟨#[]⟩,.string ⟨#[]⟩,.string ⟨#[]⟩],.bool false]) (by simp[results,Tryz.results150,go_sem]) rfl ⟨by rw[←HV.out,HB.out];simp[fU,tmV,zTm,h2,h1],blw⟩
open Go.Maps Go.ChangeMaps
def cM (j:Value) (k:Int):Value:=
 if k == 1 || k == 2 then .func (.func 120) #[j] #[] else if k == 3 then .func (.func 121) #[j] #[] else if k == 4 || k == 5 then .func (.func 122) #[j] #[]
 else if oe k then .func (.func 123) #[j] #[] else if isKind k then .func (.func 124) #[j] #[] else .nilFunc
def zp (j:Value):List (Int × Value):=[1,2,3,4,5,6,7,8,9,10,11,12,13,14].map λk=>(k,cM j k)
theorem m6 (j:Value) (k:Int):(((zp j).find? (λp=>p.1 == k)).map (·.2)).getD .nilFunc=cM j k:=by
 unfold zp
 by_cases h:1<=k/\k<=14
 ·obtain⟨n,rfl⟩:∃n:Nat,k=n:=⟨k.toNat,by omega⟩
  have hn:n<15:=by omega
  have hn0:0<n:=by omega
  clear h
  revert n
  intro n hn hn0
  match n,hn,hn0 with
  | 1,_,_=>rfl
  | 2,_,_=>rfl
  | 3,_,_=>rfl
  | 4,_,_=>rfl
  | 5,_,_=>rfl
  | 6,_,_=>rfl
  | 7,_,_=>rfl
  | 8,_,_=>rfl
  | 9,_,_=>rfl
  | 10,_,_=>rfl
  | 11,_,_=>rfl
  | 12,_,_=>rfl
  | 13,_,_=>rfl
  | 14,_,_=>rfl
 ·have hne:List.find? (λp:Int × Value=>p.1 == k) ([1,2,3,4,5,6,7,8,9,10,11,12,13,14].map λk=>(k,cM j k))=none:=by
   rw[List.find?_eq_none]
   intro p hp
   simp only[List.map_cons,List.map_nil,List.mem_cons,List.not_mem_nil,or_false]at hp
   simp only[beq_iff_eq]
   rcases hp with rfl|rfl|rfl|rfl|rfl|rfl|rfl|rfl|rfl|rfl|rfl|rfl|rfl|rfl<;>simp<;>omega
  rw[hne]
  unfold cM oe isKind
  have h1:(k == 1)=false:=by simp;omega
  have h2:(k == 2)=false:=by simp;omega
  have h3:(k == 3)=false:=by simp;omega
  have h4:(k == 4)=false:=by simp;omega
  have h5:(k == 5)=false:=by simp;omega
  have h6:(decide (6<=k) && decide (k<=11))=false:=by simp;omega
  have h7:(decide (12<=k) && decide (k<=14))=false:=by simp;omega
  simp[h1,h2,h3,h4,h5,h6,h7]
structure cZ (w:World) (b:Nat) (vars:List ByteArray) (row:List Tm):Prop where
 ex:∃(A1 A2:Option Addr) (c1 c2 r:Nat),w.cell? ⟨b,0,none⟩=some (.slice A1 vars.length c1)/\w.cell? ⟨b,1,none⟩=some (.slice A2 row.length c2)/\w.cell? ⟨b,2,none⟩=some (.map (some r)) /\
  ed w .i64 r (zp (.pointer (some ⟨b,0,none⟩)))/\Rd w A1 (vars.map Value.string)/\RdTs w A2 row
theorem cZ.later {w w':World} {b:Nat} {vars:List ByteArray} {row:List Tm} (h:cZ w b vars row) (hb:Below w.heap.size w w'):cZ w' b vars row:=by
 obtain⟨A1,A2,c1,c2,r,h0,h1,h2,h3,h4,h5⟩:=h.ex
 have key:∀{p:Addr} {u:Value},w.cell? p=some u->w'.cell? p=some u:=λh=>by rw[hb.cell (ae h)];exact h
 exact⟨A1,A2,c1,c2,r,key h0,key h1,key h2,h3.later hb,h4.later hb,h5.later hb⟩
theorem gh (vars:List ByteArray) (row:List Tm) (b:Nat) (k:Int) (s:ByteArray) (t:Tm) (A:Option Addr) (m c:Nat) (w:World) (hj:cZ w b vars row) (F:FuncId) (hd:cM (.pointer (some ⟨b,0,none⟩)) k=.func (.func F) #[.pointer (some ⟨b,0,none⟩)] #[])
  (eg:∀args W,(callFunc F args).run Tryz.prog W=.ok (.enter F args) W) (v:Int)
  (hF:∀W,Below w.heap.size w W->Calls Tryz.prog F #[.pointer (some ⟨b,0,none⟩),.agg #[.int .i64 k,.string s,.int .i64 t.k,.string t.x,.string t.l,.string t.y,.slice A m c]] W λe w'=>e=.returned (.int .i64 v)/\Below W.heap.size W w') :
  Calls Tryz.prog 96 #[.pointer (some ⟨b,0,none⟩),.agg #[.int .i64 k,.string s,.int .i64 t.k,.string t.x,.string t.l,.string t.y,.slice A m c]] w λe w'=>e=.returned (.int .i64 v)/\Below w.heap.size w w':=by
 obtain⟨A1,A2,c1,c2,r,h0,h1,h2,h3,h4,h5⟩:=hj.ex
 have hne:∀(g:FuncId) (v:Value) (W:World),(binOp .neq 130 (.func (.func g) #[v] #[]) .nilFunc).run Tryz.prog W=.ok (.bool true) W:=λg v W=>by kernel_rfl
 go_enter Tryz.func96,Tryz.ntmps96
 go_wp2
 obtain⟨W,hW⟩:∃W:World,w.alloc (.cells #[.int .i64 k,.string s,.int .i64 t.k,.string t.x,.string t.l,.string t.y,.slice A m c] 67)=W:=⟨_,rfl⟩
 have hB0:Below w.heap.size w W:=by rw[←hW];exact blw
 have hbx:∀(i:Nat) v,#[Value.int .i64 k,.string s,.int .i64 t.k,.string t.x,.string t.l,.string t.y,.slice A m c][i]?=some v->W.cell? ⟨w.heap.size,i,none⟩=some v:=by
  intro i v hv;rw[←hW,World.cell?,heap_alloc_new];exact hv
 have key:∀{p:Addr} {u:Value},w.cell? p=some u->W.cell? p=some u:=λh=>by rw[hB0.cell (ae h)];exact h
 have g2:=λd os=>cell_regrown (key h2) d os
 have gk0:=λd os=>cell_regrown (hbx 0 _ rfl) d os
 have gk1:=λd os=>cell_regrown (hbx 1 _ rfl) d os
 have gk2:=λd os=>cell_regrown (hbx 2 _ rfl) d os
 have gk3:=λd os=>cell_regrown (hbx 3 _ rfl) d os
 have gk4:=λd os=>cell_regrown (hbx 4 _ rfl) d os
 have gk5:=λd os=>cell_regrown (hbx 5 _ rfl) d os
 have gk6:=λd os=>cell_regrown (hbx 6 _ rfl) d os
 have hl:∀d os,(Instr.lookup 157 (.map (some r)) (.int .i64 k) false).run Tryz.prog (Sort.grow (redrawn W d) os)=.ok (cM (.pointer (some ⟨b,0,none⟩)) k) (Sort.grow (redrawn W d) os):=λd os=>by
  have h:=gO (P:=Tryz.prog) Tryz.underlying157 Tryz.underlying62 (z:=.nilFunc) (w:=Sort.grow (redrawn W d) os) (by kernel_rfl) ((h3.later hB0).later (below_regrown W d os)) k
  rw[m6]at h
  exact h
 simp only[hW]
 have HB0:=Lib.hid hB0
 clear hbx key hW hB0 h0 h1 h2 h3 h4 h5
 rw[hd]at hl
 refine wrq ?_;(repeat (any_goals (go_big_quiet_step ((fail)))));all_goals (refine wqn ?_;intro d9 os9)
 have Hl:=Lib.hid hl
 clear hl
 have hB1:=aa HB0.out (below_regrown W d9 os9)
 go_wp2_with (go_at_fn F;refine(hF _ hB1).mono ?_;rintro e w2 ⟨rfl,hB2⟩)
 go_ret
 exact⟨rfl,aa hB1 hB2⟩
theorem sO (vars:List ByteArray) (row:List Tm) (b:Nat) (k:Int) (s:ByteArray) (t:Tm) (A:Option Addr) (m c:Nat) (w:World) (hj:cZ w b vars row) (hd:cM (.pointer (some ⟨b,0,none⟩)) k=.nilFunc) :
  Calls Tryz.prog 96 #[.pointer (some ⟨b,0,none⟩),.agg #[.int .i64 k,.string s,.int .i64 t.k,.string t.x,.string t.l,.string t.y,.slice A m c]] w λe w'=>e=.returned (.int .i64 3)/\Below w.heap.size w w':=by
 obtain⟨A1,A2,c1,c2,r,h0,h1,h2,h3,h4,h5⟩:=hj.ex
 have hne:∀(W:World),(binOp .neq 130 .nilFunc .nilFunc).run Tryz.prog W=.ok (.bool false) W:=λW=>by kernel_rfl
 go_enter Tryz.func96,Tryz.ntmps96
 go_wp2
 obtain⟨W,hW⟩:∃W:World,w.alloc (.cells #[.int .i64 k,.string s,.int .i64 t.k,.string t.x,.string t.l,.string t.y,.slice A m c] 67)=W:=⟨_,rfl⟩
 have hB0:Below w.heap.size w W:=by rw[←hW];exact blw
 have hbx:∀(i:Nat) v,#[Value.int .i64 k,.string s,.int .i64 t.k,.string t.x,.string t.l,.string t.y,.slice A m c][i]?=some v->W.cell? ⟨w.heap.size,i,none⟩=some v:=by
  intro i v hv;rw[←hW,World.cell?,heap_alloc_new];exact hv
 have key:∀{p:Addr} {u:Value},w.cell? p=some u->W.cell? p=some u:=λh=>by rw[hB0.cell (ae h)];exact h
 have g2:=λd os=>cell_regrown (key h2) d os
 have gk0:=λd os=>cell_regrown (hbx 0 _ rfl) d os
 have gk1:=λd os=>cell_regrown (hbx 1 _ rfl) d os
 have gk2:=λd os=>cell_regrown (hbx 2 _ rfl) d os
 have gk3:=λd os=>cell_regrown (hbx 3 _ rfl) d os
 have gk4:=λd os=>cell_regrown (hbx 4 _ rfl) d os
 have gk5:=λd os=>cell_regrown (hbx 5 _ rfl) d os
 have gk6:=λd os=>cell_regrown (hbx 6 _ rfl) d os
 have hl:∀d os,(Instr.lookup 157 (.map (some r)) (.int .i64 k) false).run Tryz.prog (Sort.grow (redrawn W d) os)=.ok (cM (.pointer (some ⟨b,0,none⟩)) k) (Sort.grow (redrawn W d) os):=λd os=>by
  have h:=gO (P:=Tryz.prog) Tryz.underlying157 Tryz.underlying62 (z:=.nilFunc) (w:=Sort.grow (redrawn W d) os) (by kernel_rfl) ((h3.later hB0).later (below_regrown W d os)) k
  rw[m6]at h
  exact h
 simp only[hW]
 have HB0:=Lib.hid hB0
 clear hbx key hW hB0 h0 h1 h2 h3 h4 h5
 rw[hd]at hl
 refine wrq ?_;(repeat (any_goals (go_big_quiet_step ((fail)))));all_goals (refine wqn ?_;intro d9 os9)
 have Hl:=Lib.hid hl
 clear hl
 have hB1:=aa HB0.out (below_regrown W d9 os9)
 go_wp2
 go_ret
 exact⟨rfl,hB1⟩
theorem uE:(Tryz.prog.info? 129).map (λi=>(i.zero,i.size,i.bytes))=some (some (.int .i64 0),1,8):=by kernel_rfl
theorem dG (q:Bool) (w:World) :
  Calls Tryz.prog 157 #[.bool q] w λe w'=>e=.returned (.int .i64 (bC q))/\w=w':=by
 cases q<;>(go_enter Tryz.func157,Tryz.ntmps157;go_wp2;go_ret;exact⟨rfl,rfl⟩)
theorem cK (q:Bool) (w:World) :
  Calls Tryz.prog 226 #[.bool q] w λe w'=>e=.returned (.int .i64 (wt q))/\w=w':=by
 cases q<;>(go_enter Tryz.func226,Tryz.ntmps226;go_wp2;go_ret;exact⟨rfl,rfl⟩)
theorem jy (t:Int) (w:World) :
  Calls Tryz.prog 152 #[.int .i64 t] w λe w'=>e=.returned (.int .i64 (dU t))/\w=w':=by
 go_enter Tryz.func152,Tryz.ntmps152
 go_wp2
 all_goals (go_ret;exact⟨by simp_all[dU],rfl⟩)
theorem lX (k:Int) (x l y ty:ByteArray) (w:World) :
  Calls Tryz.prog 184 #[.agg #[.int .i64 k,.string x,.string l,.string y],.string ty] w λe w'=>e=.returned (.bool (aM ⟨k,x,l,y⟩ ty))/\Below w.heap.size w w':=by
 go_enter Tryz.func184,Tryz.ntmps184
 go_wp2
 all_goals (go_ret;exact⟨by simp_all[aM],blw⟩)
theorem lY (k:Int) (x l y:ByteArray) (w:World) :
  Calls Tryz.prog 158 #[.agg #[.int .i64 k,.string x,.string l,.string y]] w λe w'=>e=.returned (.bool (iR ⟨k,x,l,y⟩))/\Below w.heap.size w w':=by
 go_enter Tryz.func158,Tryz.ntmps158
 go_wp2
 all_goals (go_ret;exact⟨by simp_all[iR],blw⟩)
theorem re (k:Int) (x l y:ByteArray) (w:World) :
  Calls Tryz.prog 227 #[.agg #[.int .i64 k,.string x,.string l,.string y]] w λe w'=>e=.returned (.bool (ba ⟨k,x,l,y⟩))/\Below w.heap.size w w':=by
 go_enter Tryz.func227,Tryz.ntmps227
 go_wp2
 all_goals (go_ret;exact⟨by simp_all[ba],blw⟩)
theorem toList_mk (l:List UInt8):(⟨l.toArray⟩:ByteArray).toList=l:=by simp[ByteArray.toList_eq]
theorem gE {w:World} {cs:Array Value} {ty:TypeId} (j:Nat) (v:Value) (h:cs[j]?=some v) (d:Nat) (os:Array Obj) :
  (Sort.grow (redrawn (w.alloc (.cells cs ty)) d) os).cell? ⟨w.heap.size,j,none⟩=some v:=by
 refine cell_regrown ?_ d os
 rw[World.cell?,heap_alloc_new]
 exact h
theorem po (k:Int) (x l y:ByteArray) (w:World) :
  Calls Tryz.prog 185 #[.agg #[.int .i64 k,.string x,.string l,.string y]] w λe w'=>e=.returned (.tuple #[.bool (eG ⟨k,x,l,y⟩),.bool (bH ⟨k,x,l,y⟩)])/\Below w.heap.size w w':=by
 have ht:=λW=>lX k x l y aK W
 have hy:eG ⟨k,x,l,y⟩=(x.toList == [116,114,117,101] || x.toList == [49]):=rfl
 have hb:bH ⟨k,x,l,y⟩=(aM ⟨k,x,l,y⟩ aK && (eG ⟨k,x,l,y⟩ || x.toList == [102,97,108,115,101] || x.toList == [48])):=rfl
 rw[hb,hy]
 clear hb hy
 generalize aM ⟨k,x,l,y⟩ aK=q at ht ⊢
 unfold aK at ht
 have g0:=λd os=>gE (w:=w) (cs:=#[.int .i64 k,.string x,.string l,.string y]) (ty:=65) 0 _ rfl d os
 have g1:=λd os=>gE (w:=w) (cs:=#[.int .i64 k,.string x,.string l,.string y]) (ty:=65) 1 _ rfl d os
 have g2:=λd os=>gE (w:=w) (cs:=#[.int .i64 k,.string x,.string l,.string y]) (ty:=65) 2 _ rfl d os
 have g3:=λd os=>gE (w:=w) (cs:=#[.int .i64 k,.string x,.string l,.string y]) (ty:=65) 3 _ rfl d os
 go_enter Tryz.func185,Tryz.ntmps185
 cases h1:(x.toList == [116,114,117,101])
 ·cases h2:(x.toList == [49])
  ·cases q
   ·go_wp2
    refine wrq ?_;(repeat (any_goals (go_big_quiet_step ((go_at_call 184;exact Calls.regrown_of (ht _))))));all_goals (refine wqn ?_;intro d9 os9)
    go_wp2
    go_ret2
    exact⟨by simp,blw⟩
   ·cases h3:(x.toList == [102,97,108,115,101])
    ·go_wp2
     refine wrq ?_;(repeat (any_goals (go_big_quiet_step ((go_at_call 184;exact Calls.regrown_of (ht _))))));all_goals (refine wqn ?_;intro d9 os9)
     go_wp2
     go_ret2
     exact⟨by simp,blw⟩
    ·go_wp2
     refine wrq ?_;(repeat (any_goals (go_big_quiet_step ((go_at_call 184;exact Calls.regrown_of (ht _))))));all_goals (refine wqn ?_;intro d9 os9)
     go_wp2
     go_ret2
     exact⟨by simp,blw⟩
  ·cases q
   all_goals
    go_wp2
    refine wrq ?_;(repeat (any_goals (go_big_quiet_step ((go_at_call 184;exact Calls.regrown_of (ht _))))));all_goals (refine wqn ?_;intro d9 os9)
    go_wp2
    go_ret2
    exact⟨by simp,blw⟩
 ·cases q
  all_goals
   go_wp2
   refine wrq ?_;(repeat (any_goals (go_big_quiet_step ((go_at_call 184;exact Calls.regrown_of (ht _))))));all_goals (refine wqn ?_;intro d9 os9)
   go_wp2
   go_ret2
   exact⟨by simp,blw⟩
theorem gT (p:UInt8->Bool):∀(l:List UInt8),l.dropWhile p=[]↔l.all p=true
 | []=>by simp
 | a::l=>by
  rw[List.dropWhile_cons]
  by_cases h:p a=true
  ·simp[h,gT p l]
  ·simp[h]
theorem kj (p:UInt8->Bool) (l:List UInt8):l.reverse.all p=l.all p:=by
 rw[Bool.eq_iff_iff];simp
theorem uG (l cs:List UInt8):(Lib.trimS l cs).isEmpty=l.all cs.contains:=by
 rw[Bool.eq_iff_iff,List.isEmpty_iff,Lib.trimS,Lib.trimLeftS,gT,Lib.trimRightS]
 show (l.reverse.dropWhile cs.contains).reverse.all cs.contains=true↔_
 rw[kj]
 have key:∀m:List UInt8,(m.dropWhile cs.contains).all cs.contains=true↔m.all cs.contains=true:=by
  intro m
  induction m with
  | nil=>simp
  | cons a m ih =>
   rw[List.dropWhile_cons]
   by_cases h:cs.contains a=true
   ·rw[if_pos h,ih,List.all_cons,h];simp
   ·rw[if_neg h]
 rw[key,kj]
theorem rN (s:ByteArray) (hs:s.size<=281474976710656):∃r:ByteArray,r.toList.isEmpty=s.toList.all iW.contains/\∀w,Calls Tryz.prog 219 #[.string s,.string ⟨#[48,49,50,51,52,53,54,55,56,57]⟩] w λe w'=>e=.returned (.string r)/\Below w.heap.size w w':=by
 refine⟨⟨(Lib.trimS s.data.toList iW).toArray⟩,?_,λw=>?_⟩
 ·rw[toList_mk,uG,ByteArray.toList_eq]
 ·exact Any.strings_Trim_laid pJ (by kernel_rfl) s ⟨#[48,49,50,51,52,53,54,55,56,57]⟩ w (by omega) (by decide) (ascii_of_all (by decide))
theorem uF (s:ByteArray) (w:World):Calls Tryz.prog 220 #[.string s,.string ⟨#[48]⟩] w λe w'=>e=.returned (.string ⟨(s.toList.dropWhile (· == 48)).toArray⟩)/\w=w':=by
 rw[ByteArray.toList_eq]
 exact(em s 48 (by decide) w).mono λ_ _ ⟨he,hw⟩=>⟨he,hw.symm⟩
theorem tw (s:ByteArray) (c:UInt8) (w:World):Calls Tryz.prog 218 #[.string s,.string ⟨#[c]⟩] w λe w'=>e=.returned (.string ⟨(Lib.trimPrefix s.toList [c]).toArray⟩)/\w=w':=by
 rw[ByteArray.toList_eq]
 exact(ff s ⟨#[c]⟩ w).mono λ_ _ ⟨he,hw⟩=>⟨he,hw.symm⟩
theorem nt (c:UInt8) (r:List UInt8):Lib.trimPrefix (c::r) [c]=r:=by
 simp[Lib.trimPrefix,Lib.hasPrefix,List.isPrefixOf]
theorem kO (c d:UInt8) (r:List UInt8) (h:c≠d):Lib.trimPrefix (d::r) [c]=d::r:=by
 simp[Lib.trimPrefix,Lib.hasPrefix,List.isPrefixOf,h]
theorem nu (c:UInt8):Lib.trimPrefix [] [c]=[]:=by
 simp[Lib.trimPrefix,Lib.hasPrefix,List.isPrefixOf]
theorem rV (x:List UInt8):∃(m:Bool) (r:List UInt8),jn x=ic m r /\
  ((m=true/\Lib.trimPrefix x [45]=r/\(r == x)=false)∨(m=false/\Lib.trimPrefix x [45]=x/\Lib.trimPrefix x [43]=r))/\r.length<=x.length:=by
 rcases x with _|⟨d,r⟩
 ·exact⟨false,[],rfl,.inr ⟨rfl,nu _,nu _⟩,by simp⟩
 ·by_cases h1:d=45
  ·subst h1
   refine⟨true,r,rfl,.inl ⟨rfl,nt _ _,?_⟩,by simp⟩
   rw[beq_eq_false_iff_ne]
   intro h
   have:=congrArg List.length h
   simp at this
  ·by_cases h2:d=43
   ·subst h2
    exact⟨false,r,rfl,.inr ⟨rfl,kO _ _ _ (by decide),nt _ _⟩,by simp⟩
   ·refine⟨false,d::r,?_,.inr ⟨rfl,kO _ _ _ (Ne.symm h1),kO _ _ _ (Ne.symm h2)⟩,by simp⟩
    unfold jn
    split
    ·rename_i h;injection h with h _;exact(h1 h).elim
    ·rename_i h;injection h with h _;exact(h2 h).elim
    ·rfl
def fq (o:Option (Bool × List UInt8)):Value:=.tuple #[.bool ((o.map (·.1)).getD false),.string ⟨((o.map (·.2)).getD []).toArray⟩,.bool o.isSome]
theorem ew (t:Tm):fq (lJ t)=.tuple #[.bool (cV t),.string ⟨(bu t).toArray⟩,.bool (bP t)]:=rfl
theorem p9 {m:Bool} {r:List UInt8} (h:r.isEmpty=true∨(r.all iW.contains)=false):fq (ic m r)=.tuple #[.bool false,.string ⟨#[]⟩,.bool false]:=by
 unfold ic
 rw[if_pos (by rcases h with h|h<;>simp[h])]
 rfl
theorem nV {m:Bool} {r:List UInt8} (h:r.isEmpty=false) (h2:(r.all iW.contains)=true) (h3:(r.dropWhile (· == 48)).isEmpty=true):fq (ic m r)=.tuple #[.bool false,.string ⟨#[48]⟩,.bool true]:=by
 unfold ic
 rw[if_neg (by simp only[h,h2];decide),if_pos h3]
 rfl
theorem qB {m:Bool} {r:List UInt8} (h:r.isEmpty=false) (h2:(r.all iW.contains)=true) (h3:(r.dropWhile (· == 48)).isEmpty=false):fq (ic m r)=.tuple #[.bool m,.string ⟨(r.dropWhile (· == 48)).toArray⟩,.bool true]:=by
 unfold ic
 rw[if_neg (by simp only[h,h2];decide),if_neg (by simp[h3])]
 rfl
theorem AV (x:ByteArray) (hs:x.size<=281474976710656):∃(m:Bool) (s rt z:ByteArray) (V:Value),fq (jn x.toList)=V /\
  ((m=true/\(∀W,Calls Tryz.prog 218 #[.string x,.string ⟨#[45]⟩] W λe w'=>e=.returned (.string s)/\W=w')/\(s.toList == x.toList)=false) ∨
  (m=false/\(∀W,Calls Tryz.prog 218 #[.string x,.string ⟨#[45]⟩] W λe w'=>e=.returned (.string x)/\W=w') /\
    (∀W,Calls Tryz.prog 218 #[.string x,.string ⟨#[43]⟩] W λe w'=>e=.returned (.string s)/\W=w'))) /\
  (∀W,Calls Tryz.prog 219 #[.string s,.string ⟨#[48,49,50,51,52,53,54,55,56,57]⟩] W λe w'=>e=.returned (.string rt)/\Below W.heap.size W w') /\
  (∀W,Calls Tryz.prog 220 #[.string s,.string ⟨#[48]⟩] W λe w'=>e=.returned (.string z)/\W=w') /\
  (s.toList.isEmpty=true∨rt.toList.isEmpty=false->V=.tuple #[.bool false,.string ⟨#[]⟩,.bool false]) /\
  (s.toList.isEmpty=false->rt.toList.isEmpty=true->z.toList.isEmpty=true->V=.tuple #[.bool false,.string ⟨#[48]⟩,.bool true]) /\
  (s.toList.isEmpty=false->rt.toList.isEmpty=true->z.toList.isEmpty=false->V=.tuple #[.bool m,.string z,.bool true]):=by
 have h1:=λW=>tw x 45 W
 have h2:=λW=>tw x 43 W
 obtain⟨m,r,hn,hm,hl⟩:=rV x.toList
 have hrs:(⟨r.toArray⟩:ByteArray).size<=281474976710656:=by
  show r.toArray.size<=_
  rw[List.size_toArray]
  have:x.toList.length=x.size:=by rw[ByteArray.toList_eq];exact ac x
  omega
 obtain⟨rt,hrt,hT⟩:=rN ⟨r.toArray⟩ hrs
 have hz:=λW=>uF ⟨r.toArray⟩ W
 simp only[toList_mk]at hrt hz
 have hx:(⟨x.toList.toArray⟩:ByteArray)=x:=by rw[ByteArray.toList_eq]
 refine⟨m,⟨r.toArray⟩,rt,⟨(r.dropWhile (· == 48)).toArray⟩,_,rfl,?_,hT,hz,?_,?_,?_⟩
 ·rcases hm with ⟨rfl,e1,e2⟩|⟨rfl,e1,e2⟩
  ·rw[e1]at h1
   exact .inl ⟨rfl,h1,by rw[toList_mk];exact e2⟩
  ·rw[e1,hx]at h1
   rw[e2]at h2
   exact .inr ⟨rfl,h1,h2⟩
 ·rw[toList_mk r,hrt,hn];exact p9
 ·rw[toList_mk r,toList_mk (r.dropWhile _),hrt,hn];exact nV
 ·rw[toList_mk r,toList_mk (r.dropWhile _),hrt,hn];exact qB
theorem jx (k:Int) (x l y:ByteArray) (w:World) (hs:x.size<=281474976710656) :
  Calls Tryz.prog 186 #[.agg #[.int .i64 k,.string x,.string l,.string y]] w λe w'=>e=.returned (fq (lJ ⟨k,x,l,y⟩))/\Below w.heap.size w w':=by
 have ht:=λW=>lX k x l y aO W
 obtain⟨m,s,rt,z,V,hV,hm,hT,hz,n1,n2,n3⟩:=AV x hs
 have hfin:fq (lJ ⟨k,x,l,y⟩)=if aM ⟨k,x,l,y⟩ aO then V else .tuple #[.bool false,.string ⟨#[]⟩,.bool false]:=by
  unfold lJ
  split
  ·rw[←hV]
  ·rfl
 rw[hfin]
 generalize aM ⟨k,x,l,y⟩ aO=q at ht ⊢
 unfold aO at ht
 have N:=Lib.hid (And.intro n1 (And.intro n2 n3))
 clear n1 n2 n3 hfin hV hs
 rcases hm with ⟨rfl,h1,hm⟩|⟨rfl,h1,h2⟩
 ·cases q
  ·go_enter Tryz.func186,Tryz.ntmps186
   go_wp2_with (first
    | (go_at_call 218;refine(h1 _).mono ?_;rintro e w1 ⟨rfl,rfl⟩)
    | (go_at_call 184;refine(ht _).mono ?_;rintro e w2 ⟨rfl,hb2⟩))
   go_ret3
   exact⟨rfl,blw⟩
  ·go_enter Tryz.func186,Tryz.ntmps186
   go_wp2_with (first
    | (go_at_call 218;refine(h1 _).mono ?_;rintro e w1 ⟨rfl,rfl⟩)
    | (go_at_call 219;refine(hT _).mono ?_;rintro e w3 ⟨rfl,hb3⟩)
    | (go_at_call 220;refine(hz _).mono ?_;rintro e w4 ⟨rfl,rfl⟩)
    | (go_at_call 184;refine(ht _).mono ?_;rintro e w2 ⟨rfl,hb2⟩))
   all_goals
    go_ret3
    obtain⟨n1,n2,n3⟩:=N.out
    refine⟨?_,blw⟩
    simp_all
 ·have hxx:(x.toList == x.toList)=true:=by simp
  cases q
  ·go_enter Tryz.func186,Tryz.ntmps186
   go_wp2_with fail
   refine(h1 _).mono ?_
   rintro e w1 ⟨rfl,rfl⟩
   go_wp2_with fail
   refine(h2 _).mono ?_
   rintro e w1 ⟨rfl,rfl⟩
   go_wp2_with (go_at_call 184;refine(ht _).mono ?_;rintro e w2 ⟨rfl,hb2⟩)
   go_ret3
   exact⟨rfl,blw⟩
  ·go_enter Tryz.func186,Tryz.ntmps186
   go_wp2_with fail
   refine(h1 _).mono ?_
   rintro e w1 ⟨rfl,rfl⟩
   go_wp2_with fail
   refine(h2 _).mono ?_
   rintro e w1 ⟨rfl,rfl⟩
   go_wp2_with (first
    | (go_at_call 219;refine(hT _).mono ?_;rintro e w3 ⟨rfl,hb3⟩)
    | (go_at_call 220;refine(hz _).mono ?_;rintro e w4 ⟨rfl,rfl⟩)
    | (go_at_call 184;refine(ht _).mono ?_;rintro e w2 ⟨rfl,hb2⟩))
   all_goals
    go_ret3
    obtain⟨n1,n2,n3⟩:=N.out
    refine⟨?_,blw⟩
    simp_all
end Go.Proofs.YtjldjeenfnahoaaGreatDoor
