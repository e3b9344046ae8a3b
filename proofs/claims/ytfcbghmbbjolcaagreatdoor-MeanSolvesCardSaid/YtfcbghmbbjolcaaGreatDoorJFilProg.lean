/- A call that leaves what lay before: its world, by draws and -/
import Derived.Test.YtfcbghmbbjolcaaGreatDoorJDrawn
import Derived.Test.YtfcbghmbbjolcaaGreatDoorJOrd6
import Derived.Shelf.Strings.SlTrimAscii
set_option maxHeartbeats 1000000
set_option maxRecDepth 10000
namespace Go.Proofs.YtfcbghmbbjolcaaGreatDoor
open Go Go.RowKit
theorem ug {w w':World} (hb:Below w.heap.size w w'):w'.heap=w.heap++(w'.heap.toList.drop w.heap.size).toArray:=by
 apply Array.toList_inj.1
 rw[Array.toList_append,List.toList_toArray]
 conv=>lhs;rw[←List.take_append_drop w.heap.size w'.heap.toList]
 congr 1
 apply List.ext_getElem?
 intro k
 rcases Nat.lt_or_ge k w.heap.size with h|h
 ·rw[List.getElem?_take,if_pos h,Array.getElem?_toList,Array.getElem?_toList]
  exact hb.block k h
 ·rw[List.getElem?_take,if_neg (by omega),List.getElem?_eq_none (by rw[Array.length_toList];exact h)]
theorem below_grow {w w':World} (hb:Below w.heap.size w w') (hd:w.drawn<=w'.drawn):∃q os,w'=Sort.grow (w.drewN q) os:=by
 refine⟨w'.drawn-w.drawn,(w'.heap.toList.drop w.heap.size).toArray,?_⟩
 have h1:=ug hb
 obtain⟨heap,tape,drawn,os,output⟩:=w'
 have h2:=hb.os
 have h3:=hb.tape
 have h4:=hb.output
 simp only at h1 h2 h3 h4 hd ⊢
 unfold Sort.grow World.drewN
 simp only
 rw[←h1,←h2,←h3,←h4,show w.drawn+(drawn-w.drawn)=drawn by omega]
theorem jm {P:Program} {f:FuncId} {args:Array Value} {w:World} {v:Value} (h:Calls P f args w λe w'=>e=.returned v/\Below w.heap.size w w') :
  Calls P f args w λe w'=>e=.returned v/\∃q os,w'=Sort.grow (w.drewN q) os:=
 (Dr.calls_le h λ_ _ x=>⟨v,x.1⟩).mono λ_ _ ⟨⟨h1,h2⟩,h3⟩=>⟨h1,below_grow h2 h3⟩
open Fm Tx Om Mp
theorem Cc (F:Array Value) (old rest:List Value) (h:old.length=F.size):Sort.putCells id 0 F (old++rest).toArray=(F.toList++rest).toArray:=by
 apply Array.ext_getElem?
 intro k
 unfold Sort.putCells
 simp only[Array.getElem?_mapIdx,List.getElem?_toArray,Nat.zero_le,true_and,Nat.zero_add,Nat.sub_zero,id]
 by_cases hk:k<F.size
 ·rw[List.getElem?_append_left (by omega),List.getElem?_append_left (by simpa using hk),List.getElem?_eq_getElem (by omega),Option.map_some,if_pos hk,getElem!_pos F k hk,Array.getElem?_toList,Array.getElem?_eq_getElem hk]
 ·rw[List.getElem?_append_right (by omega),List.getElem?_append_right (by simpa using hk),h,Array.length_toList]
  simp[hk]
section
variable {α:Type} [Inhabited α] {enc:α->Value}
theorem GX (enc:α->Value) (D:Array α) (c:Array Value):Sort.putCells enc 0 D c=Sort.putCells id 0 (D.map enc) c:=by
 unfold Sort.putCells
 congr 1
 funext k x
 simp only[Array.size_map,id]
 split
 ·rename_i h
  rw[getElem!_pos D _ (by omega),getElem!_pos (D.map enc) _ (by simp;omega),Array.getElem_map]
 ·rfl
theorem ml {w w':World} {g off:Nat} {D:Array α} {cur:Array Value} {T:TypeId} {fr:Nat × Nat} (h:w.heap[g]?=some (.cells cur T fr)) (S:SW enc w g off D w') {e:TypeId} (he:T≠e):KeepT e w w':=λk c f x=>by
 obtain⟨n,os,rfl⟩:=S
 have hk:k<w.heap.size:=(Array.getElem?_eq_some_iff.1 x).1
 unfold sortWorld Sort.grow Sort.putRow Sort.mapBlock Sort.ahead
 simp only[Array.getElem?_append,Array.size_modify]
 rw[if_pos hk,Array.getElem?_modify]
 split
 ·rename_i e1
  subst e1
  rw[h]at x
  injection x with x
  injection x with _ e2 _
  exact absurd e2 he
 ·exact x
theorem jZ {base:Nat} {w w':World} {g off:Nat} {D:Array α} (hb:base<=g) (hw:base<=w.heap.size) (S:SW enc w g off D w'):Below base w w':=by
 obtain⟨n,os,rfl⟩:=S
 unfold sortWorld Sort.grow Sort.putRow Sort.mapBlock Sort.ahead
 refine⟨rfl,rfl,rfl,by simp,λk hk=>?_⟩
 have hne:g≠k:=by omega
 simp only[Array.getElem?_append,Array.size_modify]
 rw[if_pos (by omega),Array.getElem?_modify,if_neg hne]
theorem eM.sw {g:Nat} {d D:Array α} {rest:List Value} {w w':World} (h:eM g (d.toList.map enc) rest w) (hs:D.size=d.size) (S:SW enc w g 0 D w'):eM g (D.toList.map enc) rest w':=by
 obtain⟨n,os,rfl⟩:=S
 have hlt:=h.lt
 unfold eM at h ⊢
 unfold sortWorld Sort.grow Sort.putRow Sort.mapBlock Sort.ahead
 simp only[Array.getElem?_append,Array.size_modify]
 rw[if_pos hlt,Array.getElem?_modify,if_pos rfl,h]
 simp only[Option.map_some,Sort.onCells]
 rw[GX,Cc _ _ _ (by simp[hs]),Array.toList_map]
theorem eM.holds {g:Nat} {d:Array α} {rest:List Value} {w:World} (h:eM g (d.toList.map enc) rest w):Sort.Holds enc w g 0 d:=λj hj=>by
 refine⟨?_,h.frozen _⟩
 rw[Nat.zero_add]
 refine h.cell ?_
 rw[List.getElem?_map,Array.getElem?_toList,Array.getElem?_eq_getElem hj,getElem!_pos _ j hj]
 rfl
end
abbrev SR (base:Nat) (w:World) (nv:Nat):={p:Value × List Tm // OwnRow base w [p.1] p.2/\aN p.2/\p.2.length=nv}
section
variable {base nv:Nat} {w:World}
def encR (x:SR base w nv):Value:=x.1.1
def cfR (ks:List (Nat × Bool)) (x y:SR base w nv):Int:=bu ks x.1.2 y.1.2
theorem ltR (ks:List (Nat × Bool)) (x y:SR base w nv):ltOf (cfR ks) x y=iL ks x.1.2 y.1.2:=rfl
theorem J2 [Inhabited (SR base w nv)] (ks:List (Nat × Bool)):Sort.SWO (ltOf (cfR (base:=base) (w:=w) (nv:=nv) ks)) where
 irrefl:=λx=>(xd ks).irrefl x.1.2
 trans:=λx y z=>(xd ks).trans x.1.2 y.1.2 z.1.2
 ntrans:=λx y z=>(xd ks).ntrans x.1.2 y.1.2 z.1.2
theorem vu:∀{rows:List (List Tm)} {xs:List Value},All 1 (OwnRow base w) xs rows->(∀r∈rows,aN r)->(∀r∈rows,r.length=nv)->∃d:List (SR base w nv),d.map (·.1.1)=xs/\d.map (·.1.2)=rows
 | [],xs,h,_,_=>by
  have hx:xs=[]:=h
  exact⟨[],hx.symm,rfl⟩
 | r::rows,xs,h,hz,hw=>by
  obtain⟨cs,ys,rfl,hc,ho,ht⟩:=h
  obtain⟨d,h1,h2⟩:=vu ht (λq hq=>hz q (by simp[hq])) (λq hq=>hw q (by simp[hq]))
  match cs,hc with
  | [v],_=>exact⟨⟨(v,r),ho,hz r (by simp),hw r (by simp)⟩::d,by simp[h1],by simp[h2]⟩
theorem xe (d:List (SR base w nv)):All 1 (OwnRow base w) (d.map (·.1.1)) (d.map (·.1.2)):=by
 induction d with
 | nil=>rfl
 | cons x d ih=>exact⟨[x.1.1],d.map (·.1.1),rfl,rfl,x.2.1,ih⟩
theorem i7 [Inhabited (SR base w nv)] (ks:List (Nat × Bool)) (d:List (SR base w nv)) (D:Array (SR base w nv)) (hp:Sort.PermIn 0 d.length d.toArray D) (hs:Sort.SortedIn (ltOf (cfR ks)) 0 d.length D):D.toList.map (·.1.2)=fB ks (d.map (·.1.2)):=by
 obtain⟨h1,_,h3⟩:=hp
 have hD:D.size=d.length:=by simpa using h1
 refine lr ?_ ?_
 ·rw[←hD]at h3
  have e1:(D.extract 0 D.size).toList=D.toList:=by simp
  have e2:(d.toArray.extract 0 D.size).toList=d:=by simp[hD]
  rw[e1,e2]at h3
  exact h3.map _
 ·rw[List.pairwise_map,List.pairwise_iff_getElem]
  intro i j hi hj hij
  have:=hs i j (by omega) hij (by simpa[hD] using hj)
  rw[ltR,getElem!_pos D i (by simpa using hi),getElem!_pos D j (by simpa using hj)]at this
  simpa using this
end
theorem td {o:Option Tm} (h:o=none):r7 o=.tuple #[.agg #[.int .i64 0,.string ⟨#[]⟩,.string ⟨#[]⟩,.string ⟨#[]⟩],.bool false]:=by subst h;rfl
theorem jV (vars:List ByteArray) (row:List Tm) (A1 A2 A:Option Addr) (c1 c2 m c:Nat) (k:Int) (s:ByteArray) (t:Tm) (w:World) (hv:vars.length<=281474976710656) (hrl:row.length<=281474976710656) (hm:m<=281474976710656)
  (hr1:Rd w A1 (vars.map Value.string)) (hr2:RdTs w A2 row) :
  Calls Tryz.prog 182 #[.agg #[.slice A1 vars.length c1,.slice A2 row.length c2],.agg #[.int .i64 k,.string s,.int .i64 t.k,.string t.x,.string t.l,.string t.y,.slice A m c]] w
   λe w'=>e=.returned (r7 (gy vars row k s t (m == 0)))/\Below w.heap.size w w':=by
 have hI:=λW h=>wg vars s A1 c1 W hv h
 have hi:=kN vars s
 unfold gy
 generalize Lib.idxOfS vars s=i at *
 obtain⟨v,hvv⟩:∃v,r7 (if (m == 0)=true then (if (k == 2)=true then some t else if (k == 1)=true then (if i<0 then none else row[i.toNat]?) else none) else none)=v:=⟨_,rfl⟩
 rw[hvv]
 have HV:=Lib.hid hvv
 clear hvv
 have hv':(vars.length:Int)<=281474976710656:=by omega
 have hrl':(row.length:Int)<=281474976710656:=by omega
 have hm':(m:Int)<=281474976710656:=by omega
 go_enter Tryz.func182,Tryz.ntmps182
 go_wp2_with fail
 refine(hI _ (hr1.later blw)).mono ?_
 rintro e w1 ⟨rfl,rfl⟩
 by_cases hm0:0<(m:Int)
 ·have hb:(m == 0)=false:=by simp;omega
  have HB:=Lib.hid hb
  clear hb hr1 hI
  go_wp2
  exact bodyPost_ret (v:=Value.tuple #[.agg #[.int .i64 0,.string ⟨#[]⟩,.string ⟨#[]⟩,.string ⟨#[]⟩],.bool false]) (by simp[results,Tryz.results182,go_sem]) rfl ⟨by rw[←HV.out,HB.out];rfl,blw⟩
 ·have hb:(m == 0)=true:=by simp;omega
  have HB:=Lib.hid hb
  clear hb hI
  by_cases h2:k=2
  ·subst h2
   go_wp2
   exact bodyPost_ret (v:=Value.tuple #[.agg #[.int .i64 t.k,.string t.x,.string t.l,.string t.y],.bool true]) (by simp[results,Tryz.results182,go_sem]) rfl ⟨by rw[←HV.out,HB.out];rfl,blw⟩
  ·have h2':(k == 2)=false:=by simpa using h2
   by_cases h1:k=1
   ·subst h1
    by_cases h0:0<=i
    ·by_cases hlt:i<(row.length:Int)
     ·obtain⟨n,rfl⟩:∃n:Nat,i=n:=⟨i.toNat,by omega⟩
      obtain⟨u,hu⟩:∃u,row[n]?=some u:=⟨_,List.getElem?_eq_getElem (by omega)⟩
      obtain⟨g,o,rfl,d0,d1,d2,d3⟩:=(RdTs.later hr2 (w':=((w.alloc (.cells #[.slice A1 vars.length c1,.slice A2 row.length c2] 178)).alloc (.cells #[.int .i64 1,.string s,.int .i64 t.k,.string t.x,.string t.l,.string t.y,.slice A m c] 68)).alloc (.cells #[.int .i64 0,.string ⟨#[]⟩,.string ⟨#[]⟩,.string ⟨#[]⟩] 62)) blw).at4 hu
      clear hr1 hr2
      have Hu:=Lib.hid hu
      have hn0:¬ ((n:Int)<0):=by omega
      clear hu
      go_wp2
      exact bodyPost_ret (v:=Value.tuple #[.agg #[.int .i64 u.k,.string u.x,.string u.l,.string u.y],.bool true]) (by simp[results,Tryz.results182,go_sem]) rfl ⟨by rw[←HV.out,HB.out];simp[r7,tmV,Hu.out];rw[if_neg (by omega)];exact⟨rfl,rfl,rfl,rfl⟩,blw⟩
     ·go_wp2
      exact bodyPost_ret (v:=Value.tuple #[.agg #[.int .i64 0,.string ⟨#[]⟩,.string ⟨#[]⟩,.string ⟨#[]⟩],.bool false]) (by simp[results,Tryz.results182,go_sem]) rfl ⟨by rw[←HV.out,HB.out,td (by simp;omega)],blw⟩
    ·go_wp2
     exact bodyPost_ret (v:=Value.tuple #[.agg #[.int .i64 0,.string ⟨#[]⟩,.string ⟨#[]⟩,.string ⟨#[]⟩],.bool false]) (by simp[results,Tryz.results182,go_sem]) rfl ⟨by rw[←HV.out,HB.out,td (by simp;omega)],blw⟩
   ·have h1':(k == 1)=false:=by simpa using h1
    go_wp2
    exact bodyPost_ret (v:=Value.tuple #[.agg #[.int .i64 0,.string ⟨#[]⟩,.string ⟨#[]⟩,.string ⟨#[]⟩],.bool false]) (by simp[results,Tryz.results182,go_sem]) rfl ⟨by rw[←HV.out,HB.out];simp[r7,tmV,zTm,h2,h1],blw⟩
open Go.Maps Go.ChangeMaps
def dc (j:Value) (k:Int):Value:=
 if k == 1 || k == 2 then .func (.func 124) #[j] #[] else if k == 3 then .func (.func 125) #[j] #[] else if k == 4 || k == 5 then .func (.func 126) #[j] #[]
 else if xK k then .func (.func 127) #[j] #[] else if isKind k then .func (.func 128) #[j] #[] else .nilFunc
def DD (j:Value):List (Int × Value):=[1,2,3,4,5,6,7,8,9,10,11,12,13,14].map λk=>(k,dc j k)
theorem og (j:Value) (k:Int):(((DD j).find? (λp=>p.1 == k)).map (·.2)).getD .nilFunc=dc j k:=by
 unfold DD
 by_cases h:1<=k/\k<=14
 ·obtain⟨n,rfl⟩:∃n:Nat,k=n:=⟨k.toNat,by omega⟩
  have hn:n<15:=by omega
  have hn0:0<n:=by omega
  clear h
  revert n
  intro n hn hn0
  match n,hn,hn0 with
  | 1,_,_=>rfl
  | 2,_,_=>rfl
  | 3,_,_=>rfl
  | 4,_,_=>rfl
  | 5,_,_=>rfl
  | 6,_,_=>rfl
  | 7,_,_=>rfl
  | 8,_,_=>rfl
  | 9,_,_=>rfl
  | 10,_,_=>rfl
  | 11,_,_=>rfl
  | 12,_,_=>rfl
  | 13,_,_=>rfl
  | 14,_,_=>rfl
 ·have hne:List.find? (λp:Int × Value=>p.1 == k) ([1,2,3,4,5,6,7,8,9,10,11,12,13,14].map λk=>(k,dc j k))=none:=by
   rw[List.find?_eq_none]
   intro p hp
   simp only[List.map_cons,List.map_nil,List.mem_cons,List.not_mem_nil,or_false]at hp
   simp only[beq_iff_eq]
   rcases hp with rfl|rfl|rfl|rfl|rfl|rfl|rfl|rfl|rfl|rfl|rfl|rfl|rfl|rfl<;>simp<;>omega
  rw[hne]
  unfold dc xK isKind
  have h1:(k == 1)=false:=by simp;omega
  have h2:(k == 2)=false:=by simp;omega
  have h3:(k == 3)=false:=by simp;omega
  have h4:(k == 4)=false:=by simp;omega
  have h5:(k == 5)=false:=by simp;omega
  have h6:(decide (6<=k) && decide (k<=11))=false:=by simp;omega
  have h7:(decide (12<=k) && decide (k<=14))=false:=by simp;omega
  simp[h1,h2,h3,h4,h5,h6,h7]
structure dx (w:World) (b:Nat) (vars:List ByteArray) (row:List Tm):Prop where
 ex:∃(A1 A2:Option Addr) (c1 c2 r:Nat),w.cell? ⟨b,0,none⟩=some (.slice A1 vars.length c1)/\w.cell? ⟨b,1,none⟩=some (.slice A2 row.length c2)/\w.cell? ⟨b,2,none⟩=some (.map (some r)) /\
  bE w .i64 r (DD (.pointer (some ⟨b,0,none⟩)))/\Rd w A1 (vars.map Value.string)/\RdTs w A2 row
theorem dx.later {w w':World} {b:Nat} {vars:List ByteArray} {row:List Tm} (h:dx w b vars row) (hb:Below w.heap.size w w'):dx w' b vars row:=by
 obtain⟨A1,A2,c1,c2,r,h0,h1,h2,h3,h4,h5⟩:=h.ex
 have key:∀{p:Addr} {u:Value},w.cell? p=some u->w'.cell? p=some u:=λh=>by rw[hb.cell (ag h)];exact h
 exact⟨A1,A2,c1,c2,r,key h0,key h1,key h2,h3.later hb,h4.later hb,h5.later hb⟩
theorem gM (vars:List ByteArray) (row:List Tm) (b:Nat) (k:Int) (s:ByteArray) (t:Tm) (A:Option Addr) (m c:Nat) (w:World) (hj:dx w b vars row) (F:FuncId) (hd:dc (.pointer (some ⟨b,0,none⟩)) k=.func (.func F) #[.pointer (some ⟨b,0,none⟩)] #[])
  (eg:∀args W,(callFunc F args).run Tryz.prog W=.ok (.enter F args) W) (v:Int)
  (hF:∀W,Below w.heap.size w W->Calls Tryz.prog F #[.pointer (some ⟨b,0,none⟩),.agg #[.int .i64 k,.string s,.int .i64 t.k,.string t.x,.string t.l,.string t.y,.slice A m c]] W λe w'=>e=.returned (.int .i64 v)/\Below W.heap.size W w') :
  Calls Tryz.prog 74 #[.pointer (some ⟨b,0,none⟩),.agg #[.int .i64 k,.string s,.int .i64 t.k,.string t.x,.string t.l,.string t.y,.slice A m c]] w λe w'=>e=.returned (.int .i64 v)/\Below w.heap.size w w':=by
 obtain⟨A1,A2,c1,c2,r,h0,h1,h2,h3,h4,h5⟩:=hj.ex
 have hne:∀(g:FuncId) (v:Value) (W:World),(binOp .neq 135 (.func (.func g) #[v] #[]) .nilFunc).run Tryz.prog W=.ok (.bool true) W:=λg v W=>by kernel_rfl
 go_enter Tryz.func74,Tryz.ntmps74
 go_wp2
 obtain⟨W,hW⟩:∃W:World,w.alloc (.cells #[.int .i64 k,.string s,.int .i64 t.k,.string t.x,.string t.l,.string t.y,.slice A m c] 68)=W:=⟨_,rfl⟩
 have hB0:Below w.heap.size w W:=by rw[←hW];exact blw
 have hbx:∀(i:Nat) v,#[Value.int .i64 k,.string s,.int .i64 t.k,.string t.x,.string t.l,.string t.y,.slice A m c][i]?=some v->W.cell? ⟨w.heap.size,i,none⟩=some v:=by
  intro i v hv;rw[←hW,World.cell?,heap_alloc_new];exact hv
 have key:∀{p:Addr} {u:Value},w.cell? p=some u->W.cell? p=some u:=λh=>by rw[hB0.cell (ag h)];exact h
 have g2:=λd os=>cell_regrown (key h2) d os
 have gk0:=λd os=>cell_regrown (hbx 0 _ rfl) d os
 have gk1:=λd os=>cell_regrown (hbx 1 _ rfl) d os
 have gk2:=λd os=>cell_regrown (hbx 2 _ rfl) d os
 have gk3:=λd os=>cell_regrown (hbx 3 _ rfl) d os
 have gk4:=λd os=>cell_regrown (hbx 4 _ rfl) d os
 have gk5:=λd os=>cell_regrown (hbx 5 _ rfl) d os
 have gk6:=λd os=>cell_regrown (hbx 6 _ rfl) d os
 have hl:∀d os,(Instr.lookup 179 (.map (some r)) (.int .i64 k) false).run Tryz.prog (Sort.grow (redrawn W d) os)=.ok (dc (.pointer (some ⟨b,0,none⟩)) k) (Sort.grow (redrawn W d) os):=λd os=>by
  have h:=iK (P:=Tryz.prog) Tryz.underlying179 Tryz.underlying66 (z:=.nilFunc) (w:=Sort.grow (redrawn W d) os) (by kernel_rfl) ((h3.later hB0).later (below_regrown W d os)) k
  rw[og]at h
  exact h
 simp only[hW]
 have HB0:=Lib.hid hB0
 clear hbx key hW hB0 h0 h1 h2 h3 h4 h5
 rw[hd]at hl
 refine wrq ?_;(repeat (any_goals (go_big_quiet_step ((fail)))));all_goals (refine wqn ?_;intro d9 os9)
 have Hl:=Lib.hid hl
 clear hl
 have hB1:=aa HB0.out (below_regrown W d9 os9)
 go_wp2_with (go_at_fn F;refine(hF _ hB1).mono ?_;rintro e w2 ⟨rfl,hB2⟩)
 go_ret
 exact⟨rfl,aa hB1 hB2⟩
theorem wA (vars:List ByteArray) (row:List Tm) (b:Nat) (k:Int) (s:ByteArray) (t:Tm) (A:Option Addr) (m c:Nat) (w:World) (hj:dx w b vars row) (hd:dc (.pointer (some ⟨b,0,none⟩)) k=.nilFunc) :
  Calls Tryz.prog 74 #[.pointer (some ⟨b,0,none⟩),.agg #[.int .i64 k,.string s,.int .i64 t.k,.string t.x,.string t.l,.string t.y,.slice A m c]] w λe w'=>e=.returned (.int .i64 3)/\Below w.heap.size w w':=by
 obtain⟨A1,A2,c1,c2,r,h0,h1,h2,h3,h4,h5⟩:=hj.ex
 have hne:∀(W:World),(binOp .neq 135 .nilFunc .nilFunc).run Tryz.prog W=.ok (.bool false) W:=λW=>by kernel_rfl
 go_enter Tryz.func74,Tryz.ntmps74
 go_wp2
 obtain⟨W,hW⟩:∃W:World,w.alloc (.cells #[.int .i64 k,.string s,.int .i64 t.k,.string t.x,.string t.l,.string t.y,.slice A m c] 68)=W:=⟨_,rfl⟩
 have hB0:Below w.heap.size w W:=by rw[←hW];exact blw
 have hbx:∀(i:Nat) v,#[Value.int .i64 k,.string s,.int .i64 t.k,.string t.x,.string t.l,.string t.y,.slice A m c][i]?=some v->W.cell? ⟨w.heap.size,i,none⟩=some v:=by
  intro i v hv;rw[←hW,World.cell?,heap_alloc_new];exact hv
 have key:∀{p:Addr} {u:Value},w.cell? p=some u->W.cell? p=some u:=λh=>by rw[hB0.cell (ag h)];exact h
 have g2:=λd os=>cell_regrown (key h2) d os
 have gk0:=λd os=>cell_regrown (hbx 0 _ rfl) d os
 have gk1:=λd os=>cell_regrown (hbx 1 _ rfl) d os
 have gk2:=λd os=>cell_regrown (hbx 2 _ rfl) d os
 have gk3:=λd os=>cell_regrown (hbx 3 _ rfl) d os
 have gk4:=λd os=>cell_regrown (hbx 4 _ rfl) d os
 have gk5:=λd os=>cell_regrown (hbx 5 _ rfl) d os
 have gk6:=λd os=>cell_regrown (hbx 6 _ rfl) d os
 have hl:∀d os,(Instr.lookup 179 (.map (some r)) (.int .i64 k) false).run Tryz.prog (Sort.grow (redrawn W d) os)=.ok (dc (.pointer (some ⟨b,0,none⟩)) k) (Sort.grow (redrawn W d) os):=λd os=>by
  have h:=iK (P:=Tryz.prog) Tryz.underlying179 Tryz.underlying66 (z:=.nilFunc) (w:=Sort.grow (redrawn W d) os) (by kernel_rfl) ((h3.later hB0).later (below_regrown W d os)) k
  rw[og]at h
  exact h
 simp only[hW]
 have HB0:=Lib.hid hB0
 clear hbx key hW hB0 h0 h1 h2 h3 h4 h5
 rw[hd]at hl
 refine wrq ?_;(repeat (any_goals (go_big_quiet_step ((fail)))));all_goals (refine wqn ?_;intro d9 os9)
 have Hl:=Lib.hid hl
 clear hl
 have hB1:=aa HB0.out (below_regrown W d9 os9)
 go_wp2
 go_ret
 exact⟨rfl,hB1⟩
theorem yy:(Tryz.prog.info? 134).map (λi=>(i.zero,i.size,i.bytes))=some (some (.int .i64 0),1,8):=by kernel_rfl
theorem eo (q:Bool) (w:World) :
  Calls Tryz.prog 189 #[.bool q] w λe w'=>e=.returned (.int .i64 (fw q))/\w=w':=by
 cases q<;>(go_enter Tryz.func189,Tryz.ntmps189;go_wp2;go_ret;exact⟨rfl,rfl⟩)
theorem da (q:Bool) (w:World) :
  Calls Tryz.prog 280 #[.bool q] w λe w'=>e=.returned (.int .i64 (wt q))/\w=w':=by
 cases q<;>(go_enter Tryz.func280,Tryz.ntmps280;go_wp2;go_ret;exact⟨rfl,rfl⟩)
theorem kT (t:Int) (w:World) :
  Calls Tryz.prog 184 #[.int .i64 t] w λe w'=>e=.returned (.int .i64 (iy t))/\w=w':=by
 go_enter Tryz.func184,Tryz.ntmps184
 go_wp2
 all_goals (go_ret;exact⟨by simp_all[iy],rfl⟩)
theorem oc (k:Int) (x l y ty:ByteArray) (w:World) :
  Calls Tryz.prog 239 #[.agg #[.int .i64 k,.string x,.string l,.string y],.string ty] w λe w'=>e=.returned (.bool (df ⟨k,x,l,y⟩ ty))/\Below w.heap.size w w':=by
 go_enter Tryz.func239,Tryz.ntmps239
 go_wp2
 all_goals (go_ret;exact⟨by simp_all[df],blw⟩)
theorem od (k:Int) (x l y:ByteArray) (w:World) :
  Calls Tryz.prog 190 #[.agg #[.int .i64 k,.string x,.string l,.string y]] w λe w'=>e=.returned (.bool (tR ⟨k,x,l,y⟩))/\Below w.heap.size w w':=by
 go_enter Tryz.func190,Tryz.ntmps190
 go_wp2
 all_goals (go_ret;exact⟨by simp_all[tR],blw⟩)
theorem uq (k:Int) (x l y:ByteArray) (w:World) :
  Calls Tryz.prog 281 #[.agg #[.int .i64 k,.string x,.string l,.string y]] w λe w'=>e=.returned (.bool (kx ⟨k,x,l,y⟩))/\Below w.heap.size w w':=by
 go_enter Tryz.func281,Tryz.ntmps281
 go_wp2
 all_goals (go_ret;exact⟨by simp_all[kx],blw⟩)
theorem toList_mk (l:List UInt8):(⟨l.toArray⟩:ByteArray).toList=l:=by simp[ByteArray.toList_eq]
theorem ik {w:World} {cs:Array Value} {ty:TypeId} (j:Nat) (v:Value) (h:cs[j]?=some v) (d:Nat) (os:Array Obj) :
  (Sort.grow (redrawn (w.alloc (.cells cs ty)) d) os).cell? ⟨w.heap.size,j,none⟩=some v:=by
 refine cell_regrown ?_ d os
 rw[World.cell?,heap_alloc_new]
 exact h
theorem rE (k:Int) (x l y:ByteArray) (w:World) :
  Calls Tryz.prog 240 #[.agg #[.int .i64 k,.string x,.string l,.string y]] w λe w'=>e=.returned (.tuple #[.bool (mu ⟨k,x,l,y⟩),.bool (gV ⟨k,x,l,y⟩)])/\Below w.heap.size w w':=by
 have ht:=λW=>oc k x l y cP W
 have hy:mu ⟨k,x,l,y⟩=(x.toList == [116,114,117,101] || x.toList == [49]):=rfl
 have hb:gV ⟨k,x,l,y⟩=(df ⟨k,x,l,y⟩ cP && (mu ⟨k,x,l,y⟩ || x.toList == [102,97,108,115,101] || x.toList == [48])):=rfl
 rw[hb,hy]
 clear hb hy
 generalize df ⟨k,x,l,y⟩ cP=q at ht ⊢
 unfold cP at ht
 have g0:=λd os=>ik (w:=w) (cs:=#[.int .i64 k,.string x,.string l,.string y]) (ty:=62) 0 _ rfl d os
 have g1:=λd os=>ik (w:=w) (cs:=#[.int .i64 k,.string x,.string l,.string y]) (ty:=62) 1 _ rfl d os
 have g2:=λd os=>ik (w:=w) (cs:=#[.int .i64 k,.string x,.string l,.string y]) (ty:=62) 2 _ rfl d os
 have g3:=λd os=>ik (w:=w) (cs:=#[.int .i64 k,.string x,.string l,.string y]) (ty:=62) 3 _ rfl d os
 go_enter Tryz.func240,Tryz.ntmps240
 cases h1:(x.toList == [116,114,117,101])
 ·cases h2:(x.toList == [49])
  ·cases q
   ·go_wp2
    refine wrq ?_;(repeat (any_goals (go_big_quiet_step ((go_at_call 239;exact Calls.regrown_of (ht _))))));all_goals (refine wqn ?_;intro d9 os9)
    go_wp2
    go_ret2
    exact⟨by simp,blw⟩
   ·cases h3:(x.toList == [102,97,108,115,101])
    ·go_wp2
     refine wrq ?_;(repeat (any_goals (go_big_quiet_step ((go_at_call 239;exact Calls.regrown_of (ht _))))));all_goals (refine wqn ?_;intro d9 os9)
     go_wp2
     go_ret2
     exact⟨by simp,blw⟩
    ·go_wp2
     refine wrq ?_;(repeat (any_goals (go_big_quiet_step ((go_at_call 239;exact Calls.regrown_of (ht _))))));all_goals (refine wqn ?_;intro d9 os9)
     go_wp2
     go_ret2
     exact⟨by simp,blw⟩
  ·cases q
   all_goals
    go_wp2
    refine wrq ?_;(repeat (any_goals (go_big_quiet_step ((go_at_call 239;exact Calls.regrown_of (ht _))))));all_goals (refine wqn ?_;intro d9 os9)
    go_wp2
    go_ret2
    exact⟨by simp,blw⟩
 ·cases q
  all_goals
   go_wp2
   refine wrq ?_;(repeat (any_goals (go_big_quiet_step ((go_at_call 239;exact Calls.regrown_of (ht _))))));all_goals (refine wqn ?_;intro d9 os9)
   go_wp2
   go_ret2
   exact⟨by simp,blw⟩
end Go.Proofs.YtfcbghmbbjolcaaGreatDoor
