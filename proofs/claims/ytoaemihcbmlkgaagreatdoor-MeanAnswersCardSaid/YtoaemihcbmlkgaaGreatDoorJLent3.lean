/- The program's package check, walked: Needs, Told. The progra -/
import Derived.Test.YtoaemihcbmlkgaaGreatDoorJChk7
set_option maxHeartbeats 2000000
set_option maxRecDepth 20000
namespace Go.Proofs.YtoaemihcbmlkgaaGreatDoor
open Go Go.RowKit
theorem run_append_ownF {P:Program} (w:World) (base:Nat) (t ty e:TypeId) (i:TypeInfo) (z:Value) (size bytes:Nat) (ht:P.underlying t=some (.slice e)) (hi:P.info? e=some i) (hz:i.zero=some z)
  (hsize:i.size=size) (hby:i.bytes=bytes) (hzs:z.cells.size=size) (hsz:0<size)
  (v:Value) (n:Nat) (xs:List Value) (hown:w.ownsRow base e size v n xs)
  (a:Addr) (m c:Nat) (news:List Value) (hl:news.length=m*size) (hnews:∀j u,news[j]?=some u->w.cell? (a.add j)=some u) (h1:∀u∈news,u.oneCell'=true)
  (h63:n+m<=maxLen) (hbytes:(n+m)*bytes<=140737488355328) (hbase:base<=w.heap.size) :
  ∃v' w',(Builtin.append_ #[t,t] ty #[v,.slice (some a) m c]).run P w=.ok v' w'/\w'.ownsRow base e size v' (n+m) (xs++news)/\w.grownBy w' v.ownBlock /\
   (v'.ownBlock=v.ownBlock∨v'.ownBlock=some w.heap.size):=by
 obtain⟨v',w',hr,h2,h3,-⟩:=run_append_own (P:=P) w base t ty e i z size bytes ht hi hz hsize hby hzs hsz v n xs hown a m c news hl hnews h1 h63 hbytes hbase
 refine⟨v',w',hr,h2,h3,?_⟩
 subst hsize
 subst hby
 have hsmall:n+m<=9223372036854775807:=by simp only[maxLen]at h63;omega
 rcases hown.2 with ⟨rfl,rfl⟩|⟨g,cap,cur,rfl,hbg,hg,hnc,hcm,hcs,htake⟩
 ·by_cases hm:m=0
  ·subst hm
   rcases h2.2 with ⟨rfl,_⟩|⟨g,cap,cur,rfl,_⟩
   ·exact .inl rfl
   ·have hn:news=[]:=List.eq_nil_of_length_eq_zero (by simpa using hl)
    subst hn
    have hr':(Builtin.append_ #[t,t] ty #[.slice none 0 0,.slice (some a) 0 c]).run P w=.ok (.slice none 0 0) w:=by
     simp[Builtin.append_,run_underlying ht,sizeOf,typeInfo,hi,Builtin.lenOf,Builtin.firstCells,loadCells,loadCellsFrom]
    rw[hr']at hr
    cases hr
  ·have hr':=run_append_nil (P:=P) w t ty e i z ht hi hz a m c news hl hnews (by omega) (by omega) (by have hb:=hbytes;simp only[Nat.zero_add]at hb;omega)
   rw[hr']at hr
   cases hr
   exact .inr rfl
 ·by_cases hroom:n+m<=cap
  ·have hfit:n*i.size+news.length<=cur.size:=by rw[hl,hcs,←Nat.add_mul];exact Nat.mul_le_mul_right _ hroom
   have hr':=run_append_room (P:=P) w t ty e i ht hi g n cap cur hg a m c news hl hnews h1 hroom hfit
   rw[hr']at hr
   cases hr
   exact .inl rfl
  ·have holds:∀j u,xs[j]?=some u->w.cell? ((⟨g,0,none⟩:Addr).add j)=some u:=hown.cells (g:=g) rfl
   have hr':=run_append_grow (P:=P) w t ty e i z ht hi hz ⟨g,0,none⟩ n cap xs hown.1 holds a m c news hl hnews (by omega) (by omega) (growslice_fits (by omega) hbytes)
   rw[hr']at hr
   cases hr
   exact .inr rfl
theorem wpList_appF {P:Program} {w:World} {ops:Array Oper} {rest:List Oper} {o:Oper} {a:Act} {Q:Exit->Act->World->Prop} {s x:Operand} {t:TypeId}
  (ho:o.op=.call {callee:=.builtin .append,args:=#[s,x],argTypes:=#[t,t]}) (hgd:o.guard=none)
  {e:TypeId} {z:Value} {size bytes:Nat} (ht:P.underlying t=some (.slice e)) (hinfo:(P.info? e).map (λi=>(i.zero,i.size,i.bytes))=some (some z,size,bytes))
  (hzs:z.cells.size=size) (hsz:0<size)
  {base:Nat} {v:Value} {n:Nat} {xs:List Value} (hs:a.eval s=v) (hown:w.ownsRow base e size v n xs)
  {g off m c:Nat} {news:List Value} (hx:a.eval x=.slice (some ⟨g,off,none⟩) m c) (hr:∀j u,news[j]?=some u->w.cell? ⟨g,off+j,none⟩=some u) (hl:news.length=m*size) (h1:∀u∈news,u.oneCell'=true)
  (hbytes:(n+m)*bytes<=140737488355328) (h63:n+m<=9223372036854775807) (hbase:base<=w.heap.size)
  (h:∀v' w',w'.ownsRow base e size v' (n+m) (xs++news)->Below base w w'->w.grownBy w' v.ownBlock->(v'.ownBlock=v.ownBlock∨v'.ownBlock=some w.heap.size)->wpList P ops Q rest (a.put o.dst v') w'):wpList P ops Q (o::rest) a w:=by
 obtain⟨i,hi,hz,hsize,hby⟩:=info_parts hinfo
 refine wpList_plain hgd λK hK=>?_
 obtain⟨v',w',hrun,h2,h3,h4⟩:=run_append_ownF (P:=P) w base t o.type e i z size bytes ht hi hz hsize hby hzs hsz v n xs hown ⟨g,off,none⟩ m c news hl (λj u hu=>by rw[add_zero_spot];exact hr j u hu) h1 (by simp only[maxLen];omega) hbytes hbase
 unfold Oper.wp execOp
 simp only[ho,resolve,invoke,builtin,Sem.run_bind,Sem.run_pure,Result.andThen_ok,List.map_toArray,List.map_cons,List.map_nil,hs,hx,hrun]
 exact hK _ _ (h v' w' h2 ((Below.refl _ _).grown h3 hbase λk hk=>(hown.lt k hk).1) h3 h4)
def oldB (S:Nat):Nat->Obj->Bool:=λb _=>decide (b<S)
def hideR (S:Nat) (v:Value):Nat->Obj->Bool:=λb _=>decide (b<S) || decide (v.ownBlock=some b)
theorem old_cell {S:Nat} {w:World} {p:Addr} {u:Value}:(wo (oldB S) w).cell? p=some u↔(w.cell? p=some u/\S<=p.block):=by
 unfold oldB;rw[wo_cellN (h:=λb=>decide (b<S))];simp
theorem hide_cell {S:Nat} {v:Value} {w:World} {p:Addr} {u:Value}:(wo (hideR S v) w).cell? p=some u↔(w.cell? p=some u/\S<=p.block/\v.ownBlock≠some p.block):=by
 unfold hideR;rw[wo_cellN (h:=λb=>decide (b<S) || decide (v.ownBlock=some b))];simp
theorem CM.new_all {S:Nat} {w:World}:CM (wo (oldB S) w) w:=λ_ _ h=>(old_cell.1 h).1
theorem CM.hide_old {S:Nat} {v:Value} {w:World}:CM (wo (hideR S v) w) (wo (oldB S) w):=λ_ _ h=>by
 obtain⟨h1,h2,_⟩:=hide_cell.1 h
 exact old_cell.2 ⟨h1,h2⟩
theorem CM.row {S:Nat} {v v':Value} {w w1 w':World} (hb:Below w.heap.size w w1) (hg:w1.grownBy w' v.ownBlock) (hv:v'.ownBlock=v.ownBlock∨v'.ownBlock=some w1.heap.size):CM (wo (hideR S v) w) (wo (hideR S v') w'):=λp u h=>by
 obtain⟨h1,h2,h3⟩:=hide_cell.1 h
 have h4:=cell_on h1 hb
 refine hide_cell.2 ⟨hg.cell h4 (λe=>h3 e.symm),h2,?_⟩
 rcases hv with e|e
 ·rw[e];exact h3
 ·rw[e]
  have:=cell_lt h4
  intro h;have h5:=Option.some.inj h;omega
theorem CM.new_row {S T:Nat} {v v':Value} {w1 w2 w':World} (hb:Below w1.heap.size w1 w2) (hST:S<=T) (hv:∀g,v.ownBlock=some g->g<T) (hg:w2.grownBy w' v.ownBlock) (hv':v'.ownBlock=v.ownBlock∨v'.ownBlock=some w2.heap.size):CM (wo (oldB T) w1) (wo (hideR S v') w'):=λp u h=>by
 obtain⟨h1,h2⟩:=old_cell.1 h
 have h4:=cell_on h1 hb
 have hne:v.ownBlock≠some p.block:=λe=>by have:=hv _ e;omega
 refine hide_cell.2 ⟨hg.cell h4 (λe=>hne e.symm),by omega,?_⟩
 rcases hv' with e|e
 ·rw[e];exact hne
 ·rw[e]
  have:=cell_lt h4
  intro h;have h5:=Option.some.inj h;omega
theorem Rd.own_new {w:World} {base:Nat} {e:TypeId} {size n:Nat} {v:Value} {xs:List Value} (h:w.ownsRow base e size v n xs):(wo (oldB base) w).ownsRow base e size v n xs:=by
 refine⟨h.1,?_⟩
 rcases h.2 with h0|⟨g,cap,cur,hv,hg,hh,r⟩
 ·exact .inl h0
 ·refine .inr ⟨g,cap,cur,hv,hg,?_,r⟩
  unfold wo oldB
  simp only[Array.getElem?_mapIdx,hh,Option.map_some]
  rw[if_neg]
  simp;omega
open Um Fm Mt
theorem rd_spell2 {n:Nat} {w:World} {cs:List Value} {x:ExT n} (h:RdE n w cs x):∃(k:Int) (s:ByteArray) (t:Tm) (A:Option Addr) (m c:Nat),cs=[.int .i64 k,.string s,.int .i64 t.k,.string t.x,.string t.l,.string t.y,.slice A m c]:=by
 match n,x,h with
 | n+1,(k,s,t,kids),⟨A,c,h,_⟩=>exact⟨k,s,t,A,_,c,h⟩
theorem patInfoC:(Tryz.prog.info? 43).map (λi=>(i.zero,i.size,i.bytes))=some (some (vPat ⟨⟨⟨#[]⟩,zTm⟩,⟨⟨#[]⟩,zTm⟩,⟨⟨#[]⟩,zTm⟩⟩),15,216):=by kernel_rfl
theorem keyInfoC:(Tryz.prog.info? 177).map (λi=>(i.zero,i.size,i.bytes))=some (some (vKey ⟨⟨#[]⟩,false⟩),2,24):=by kernel_rfl
theorem exprInfoC:(Tryz.prog.info? 82).map (λi=>(i.zero,i.size,i.bytes))=some (some (.agg #[.int .i64 0,.string ⟨#[]⟩,.int .i64 0,.string ⟨#[]⟩,.string ⟨#[]⟩,.string ⟨#[]⟩,.slice none 0 0]),7,104):=by kernel_rfl
theorem strs1C (l:List ByteArray):∀u∈l.map Value.string,u.oneCell'=true:=by intro u hu;obtain⟨x,_,rfl⟩:=List.mem_map.1 hu;rfl
theorem pats1C (l:List Pat):∀u∈l.flatMap cPat,u.oneCell'=true:=by
 intro u hu
 obtain⟨t,_,ht⟩:=List.mem_flatMap.1 hu
 simp only[cPat,List.mem_cons,List.not_mem_nil,or_false]at ht
 rcases ht with rfl|rfl|rfl|rfl|rfl|rfl|rfl|rfl|rfl|rfl|rfl|rfl|rfl|rfl|rfl<;>rfl
theorem keys1C (l:List Ky):∀u∈l.flatMap cKey,u.oneCell'=true:=by
 intro u hu
 obtain⟨t,_,ht⟩:=List.mem_flatMap.1 hu
 simp only[cKey,List.mem_cons,List.not_mem_nil,or_false]at ht
 rcases ht with rfl|rfl<;>rfl
theorem pats_lenC (l:List Pat):(l.flatMap cPat).length=l.length*15:=by
 induction l with
 | nil=>rfl
 | cons a r ih=>simp[List.flatMap_cons,ih,cPat,Nat.add_mul]
theorem keys_lenC (l:List Ky):(l.flatMap cKey).length=l.length*2:=by
 induction l with
 | nil=>rfl
 | cons a r ih=>simp[List.flatMap_cons,ih,cKey,Nat.add_mul]
theorem RdL.flatC {α:Type} {f:α->List Value} {sz:Nat} (hf:∀e,(f e).length=sz) {w:World} {A:Option Addr} {l:List α}:RdL sz (λcs y=>cs=f y) w A l↔Rd w A (l.flatMap f):=by
 constructor
 ·rintro⟨xs,h,ha⟩
  rw[←ha.flat];exact h
 ·intro h
  exact⟨_,h,All.of_flat l λe _=>hf e⟩
def CopyR (n:Nat) (xs:List Value) (w:World) (e:Ending) (w':World):Prop:=∃(A:Option Addr) (c:Nat),e=.returned (.slice A n c)/\n<=c/\Rd (wo (oldB w.heap.size) w') A xs/\Below w.heap.size w w'
def CopyO (n:Nat) (xs:List Value) (w:World) (e:Ending) (w':World):Prop:=∃(A:Option Addr) (c:Nat),e=.returned (.slice A n c)/\n<=c/\Rd (wo (oldB w.heap.size) w') A xs/\w'.ownsRow w.heap.size 43 15 (.slice A n c) n xs/\Below w.heap.size w w'
theorem own_row {w:World} {base g:Nat} {e:TypeId} {size n:Nat} {v:Value} {xs:List Value} {vs:Array Value} (h:w.ownsRow base e size v n xs) (hne:v.ownBlock≠some g):(w.setRow g vs).ownsRow base e size v n xs:=by
 obtain⟨h1,h2⟩:=h
 refine⟨h1,?_⟩
 rcases h2 with h2|⟨g',cap,cur,e1,e2,e3,e4⟩
 ·exact .inl h2
 ·exact .inr ⟨g',cap,cur,e1,e2,by rw[setRow_other _ _ _ _ (λe=>hne (by rw[e1,e];rfl))];exact e3,e4⟩
theorem own_down {w:World} {B B':Nat} {e:TypeId} {size n:Nat} {v:Value} {xs:List Value} (h:w.ownsRow B e size v n xs) (hb:B'<=B):w.ownsRow B' e size v n xs:=by
 obtain⟨h1,h2⟩:=h
 refine⟨h1,?_⟩
 rcases h2 with h2|⟨g,cap,cur,e1,e2,e3⟩
 ·exact .inl h2
 ·exact .inr ⟨g,cap,cur,e1,Nat.le_trans hb e2,e3⟩
theorem own_set {w:World} {B b:Nat} {e:TypeId} {size n:Nat} {v u:Value} {xs:List Value} (h:w.ownsRow B e size v n xs) (hb:b<B) (i:Nat):(w.setCell ⟨b,i,none⟩ u).ownsRow B e size v n xs:=by
 obtain⟨h1,h2⟩:=h
 refine⟨h1,?_⟩
 rcases h2 with h2|⟨g,cap,cur,e1,e2,e3,e4⟩
 ·exact .inl h2
 ·exact .inr ⟨g,cap,cur,e1,e2,by rw[Below.heap_setCell _ _ _ _ (by simp;omega)];exact e3,e4⟩
theorem copyTexts (l:List ByteArray) (A:Option Addr) (c:Nat) (w:World) (hl:l.length<=1048576) (hr:Rd w A (l.map Value.string)) :
  Calls Tryz.prog 39 #[.slice A l.length c] w (CopyR l.length (l.map Value.string) w):=by
 have own0:=World.ownsRow_nil w w.heap.size 9 1
 have hn:(l.map Value.string).length=l.length*1:=by simp
 go_enter Tryz.func39,Tryz.ntmps39
 go_wp2_with (at_builtin;refine wpList_appG rfl rfl Tryz.underlying32 stringInfo' rfl (by omega) rfl own0 rfl hr hn (strs1C _) (by omega) (by omega) (by omega) ?_;intro v4 w4 own4 hb4 _)
 rw[Nat.zero_add,List.nil_append]at own4
 obtain⟨A4,c4,rfl,hc4,r4⟩:=own_slice (Rd.own_new own4)
 go_wp2
 go_ret
 exact⟨A4,c4,rfl,hc4,r4,hb4⟩
theorem copyPats (l:List Pat) (A:Option Addr) (c:Nat) (w:World) (hl:l.length<=1048576) (hr:Rd w A (l.flatMap cPat)) :
  Calls Tryz.prog 40 #[.slice A l.length c] w (CopyO l.length (l.flatMap cPat) w):=by
 have own0:=World.ownsRow_nil w w.heap.size 43 15
 have hn:=pats_lenC l
 go_enter Tryz.func40,Tryz.ntmps40
 go_wp2_with (at_builtin;refine wpList_appG rfl rfl Tryz.underlying23 patInfoC rfl (by omega) rfl own0 rfl hr hn (pats1C _) (by omega) (by omega) (by omega) ?_;intro v4 w4 own4 hb4 _)
 rw[Nat.zero_add,List.nil_append]at own4
 obtain⟨A4,c4,rfl,hc4,r4⟩:=own_slice (Rd.own_new own4)
 go_wp2
 go_ret
 exact⟨A4,c4,rfl,hc4,r4,own4,hb4⟩
theorem copyKeys (l:List Ky) (A:Option Addr) (c:Nat) (w:World) (hl:l.length<=1048576) (hr:Rd w A (l.flatMap cKey)) :
  Calls Tryz.prog 42 #[.slice A l.length c] w (CopyR l.length (l.flatMap cKey) w):=by
 have own0:=World.ownsRow_nil w w.heap.size 177 2
 have hn:=keys_lenC l
 go_enter Tryz.func42,Tryz.ntmps42
 go_wp2_with (at_builtin;refine wpList_appG rfl rfl Tryz.underlying48 keyInfoC rfl (by omega) rfl own0 rfl hr hn (keys1C _) (by omega) (by omega) (by omega) ?_;intro v4 w4 own4 hb4 _)
 rw[Nat.zero_add,List.nil_append]at own4
 obtain⟨A4,c4,rfl,hc4,r4⟩:=own_slice (Rd.own_new own4)
 go_wp2
 go_ret
 exact⟨A4,c4,rfl,hc4,r4,hb4⟩
def CpR (n:Nat) (x:ExT n) (W:World) (e:Ending) (w':World):Prop:=∃ds:List Value,e=.returned (.agg ds.toArray)/\RdE n (wo (oldB W.heap.size) w') ds x/\Below W.heap.size W w'
def CpE (n:Nat):Prop:=∀(x:ExT n) (cs:List Value) (W:World),RdE n W cs x->szE n x->Calls Tryz.prog 81 #[.agg cs.toArray] W (CpR n x W)
def CpI (n:Nat) (l:List (ExT n)) (w:World) (v i:Value) (wr:World):Prop:=∃(k:Nat) (v':Value) (xs:List Value),k<=l.length/\i=.int .i64 k/\v=v'/\wr.ownsRow w.heap.size 82 7 v' k xs/\Below w.heap.size w wr/\All 7 (RdE n (wo (hideR w.heap.size v') wr)) xs (l.take k)
def CpRs (n:Nat) (l:List (ExT n)) (w:World) (e:Ending) (w':World):Prop:=∃(A:Option Addr) (c:Nat),e=.returned (.slice A l.length c)/\l.length<=c/\RdEs n (wo (oldB w.heap.size) w') A l/\Below w.heap.size w w'
theorem copyExprs (n:Nat) (hE:CpE n) (l:List (ExT n)) (A:Option Addr) (c:Nat) (w:World) (hr:RdEs n w A l) (hl:l.length<=1353245080300) (hz:∀x∈l,szE n x) :
  Calls Tryz.prog 41 #[.slice A l.length c] w (CpRs n l w):=by
 go_enter Tryz.func41,Tryz.ntmps41
 go_wp2
 go_loopw [3,4] (CpI n l w) (λ_ i _=>l.length-(intOf i).toNat)
 case atStart=>exact⟨0,_,[],by omega,rfl,rfl,World.ownsRow_nil _ _ _ _,Below.refl _ _,rfl⟩
 case round =>
  obtain⟨k,v',xs,hk,rfl,rfl,own,hB,hA⟩:=hrel
  by_cases hlt:k<l.length
  ·obtain⟨x,hx⟩:∃x,l[k]?=some x:=⟨_,List.getElem?_eq_getElem hlt⟩
   obtain⟨g,o,k1,s1,t1,A1,m1,e1,rfl,hR,c0,c1,c2,c3,c4,c5,c6⟩:=(RdEs.later hr hB).atv hx
   have hc:=hE x _ wr hR (hz x (List.mem_of_getElem? hx))
   have HA:=Lib.hid hA
   have Hx:=Lib.hid hx
   clear hr hR hz hE hA hx
   go_wp2_with fail
   refine hc.mono ?_
   rintro e w1 ⟨ds,rfl,hd,hb1⟩
   obtain⟨k2,s2,t2,A2,m2,e2,rfl⟩:=rd_spell2 hd
   clear c0 c1 c2 c3 c4 c5 c6 hc
   have hb3:Below w1.heap.size w1 ((w1.alloc (.cells #[.int .i64 k2,.string s2,.int .i64 t2.k,.string t2.x,.string t2.l,.string t2.y,.slice A2 m2 e2] 82)).alloc (.cells #[.int .i64 k2,.string s2,.int .i64 t2.k,.string t2.x,.string t2.l,.string t2.y,.slice A2 m2 e2] 82)):=blw
   have own3:=own_below own (below_tr hb1 hb3) (Nat.le_refl _)
   have R3:∀(j:Nat) (u:Value),([.int .i64 k2,.string s2,.int .i64 t2.k,.string t2.x,.string t2.l,.string t2.y,.slice A2 m2 e2]:List Value)[j]?=some u->((w1.alloc (.cells #[.int .i64 k2,.string s2,.int .i64 t2.k,.string t2.x,.string t2.l,.string t2.y,.slice A2 m2 e2] 82)).alloc (.cells #[.int .i64 k2,.string s2,.int .i64 t2.k,.string t2.x,.string t2.l,.string t2.y,.slice A2 m2 e2] 82)).cell? ⟨w1.heap.size+1,0+j,none⟩=some u:=by
    intro j u hu
    rw[World.cell?,heap_two_2 w1 _ _]
    rw[Nat.zero_add]
    simpa using hu
   have hlt':=own.lt
   have Hs:=Lib.hid (⟨hd,hb1,hlt'⟩:_/\_/\_)
   have hks:w.heap.size<=((w1.alloc (.cells #[.int .i64 k2,.string s2,.int .i64 t2.k,.string t2.x,.string t2.l,.string t2.y,.slice A2 m2 e2] 82)).alloc (.cells #[.int .i64 k2,.string s2,.int .i64 t2.k,.string t2.x,.string t2.l,.string t2.y,.slice A2 m2 e2] 82)).heap.size:=Nat.le_trans hB.size (Nat.le_trans hb1.size hb3.size)
   clear hd hlt'
   go_wp2_with (at_builtin;refine wpList_appF rfl rfl Tryz.underlying47 exprInfoC rfl (by omega) rfl own3 rfl R3 rfl (by intro u hu;simp only[List.mem_cons,List.not_mem_nil,or_false]at hu;rcases hu with rfl|rfl|rfl|rfl|rfl|rfl|rfl<;>rfl) (by omega) (by omega) hks ?_;intro v4 w4 own4 hb4 hg4 hv4)
   obtain⟨hd,hb1',hlt'⟩:=Hs.out
   go_roundw
   case rel =>
    refine⟨k+1,v4,_,by omega,by go_num,rfl,own4,(hB.trans ((below_tr hb1 hb3).mono hB.size)).trans hb4,?_⟩
    rw[take_snoc_of Hx.out]
    refine All.append (All.mono HA.out λcs e _ h=>h.cm (CM.row (below_tr hb1 hb3) hg4 hv4)) (All.one rfl (hd.cm (CM.new_row hb3 hB.size (λq hq=>(hlt' q hq).2) hg4 hv4)))
   case measure=>simp[intOf];omega
  ·obtain rfl:k=l.length:=by omega
   rw[List.take_length]at hA
   have HA:=Lib.hid hA
   have Own:=Lib.hid own
   clear hA own hr
   go_wp2
   go_ret
   obtain⟨A4,c4,rfl,hc4,r4⟩:=own_slice (Rd.own_new Own.out)
   exact⟨A4,c4,rfl,hc4,⟨_,r4,HA.out.mono λcs e _ h=>h.cm CM.hide_old⟩,hB⟩
theorem CM.lower {S T:Nat} {w:World} (h:S<=T):CM (wo (oldB T) w) (wo (oldB S) w):=λp u x=>by
 obtain⟨h1,h2⟩:=old_cell.1 x
 exact old_cell.2 ⟨h1,by omega⟩
theorem CM.setOld {T:Nat} {w0 w:World} {a:Addr} {v:Value} (h:CM (wo (oldB T) w0) (wo (oldB T) w)) (ha:a.block<T):CM (wo (oldB T) w0) (wo (oldB T) (w.setCell a v)):=λp u x=>by
 obtain⟨h1,h2⟩:=old_cell.1 (h p u x)
 refine old_cell.2 ⟨?_,h2⟩
 rw[World.cell?_of_block (heap_setCell_other _ _ _ _ (by omega))]
 exact h1
theorem CM.rowOld {T:Nat} {w0 w:World} {g:Nat} {vs:Array Value} (h:CM (wo (oldB T) w0) (wo (oldB T) w)) (ha:g<T):CM (wo (oldB T) w0) (wo (oldB T) (w.setRow g vs)):=λp u x=>by
 obtain⟨h1,h2⟩:=old_cell.1 (h p u x)
 exact old_cell.2 ⟨cell_row h1 (by omega),h2⟩
theorem cell_of_row {w:World} {g j:Nat} {cs:Array Value} {t:TypeId} {f:Nat × Nat} {u:Value} (h:w.heap[g]?=some (.cells cs t f)) (hj:cs[j]?=some u):w.cell? ⟨g,j,none⟩=some u:=by
 rw[World.cell?,h];exact hj
theorem kitCopyE:∀n:Nat,CpE n
 | 0=>λx _ _ h _=>h.elim
 | n+1=>by
  rintro⟨k,s,t,ks⟩ cs W ⟨A,c,rfl,hc1,hr⟩ ⟨z1,z2,z3,z4⟩
  have hB2:Below W.heap.size W ((W.alloc (.cells #[.int .i64 k,.string s,.int .i64 t.k,.string t.x,.string t.l,.string t.y,.slice A ks.length c] 82)).alloc (.cells #[.int .i64 0,.string ⟨#[]⟩,.int .i64 0,.string ⟨#[]⟩,.string ⟨#[]⟩,.string ⟨#[]⟩,.slice none 0 0] 82)):=blw
  have hL:=copyExprs n (kitCopyE n) ks A c _ (RdEs.later hr hB2) z3 z4
  clear hr
  go_enter Tryz.func81,Tryz.ntmps81
  go_wp2_with fail
  refine hL.mono ?_
  rintro e w2 ⟨A',c',rfl,hc',hd,hb2⟩
  have hs:=hb2.size
  obtain⟨-,hf⟩:=bcell hb2
  have r1:w2.heap[W.heap.size]?=some (.cells #[.int .i64 k,.string s,.int .i64 t.k,.string t.x,.string t.l,.string t.y,.slice A ks.length c] 82 (0,0)):=by rw[hb2.block _ (by simp;omega)];exact heap_two_1 W _ _
  have r2:w2.heap[W.heap.size+1]?=some (.cells #[.int .i64 0,.string ⟨#[]⟩,.int .i64 0,.string ⟨#[]⟩,.string ⟨#[]⟩,.string ⟨#[]⟩,.slice none 0 0] 82 (0,0)):=by rw[hb2.block _ (by simp)];exact heap_two_2 W _ _
  have s6:w2.cell? ⟨W.heap.size,6,none⟩=some (.slice A ks.length c):=cell_of_row r1 rfl
  have t1:(w2.setCell ⟨W.heap.size,6,none⟩ (.slice A' ks.length c')).heap[W.heap.size]?=some (.cells #[.int .i64 k,.string s,.int .i64 t.k,.string t.x,.string t.l,.string t.y,.slice A' ks.length c'] 82 (0,0)):=by rw[heap_setCell_same _ _ _ _ _ _ r1];rfl
  have t2:(w2.setCell ⟨W.heap.size,6,none⟩ (.slice A' ks.length c')).heap[W.heap.size+1]?=some (.cells #[.int .i64 0,.string ⟨#[]⟩,.int .i64 0,.string ⟨#[]⟩,.string ⟨#[]⟩,.string ⟨#[]⟩,.slice none 0 0] 82 (0,0)):=by rw[heap_setCell_other _ _ _ _ (by simp)];exact r2
  have u0:(w2.setCell ⟨W.heap.size,6,none⟩ (.slice A' ks.length c')).cell? ⟨W.heap.size,0,none⟩=some (.int .i64 k):=cell_of_row t1 rfl
  have u1:(w2.setCell ⟨W.heap.size,6,none⟩ (.slice A' ks.length c')).cell? ⟨W.heap.size,1,none⟩=some (.string s):=cell_of_row t1 rfl
  have u2:(w2.setCell ⟨W.heap.size,6,none⟩ (.slice A' ks.length c')).cell? ⟨W.heap.size,2,none⟩=some (.int .i64 t.k):=cell_of_row t1 rfl
  have u3:(w2.setCell ⟨W.heap.size,6,none⟩ (.slice A' ks.length c')).cell? ⟨W.heap.size,3,none⟩=some (.string t.x):=cell_of_row t1 rfl
  have u4:(w2.setCell ⟨W.heap.size,6,none⟩ (.slice A' ks.length c')).cell? ⟨W.heap.size,4,none⟩=some (.string t.l):=cell_of_row t1 rfl
  have u5:(w2.setCell ⟨W.heap.size,6,none⟩ (.slice A' ks.length c')).cell? ⟨W.heap.size,5,none⟩=some (.string t.y):=cell_of_row t1 rfl
  have u6:(w2.setCell ⟨W.heap.size,6,none⟩ (.slice A' ks.length c')).cell? ⟨W.heap.size,6,none⟩=some (.slice A' ks.length c'):=cell_of_row t1 rfl
  have x0:((w2.setCell ⟨W.heap.size,6,none⟩ (.slice A' ks.length c')).setRow (W.heap.size+1) #[.int .i64 k,.string s,.int .i64 t.k,.string t.x,.string t.l,.string t.y,.slice A' ks.length c']).cell? ⟨W.heap.size+1,0,none⟩=some (.int .i64 k):=by rw[cell_setRow_same _ _ _ _ _ _ _ t2];rfl
  have x1:((w2.setCell ⟨W.heap.size,6,none⟩ (.slice A' ks.length c')).setRow (W.heap.size+1) #[.int .i64 k,.string s,.int .i64 t.k,.string t.x,.string t.l,.string t.y,.slice A' ks.length c']).cell? ⟨W.heap.size+1,1,none⟩=some (.string s):=by rw[cell_setRow_same _ _ _ _ _ _ _ t2];rfl
  have x2:((w2.setCell ⟨W.heap.size,6,none⟩ (.slice A' ks.length c')).setRow (W.heap.size+1) #[.int .i64 k,.string s,.int .i64 t.k,.string t.x,.string t.l,.string t.y,.slice A' ks.length c']).cell? ⟨W.heap.size+1,2,none⟩=some (.int .i64 t.k):=by rw[cell_setRow_same _ _ _ _ _ _ _ t2];rfl
  have x3:((w2.setCell ⟨W.heap.size,6,none⟩ (.slice A' ks.length c')).setRow (W.heap.size+1) #[.int .i64 k,.string s,.int .i64 t.k,.string t.x,.string t.l,.string t.y,.slice A' ks.length c']).cell? ⟨W.heap.size+1,3,none⟩=some (.string t.x):=by rw[cell_setRow_same _ _ _ _ _ _ _ t2];rfl
  have x4:((w2.setCell ⟨W.heap.size,6,none⟩ (.slice A' ks.length c')).setRow (W.heap.size+1) #[.int .i64 k,.string s,.int .i64 t.k,.string t.x,.string t.l,.string t.y,.slice A' ks.length c']).cell? ⟨W.heap.size+1,4,none⟩=some (.string t.l):=by rw[cell_setRow_same _ _ _ _ _ _ _ t2];rfl
  have x5:((w2.setCell ⟨W.heap.size,6,none⟩ (.slice A' ks.length c')).setRow (W.heap.size+1) #[.int .i64 k,.string s,.int .i64 t.k,.string t.x,.string t.l,.string t.y,.slice A' ks.length c']).cell? ⟨W.heap.size+1,5,none⟩=some (.string t.y):=by rw[cell_setRow_same _ _ _ _ _ _ _ t2];rfl
  have x6:((w2.setCell ⟨W.heap.size,6,none⟩ (.slice A' ks.length c')).setRow (W.heap.size+1) #[.int .i64 k,.string s,.int .i64 t.k,.string t.x,.string t.l,.string t.y,.slice A' ks.length c']).cell? ⟨W.heap.size+1,6,none⟩=some (.slice A' ks.length c'):=by rw[cell_setRow_same _ _ _ _ _ _ _ t2];rfl
  have hEi:(Tryz.prog.info? 82).map (·.size)=some 7:=by kernel_rfl
  have T2:=Lib.hid t2
  have HR:=Lib.hid (hd.cm (CM.setOld (a:=⟨W.heap.size,6,none⟩) (v:=.slice A' ks.length c') (CM.refl _) (by simp;omega)))
  have HB:=Lib.hid (below_setRow ((hB2.trans (hb2.mono (by simp;omega))).setCell (p:=⟨W.heap.size,6,none⟩) (Nat.le_refl _) (.slice A' ks.length c')) (by omega:W.heap.size<=W.heap.size+1) #[.int .i64 k,.string s,.int .i64 t.k,.string t.x,.string t.l,.string t.y,.slice A' ks.length c'])
  clear hL hd hb2 hB2 r1 r2 t1 t2
  go_wp2_with (refine wpList_store_row rfl 82 _ _ rfl rfl rfl hEi T2.out rfl rfl ?_)
  (try simp only[Act.put])
  refine bodyPost_ret (v:=.agg #[.int .i64 k,.string s,.int .i64 t.k,.string t.x,.string t.l,.string t.y,.slice A' ks.length c']) ?_ rfl ?_
  ·simp[results,Tryz.results81,go_sem,x0,x1,x2,x3,x4,x5,x6]
  ·refine⟨_,rfl,⟨A',c',rfl,hc',?_⟩,HB.out⟩
   exact RdEs.cm HR.out (CM.trans (CM.rowOld (CM.refl _) (by simp)) (CM.lower (by simp;omega)))
end Go.Proofs.YtoaemihcbmlkgaaGreatDoor
