/- The program's package mean, walked: all's iterator; the rows -/
import Derived.Test.YtoaemihcbmlkgaaGreatDoorJMn6
import Derived.Deep.MidRow
import Derived.Lib.AppendIntMem
import Derived.Lib.ItoaLen
set_option maxHeartbeats 4000000
set_option maxRecDepth 100000
namespace Go.Proofs.YtoaemihcbmlkgaaGreatDoor
open Go Go.RowKit Go.Maps Go.ChangeMaps Go.Shelf Um Fm Mt Tx Om Mv Mn
theorem mAll1 {base B ab r b1 b2 l m N:Nat} {As Ap Av:Option Addr} {ns cs np cp nv cv:Nat} {set:List Tp} {pats:List Pat} {vars:List ByteArray} {O:List (List Tm)->World->Prop} {K:World->Prop}
  (hO:∀rows X Y,O rows X->X.grownBy Y (some r)->(∃f,FdOf Y r f)->O rows Y) (hK:∀X Y,K X->KeepsBut r X Y->K Y)
  (hY:∀pre x X,YieldJ (base:=base) (B:=B) O N pre x X->K X->YieldAt Fence.wide m Tryz.prog l #[x.v] X λe Y=>e=.returned (.bool true)/\YieldP O pre x Y/\K Y)
  (hrB:r<B) (hnv:vars.length=nv) (hln:nv<=1000) (hns:set.length=ns) (hls:ns<=1000000) (hnp:pats.length=np) (hlp:np<=1000000) (hN:(dfs set pats noB).length<=N)
  (W:World) (E:EnvM base ab r b1 b2 As Ap Av ns cs np cp nv cv set pats vars W) (hM:FdOf W r (encB noB)) (hbs:base<=W.heap.size) (ho:O [] W) (hk:K W) :
  Calls Tryz.prog 50 #[.func (.yield l) #[] #[],.pointer (some ⟨b2,0,none⟩),.pointer (some ⟨b1,0,none⟩)] W λe Y =>
   (∃v,e=.returned v)/\∃xs:List (Yl base B),xs.map (·.row)=(dfs set pats noB).map (rowB vars)/\O (xs.map (·.row)) Y/\K Y/\FdOf Y r (encB noB)/\Sw base W Y:=by
 obtain⟨V,hV⟩:∃V:World,W.alloc (.cells #[.func (.yield l) #[] #[]] 85)=V:=⟨_,rfl⟩
 have hb:Below W.heap.size W V:=by rw[←hV];exact blw
 have hcall:=mFrom (b3':=W.heap.size) hO hK hY hrB hnv hln hns hls hnp hlp pats 0 rfl (by omega) noB V [] (E.keep (Sw.below hb)) (by rw[←hV];exact heap_alloc_new _ _) (hM.on hb) (by simpa using hN) (Nat.le_trans hbs hb.size) (hO _ _ _ ho (grown_below hb) ⟨_,hM.on hb⟩) (hK _ _ hk (KeepsBut.grown (grown_below hb)))
 have a2:W.cell? ⟨b2,0,none⟩=some (.pointer (some ⟨ab,0,none⟩)):=by rw[World.cell?,E.bx2];rfl
 have hlt:=cell_lt a2
 simp only at hlt
 have HS:Hid (Sw base W V):=Sw.below hb
 clear E hM ho hk hb
 subst hV
 go_enter Tryz.func50,Tryz.ntmps50
 go_wp2_with (go_at_call 51;refine hcall.mono ?_;rintro e Y ⟨rfl,xs,hxs,ho,hk,hM,hs⟩)
 go_end0
 exact⟨⟨_,rfl⟩,xs,hxs,by simpa using ho,hk,hM,HS.out.trans hs⟩
def SolO (w:World) (r:Nat) (rows:List (List Tm)) (X:World):Prop:=
 (∃v,X.heap[w.heap.size]?=some (.cells #[v] 33 (0,0))/\OwnRs w.heap.size X v rows)/\Below w.heap.size w X/\∃f,FdOf X r f
theorem SolO.on {w:World} {r:Nat} {rows:List (List Tm)} {X Y:World} (h:SolO w r rows X) (hr:w.heap.size<=r) (hg:X.grownBy Y (some r)) (hf:∃f,FdOf Y r f):SolO w r rows Y:=by
 obtain⟨⟨v,h1,h2⟩,h3,f,hM⟩:=h
 exact⟨⟨v,KeepT.grownM hM hg _ _ _ _ h1,h2.keep (KeepT.grownM hM hg _) (KeepT.grownM hM hg _)⟩,h3.grown hg h3.size (λk e=>by injection e with e;omega),hf⟩
theorem far_keeps {B:Nat} {X Y:World} {row:Option Nat} (hg:X.grownBy Y row) (hr:∀q,row=some q->B<=q/\∃o:Obj,X.heap[q]?=some o/\o.isCells=false):(∀base,Sv base B X Y)/\∀e,KeepT e X Y:=by
 refine⟨λbase=>⟨hg.size,λk o hk _ hor=>?_⟩,λe k cur fr hk=>?_⟩
 ·rw[hg.block k (Array.getElem?_eq_some_iff.1 hk).1 (λe=>?_)];exact hk
  obtain⟨h1,o',h2,h3⟩:=hr k e.symm
  rcases hor with h|h
  ·omega
  ·rw[hk]at h2;injection h2 with h2;subst h2;rw[h]at h3;cases h3
 ·rw[hg.block k (Array.getElem?_eq_some_iff.1 hk).1 (λe=>?_)];exact hk
  obtain⟨_,o',h2,h3⟩:=hr k e.symm
  rw[hk]at h2;injection h2 with h2;subst h2;cases h3
theorem SolO.far {w:World} {r B:Nat} {rows:List (List Tm)} {X Y:World} {row:Option Nat} (h:SolO w r rows X) (hrB:r<B) (hB:w.heap.size<=B) (hg:X.grownBy Y row) (hr:∀q,row=some q->B<=q/\∃o:Obj,X.heap[q]?=some o/\o.isCells=false):SolO w r rows Y:=by
 obtain⟨⟨v,h1,h2⟩,h3,f,hM⟩:=h
 obtain⟨hs,hk⟩:=far_keeps hg hr
 exact⟨⟨v,hk _ _ _ _ h1,h2.keep (hk _) (hk _)⟩,h3.grown hg h3.size (λk e=>by have:=(hr k e).1;omega),f,(hs 0).fd hM hrB⟩
open Lx
theorem drop_end {α:Type} (l:List α) {k:Nat} (h:l.length=k):l.drop k=[]:=List.drop_eq_nil_of_le (by omega)
def smallRow (r:List Tm):Prop:=r.length<=1000000/\∀t∈r,smallT t
theorem cmpRows (a b:List Tm) (A B:Option Addr) (c d n m:Nat) (w:World) (hn:a.length=n) (hm:b.length=m) (hC:CtxT w) (ha:RdTs w A a) (hb:RdTs w B b) (za:smallRow a) (zb:smallRow b) :
  Calls Tryz.prog 55 #[.slice A n c,.slice B m d,.func (.func 29) #[] #[]] w λe w'=>e=.returned (.int .i64 (cmpRow a b))/\Below w.heap.size w w':=by
 have hln:n<=1000000:=by rw[←hn];exact za.1
 have hlm:m<=1000000:=by rw[←hm];exact zb.1
 have HN:=Lib.hid hn
 have HM:=Lib.hid hm
 have HA:=Lib.hid (And.intro ha za)
 have HB:=Lib.hid (And.intro hb zb)
 have HC:=Lib.hid hC
 clear hn hm ha hb za zb hC
 go_enter Tryz.func55,Tryz.ntmps55
 go_wp2
 go_loopw [7,8,9,10,13] (λu7 u8 u9 u10 i wr=>∃k:Nat,k<=n/\k<=m/\i=.int .i64 k/\Hid (cmpRow a b=cmpRow (a.drop k) (b.drop k))/\Hid (Below w.heap.size w wr)) (λ_ _ _ _ i _=>n-(intOf i).toNat)
 case atStart=>exact⟨0,by omega,by omega,rfl,rfl,Below.refl _ _⟩
 case round =>
  obtain⟨k,hk,hkm,rfl,H1,HBw⟩:=hrel
  by_cases hlt:k<n
  ·obtain⟨x,hx⟩:∃x,a[k]?=some x:=⟨_,List.getElem?_eq_getElem (by rw[HN.out];exact hlt)⟩
   obtain⟨g,o,rfl,a0,a1,a2,a3⟩:=(RdTs.later HA.out.1 HBw.out).at4 hx
   have hxs:=HA.out.2.2 x (List.mem_of_getElem? hx)
   by_cases hlt2:k<m
   ·obtain⟨y,hy⟩:∃y,b[k]?=some y:=⟨_,List.getElem?_eq_getElem (by rw[HM.out];exact hlt2)⟩
    obtain⟨g2,o2,rfl,b0,b1,b2,b3⟩:=(RdTs.later HB.out.1 HBw.out).at4 hy
    have hys:=HB.out.2.2 y (List.mem_of_getElem? hy)
    have hg:=cell_lt b0
    have hst:Hid (cmpRow a b=orZ (cmpTm x y) (cmpRow (a.drop (k+1)) (b.drop (k+1)))):=by
     show _=_
     rw[H1.out,drop_cons_of hx,drop_cons_of hy];rfl
    have hW:Below wr.heap.size wr ((wr.alloc (.cells #[.int .i64 x.k,.string x.x,.string x.l,.string x.y] 26)).alloc (.cells #[.int .i64 y.k,.string y.x,.string y.l,.string y.y] 26)):=blw
    have hcall:=termCompare x y _ (HC.out.step (below_tr HBw.out hW)) hxs hys
    have HW:=Lib.hid (below_tr HBw.out hW)
    have hd1:decide (m<=k)=false:=by simp;omega
    clear hx hy hxs hys hW H1
    by_cases hz:cmpTm x y=0
    ·have hst2:Hid (cmpRow a b=cmpRow (a.drop (k+1)) (b.drop (k+1))):=by show _=_;rw[hst.out,hz];rfl
     rw[hz]at hcall
     clear hst hz
     go_wp2_with (refine hcall.mono ?_;rintro e w1 ⟨rfl,hb1⟩;have HF:=Lib.hid (below_tr HW.out hb1);clear hb1 hcall)
     go_roundw
     case rel=>exact⟨k+1,by omega,by omega,by go_num,hst2,HF⟩
     case measure=>simp[intOf];omega
    ·have hst2:Hid (cmpRow a b=cmpTm x y):=by show _=_;rw[hst.out];unfold orZ;rw[if_neg hz]
     have hz2:(cmpTm x y != 0)=true:=by rw[bne_iff_ne];exact hz
     generalize cmpTm x y=z at *
     clear hst hz
     go_wp2_with (refine hcall.mono ?_;rintro e w1 ⟨rfl,hb1⟩;have HF:=Lib.hid (below_tr HW.out hb1);clear hb1 hcall)
     go_ret
     exact⟨by rw[hst2.out];rfl,HF.out⟩
   ·obtain rfl:k=m:=by omega
    have hst2:Hid (cmpRow a b=1):=by
     show _=_
     rw[H1.out,drop_cons_of hx,drop_end b HM.out];rfl
    have hd1:decide (k<=k)=true:=by simp
    have HF:=Lib.hid (below_tr HBw.out ((Below.refl wr.heap.size wr).alloc (Nat.le_refl _) (.cells #[.int .i64 x.k,.string x.x,.string x.l,.string x.y] 26)))
    clear hx hxs H1
    go_wp2
    go_ret
    exact⟨by rw[hst2.out];rfl,HF.out⟩
  ·obtain rfl:k=n:=by omega
   by_cases hlt2:k<m
   ·have hst2:Hid (cmpRow a b = -1):=by
     show _=_
     obtain⟨y,hy⟩:∃y,b[k]?=some y:=⟨_,List.getElem?_eq_getElem (by rw[HM.out];exact hlt2)⟩
     rw[H1.out,drop_cons_of hy,drop_end a HN.out];rfl
    have hd1:decide (k<m)=true:=by simp;omega
    clear H1
    go_wp2
    go_ret
    exact⟨by rw[hst2.out];rfl,HBw.out⟩
   ·obtain rfl:k=m:=by omega
    have hst2:Hid (cmpRow a b=0):=by
     show _=_
     rw[H1.out,drop_end a HN.out,drop_end b HM.out];rfl
    have hd1:decide (k<k)=false:=by simp
    clear H1
    go_wp2
    go_ret
    exact⟨by rw[hst2.out];rfl,HBw.out⟩
namespace Om
variable {α:Type}
def onceF [DecidableEq α] (acc:List α) (r:α):List α:=if r∈acc then acc else acc++[r]
def onceL [DecidableEq α] (l:List α):List α:=l.foldl onceF []
section
variable [DecidableEq α]
theorem once_snoc (l:List α) (r:α):onceL (l++[r])=onceF (onceL l) r:=by simp[onceL,List.foldl_append]
theorem once_mem (l:List α) (x:α):x∈onceL l↔x∈l:=by
 rw[←List.reverse_reverse l]
 induction l.reverse with
 | nil=>simp[onceL]
 | cons r l ih =>
  rw[List.reverse_cons,once_snoc]
  unfold onceF
  split
  ·rename_i h
   rw[ih,List.mem_append]
   refine⟨.inl,λh2=>h2.elim id λe=>?_⟩
   simp only[List.mem_cons,List.not_mem_nil,or_false]at e
   subst e;exact ih.1 (by
    by_cases hx:x∈onceL l.reverse
    ·exact hx
    ·exact absurd h hx)
  ·rw[List.mem_append,List.mem_append,ih]
theorem once_nodup (l:List α):(onceL l).Nodup:=by
 rw[←List.reverse_reverse l]
 induction l.reverse with
 | nil=>simp[onceL]
 | cons r l ih =>
  rw[List.reverse_cons,once_snoc]
  unfold onceF
  split
  ·exact ih
  ·rename_i h
   rw[List.nodup_append]
   refine⟨ih,by simp,λa ha b hb e=>?_⟩
   simp only[List.mem_cons,List.not_mem_nil,or_false]at hb
   subst hb;subst e;exact h ha
end
end Om
def rightT (vars:List ByteArray) (rows:List (List Tm)):Bool:=decide vars.Nodup && !rows.any λr=>r.length != vars.length
theorem heap_setCell_at {w:World} {b:Nat} {cur:Array Value} {T:TypeId} {fr:Nat × Nat} (h:w.heap[b]?=some (Obj.cells cur T fr)) (i:Nat) (v:Value):(w.setCell ⟨b,i,none⟩ v).heap[b]?=some (Obj.cells (cur.setIfInBounds i v) T fr):=by
 simp[World.setCell,Array.getElem?_modify,h]
def placesL (vars names:List ByteArray):List Int:=names.map λs=>Lib.idxOfS vars s
def keysP (ps:List Int) (keys:List Ky):List (Nat × Bool):=List.zipWith (λp k=>(p.toNat,k.d)) ps keys
theorem keysP_drop {ps:List Int} {keys:List Ky} {k:Nat} {p:Int} {y:Ky} (hp:ps[k]?=some p) (hy:keys[k]?=some y):keysP (ps.drop k) (keys.drop k)=(p.toNat,y.d)::keysP (ps.drop (k+1)) (keys.drop (k+1)):=by
 rw[drop_cons_of hp,drop_cons_of hy];rfl
def putAt (cur:Array Value):Nat->List Value->Array Value
 | _,[]=>cur
 | o,v::r=>putAt (cur.setIfInBounds o v) (o+1) r
theorem putAt_size:∀(vs:List Value) (o:Nat) (cur:Array Value),(putAt cur o vs).size=cur.size
 | [],_,_=>rfl
 | v::r,o,cur=>by rw[putAt,putAt_size r];simp
theorem putAt_mid:∀(vs pre old post:List Value),old.length=vs.length->putAt (pre++(old++post)).toArray pre.length vs=(pre++(vs++post)).toArray
 | [],pre,old,post,h=>by
  have:old=[]:=List.eq_nil_of_length_eq_zero h
  subst this;rfl
 | v::r,pre,[],post,h=>by cases h
 | v::r,pre,u::old,post,h=>by
  have ih:=putAt_mid r (pre++[v]) old post (by simpa using h)
  rw[List.length_append,List.length_singleton]at ih
  have e:(pre++(u::old++post)).toArray.setIfInBounds pre.length v=(pre++[v]++(old++post)).toArray:=by
   rw[List.setIfInBounds_toArray,List.set_append_right _ _ (Nat.le_refl _),Nat.sub_self]
   simp
  rw[putAt,e,ih]
  simp
theorem putAt_low:∀(vs:List Value) (o:Nat) (cur:Array Value) (k:Nat),k<=o->(putAt cur o vs).toList.take k=cur.toList.take k
 | [],_,_,_,_=>rfl
 | v::r,o,cur,k,h=>by
  rw[putAt,putAt_low r (o+1) _ k (by omega),Array.toList_setIfInBounds,List.take_set_of_le h]
theorem heap_setCells (b:Nat) (T:TypeId) (fr:Nat × Nat):∀(vs:List Value) (o:Nat) (w:World) (cur:Array Value),w.heap[b]?=some (.cells cur T fr)->(w.setCells b o vs).heap[b]?=some (.cells (putAt cur o vs) T fr)
 | [],_,_,_,h=>h
 | v::r,o,w,cur,h=>by
  rw[World.setCells,putAt]
  refine heap_setCells b T fr r (o+1) _ _ ?_
  simp[World.setCell,Array.getElem?_modify,h]
theorem below_setCells {B b:Nat} (hB:B<=b):∀(vs:List Value) (o:Nat) (w:World),Below B w (w.setCells b o vs)
 | [],_,w=>Below.refl B w
 | v::r,o,w=>by
  rw[World.setCells]
  exact((Below.refl B w).setCell (p:=⟨b,o,none⟩) hB v).trans (below_setCells hB r (o+1) _)
theorem run_clear_cells {P:Program} (w:World) (t e ty:TypeId) (z:Value) (ht:P.underlying t=some (.slice e)) (hv:∀w,(zeroValue e).run P w=.ok z w) (b o n c:Nat) (hn:0<n)
  (h1:∀u∈(Builtin.zeroCells z.cells n).toList,u.oneCell'=true) (hc:∀j,j<(Builtin.zeroCells z.cells n).size->(w.cell? ⟨b,o+j,none⟩).isSome=true/\w.frozen? ⟨b,o+j,none⟩=false) :
  (Builtin.clear_ #[t] ty #[.slice (some ⟨b,o,none⟩) n c]).run P w=.ok (.tuple #[]) (w.setCells b o (Builtin.zeroCells z.cells n).toList):=by
 have hst:=run_storeCells_cells (P:=P) b o (Builtin.zeroCells z.cells n).toList 0 w (λj hj=>(hc j (by simpa using hj)).1) (λj hj=>(hc j (by simpa using hj)).2) h1
 simp only[Nat.add_zero]at hst
 obtain⟨m,rfl⟩:∃m,n=m+1:=⟨n-1,by omega⟩
 simp[Builtin.clear_,run_underlying ht,hv,hst]
def RowV (g:Nat) (vs rest:List Value) (w:World):Prop:=w.heap[g]?=some (Obj.cells (vs++rest).toArray 36 (0,0))
theorem RowV.cell {g:Nat} {vs rest:List Value} {w:World} (h:RowV g vs rest w) {j:Nat} {v:Value} (hv:vs[j]?=some v):w.cell? ⟨g,j,none⟩=some v:=by
 rw[Lib.cell_of_heap h,List.getElem?_toArray,List.getElem?_append_left (List.getElem?_eq_some_iff.1 hv).1];exact hv
theorem RowV.frozen {g:Nat} {vs rest:List Value} {w:World} (h:RowV g vs rest w) (i:Nat):w.frozen? ⟨g,i,none⟩=false:=Lib.frozen_of_heap h i
theorem RowV.lt {g:Nat} {vs rest:List Value} {w:World} (h:RowV g vs rest w):g<w.heap.size:=(Array.getElem?_eq_some_iff.1 h).1
end Go.Proofs.YtoaemihcbmlkgaaGreatDoor
namespace Go.Proofs.YtoaemihcbmlkgaaGreatDoor.Mp
open Go Go.RowKit Go.Maps Go.ChangeMaps
def entsFrom:Nat->List (ByteArray × Int)->List MapEntry
 | _,[]=>[]
 | k,p::m=>{key:=.string p.1,val:=.int .i64 p.2,born:=k}::entsFrom (k+1) m
def ents (m:List (ByteArray × Int)):Array MapEntry:=(entsFrom 0 m).toArray
def CntOf (w:World) (r:Nat) (m:List (ByteArray × Int)):Prop:=w.heap[r]?=some (.map (ents m) m.length)
def lookI:List (ByteArray × Int)->ByteArray->Int
 | [],_=>0
 | p::m,s=>if p.1=s then p.2 else lookI m s
def idxM:List (ByteArray × Int)->ByteArray->Option Nat
 | [],_=>none
 | p::m,s=>if p.1=s then some 0 else (idxM m s).map (· + 1)
def setM:List (ByteArray × Int)->ByteArray->Int->List (ByteArray × Int)
 | [],s,v=>[(s,v)]
 | p::m,s,v=>if p.1=s then (s,v)::m else p::setM m s v
theorem look_setM (s t:ByteArray) (v:Int):∀m:List (ByteArray × Int),lookI (setM m s v) t=if s=t then v else lookI m t
 | []=>by simp[setM,lookI]
 | p::m=>by
  unfold setM
  by_cases h:p.1=s
  ·rw[if_pos h]
   simp only[lookI,h]
   by_cases h2:s=t<;>simp[h2]
  ·rw[if_neg h]
   simp only[lookI]
   rw[look_setM s t v m]
   by_cases h2:p.1=t
   ·have:¬ s=t:=λe=>h (h2.trans e.symm)
    simp[h2,this]
   ·simp[h2]
theorem find_ents (s:ByteArray):∀(m:List (ByteArray × Int)) (k j:Nat),Instr.findNow .string (.string s) (entsFrom k m) j=some ((idxM m s).map λi=>(j+i,.int .i64 (lookI m s)))
 | [],_,_=>rfl
 | p::m,k,j=>by
  unfold entsFrom Instr.findNow
  simp only[Instr.sameNow]
  by_cases h:p.1=s
  ·have hb:(s == p.1)=true:=(MapKept.bytes_beq _ _).2 h.symm
   rw[hb]
   simp[idxM,lookI,h]
  ·have hb:(s == p.1)=false:=by
    cases hx:(s == p.1)
    ·rfl
    ·exact absurd ((MapKept.bytes_beq _ _).1 hx).symm h
   simp only[hb,idxM,lookI,h,if_false]
   rw[find_ents s m (k+1) (j+1)]
   cases idxM m s with
   | none=>rfl
   | some i=>simp;omega
theorem ents_at:∀(m:List (ByteArray × Int)) (k i:Nat) (s:ByteArray),idxM m s=some i->(entsFrom k m)[i]?=some {key:=.string s,val:=.int .i64 (lookI m s),born:=k+i}
 | [],_,_,_,h=>by cases h
 | p::m,k,i,s,h=>by
  unfold idxM at h
  by_cases hp:p.1=s
  ·rw[if_pos hp]at h
   obtain rfl:0=i:=by simpa using h
   simp[entsFrom,lookI,hp]
  ·rw[if_neg hp]at h
   obtain⟨j,hj,rfl⟩:=Option.map_eq_some_iff.1 h
   simp only[entsFrom,List.getElem?_cons_succ,lookI,hp,if_false]
   rw[ents_at m (k+1) j s hj]
   simp;omega
theorem ents_set:∀(m:List (ByteArray × Int)) (k i:Nat) (s:ByteArray) (v:Int),idxM m s=some i ->
  (entsFrom k m).modify i (λe=>{e with val:=.int .i64 v})=entsFrom k (setM m s v)/\(setM m s v).length=m.length
 | [],_,_,_,_,h=>by cases h
 | p::m,k,i,s,v,h=>by
  unfold idxM at h
  by_cases hp:p.1=s
  ·rw[if_pos hp]at h
   obtain rfl:0=i:=by simpa using h
   simp[entsFrom,setM,hp]
  ·rw[if_neg hp]at h
   obtain⟨j,hj,rfl⟩:=Option.map_eq_some_iff.1 h
   obtain⟨h1,h2⟩:=ents_set m (k+1) j s v hj
   simp[entsFrom,setM,hp,List.modify_succ_cons,h1,h2]
theorem ents_app:∀(m:List (ByteArray × Int)) (k:Nat) (s:ByteArray) (v:Int),idxM m s=none ->
  entsFrom k (setM m s v)=entsFrom k m++[{key:=.string s,val:=.int .i64 v,born:=k+m.length}]/\(setM m s v).length=m.length+1
 | [],k,s,v,_=>by simp[entsFrom,setM]
 | p::m,k,s,v,h=>by
  unfold idxM at h
  by_cases hp:p.1=s
  ·rw[if_pos hp]at h;cases h
  ·rw[if_neg hp]at h
   obtain⟨h1,h2⟩:=ents_app m (k+1) s v (by simpa using h)
   simp[entsFrom,setM,hp,h1,h2];omega
theorem look_none:∀(m:List (ByteArray × Int)) (s:ByteArray),idxM m s=none->lookI m s=0
 | [],_,_=>rfl
 | p::m,s,h=>by
  unfold idxM at h
  by_cases hp:p.1=s
  ·rw[if_pos hp]at h;cases h
  ·rw[if_neg hp]at h
   simp only[lookI,hp,if_false]
   exact look_none m s (by simpa using h)
theorem lt_of_cnt {w:World} {r:Nat} {m:List (ByteArray × Int)} (h:CntOf w r m):r<w.heap.size:=(Array.getElem?_eq_some_iff.1 h).1
theorem CntOf.on {w w':World} {r:Nat} {m:List (ByteArray × Int)} (h:CntOf w r m) (hb:Below w.heap.size w w'):CntOf w' r m:=by
 unfold CntOf;rw[hb.block r (lt_of_cnt h)];exact h
variable {P:Program} {T K E:TypeId}
theorem run_lookup_str (hT:P.underlying T=some (.map K E)) (hK:P.underlying K=some .string) {w:World} (hz:(zeroValue E).run P w=.ok (.int .i64 0) w)
  {r:Nat} {m:List (ByteArray × Int)} (h:CntOf w r m) (s:ByteArray):(Instr.lookup T (.map (some r)) (.string s) false).run P w=.ok (.int .i64 (lookI m s)) w:=by
 have hc:(Instr.checkKey (ents m).isEmpty 10000 K (.string s)).run P w=.ok () w:=MapKept.run_checkKey hK (show MapKept.IsKey .string (.string s) from trivial) _ 9999
 have hf:(Instr.findKey K (.string s) (ents m).toList).run P w=.ok ((idxM m s).map λi=>(0+i,.int .i64 (lookI m s))) w:=MapKept.run_findKey hK (find_ents s m 0 0)
 have hg:(getObj r).run P w=.ok (.map (ents m) m.length) w:=MapKept.run_getObj_map h
 unfold Instr.lookup
 simp only[Sem.run_bind,run_underlying hT,Result.andThen,hg,Sem.run_pure,hc,hf]
 cases hi:idxM m s with
 | none=>simp[hz,look_none m s hi]
 | some i=>simp
def putM (w:World) (r:Nat) (m:List (ByteArray × Int)):World:={w with heap:=w.heap.setIfInBounds r (.map (ents m) m.length)}
theorem putM_cnt {w:World} {r:Nat} (h:r<w.heap.size) (m:List (ByteArray × Int)):CntOf (putM w r m) r m:=by
 unfold CntOf putM;simp[h]
theorem putM_grown (w:World) (r:Nat) (m:List (ByteArray × Int)):w.grownBy (putM w r m) (some r):=
 ⟨rfl,rfl,rfl,by simp[putM],λk _ hne=>Array.getElem?_setIfInBounds_ne (λe:r=k=>hne (congrArg some e.symm))⟩
theorem keyStays (s:ByteArray) (w:World):(Instr.keyThatStays (.string s) (.string s)).run P w=.ok (.string s) w:=by
 have h:Instr.sameBits 10000 (.string s) (.string s)=true:=(MapKept.bytes_beq s s).2 rfl
 unfold Instr.keyThatStays
 rw[if_pos h];rfl
theorem modify_toArray {α:Type} (l:List α) (i:Nat) (f:α->α):l.toArray.modify i f=(l.modify i f).toArray:=by simp
theorem run_mapUpdate_str (hT:P.underlying T=some (.map K E)) (hK:P.underlying K=some .string) {w:World} {r:Nat} {m:List (ByteArray × Int)} (h:CntOf w r m) (s:ByteArray) (v:Int) :
  (Instr.mapUpdate T (.map (some r)) (.string s) (.int .i64 v)).run P w=.ok () (putM w r (setM m s v)):=by
 have hc:(Instr.checkKey false 10000 K (.string s)).run P w=.ok () w:=MapKept.run_checkKey hK (show MapKept.IsKey .string (.string s) from trivial) _ 9999
 have hf:(Instr.findKey K (.string s) (ents m).toList).run P w=.ok ((idxM m s).map λi=>(0+i,.int .i64 (lookI m s))) w:=MapKept.run_findKey hK (find_ents s m 0 0)
 have hg:(getObj r).run P w=.ok (.map (ents m) m.length) w:=MapKept.run_getObj_map h
 unfold Instr.mapUpdate
 simp only[Sem.run_bind,run_underlying hT,Result.andThen,hg,hc,hf]
 cases hi:idxM m s with
 | none =>
  obtain⟨h1,h2⟩:=ents_app m 0 s v hi
  have e1:(ents m).push {key:=.string s,val:=.int .i64 v,born:=m.length}=ents (setM m s v):=by
   unfold ents;rw[h1];simp
  simp only[Option.map_none,MapKept.run_setObj_map _ h,e1]
  unfold putM
  rw[h2]
 | some i =>
  have ha:=ents_at m 0 i s hi
  have hk:(((ents m)[0+i]?).map (·.key)).getD (.string s)=.string s:=by unfold ents;simp[ha]
  obtain⟨h1,h2⟩:=ents_set m 0 i s v hi
  have hm:(ents m).modify (0+i) (λe=>{e with key:=.string s,val:=.int .i64 v})=ents (setM m s v):=by
   have e2:(entsFrom 0 m).modify i (λe=>{e with key:=.string s,val:=.int .i64 v})=(entsFrom 0 m).modify i (λe=>{e with val:=.int .i64 v}):=by
    apply List.ext_getElem?
    intro j
    rw[List.getElem?_modify,List.getElem?_modify]
    by_cases hj:i=j
    ·subst hj;rw[ha];simp
    ·simp[hj]
   unfold ents
   rw[modify_toArray,Nat.zero_add,e2,h1]
  simp only[Option.map_some,hk,Sem.run_bind,keyStays,Result.andThen,MapKept.run_setObj_map _ h,hm]
  unfold putM
  rw[h2]
theorem wpList_mapUpdate_str {w:World} {ops:Array Oper} {rest:List Oper} {o:Oper} {a:Act} {Q:Exit->Act->World->Prop}
  (hgd:o.guard=none) (mp x v:Operand) (T:TypeId) (hop:o.op=Op.mapUpdate T mp x v) {K E:TypeId} (hT:P.underlying T=some (.map K E)) (hK:P.underlying K=some .string)
  {r:Nat} {m:List (ByteArray × Int)} (hm:a.eval mp=.map (some r)) (h:CntOf w r m) (s:ByteArray) (n:Int) (hx:a.eval x=.string s) (hv:a.eval v=.int .i64 n)
  (hQ:wpList P ops Q rest (a.put o.dst undef) (putM w r (setM m s n))):wpList P ops Q (o::rest) a w:=by
 refine wpList_plain hgd λK' hK'=>?_
 have hrun:=run_mapUpdate_str (E:=E) (P:=P) hT hK h s n
 unfold Oper.wp
 simp[execOp,hop,hm,hx,hv,hrun,Result.andThen]
 exact hK' _ _ hQ
end Go.Proofs.YtoaemihcbmlkgaaGreatDoor.Mp
namespace Go.Proofs.YtoaemihcbmlkgaaGreatDoor
open Go Go.RowKit Fm Tx Om Mp
section
variable {base b g:Nat} {va vr:Value} {vars:List ByteArray} {qc vs:List Value} {rows:List (List Tm)} {W W':World}
end
theorem RowV.of_own {base n:Nat} {v:Value} {xs:List Value} {w:World} (h:w.ownsRow base 36 1 v n xs):(v=.slice none 0 0/\n=0/\xs=[])∨∃g cap rest,v=.slice (some ⟨g,0,none⟩) n cap/\base<=g/\RowV g xs rest w/\n<=cap/\cap<=maxLen/\xs.length=n/\n+rest.length=cap:=by
 have hl:=h.1
 rw[Nat.mul_one]at hl
 rcases h.2 with ⟨rfl,h0⟩|⟨g,cap,cur,rfl,hg,hh,hn,hm,hs,ht⟩
 ·subst h0
  exact .inl ⟨rfl,rfl,List.eq_nil_of_length_eq_zero hl⟩
 ·refine .inr ⟨g,cap,cur.toList.drop n,rfl,hg,?_,hn,hm,hl,by rw[List.length_drop,Array.length_toList,hs];omega⟩
  unfold RowV
  rw[Nat.mul_one]at ht
  rw[←ht,List.take_append_drop,Array.toArray_toList]
  exact hh
theorem RowV.own {base g cap n:Nat} {xs rest:List Value} {w:World} (h:RowV g xs rest w) (hb:base<=g) (hn:xs.length=n) (hc:n+rest.length=cap) (hm:cap<=maxLen):w.ownsRow base 36 1 (.slice (some ⟨g,0,none⟩) n cap) n xs:=by
 refine⟨by omega,.inr ⟨g,cap,_,rfl,hb,h,by omega,hm,by simp;omega,?_⟩⟩
 rw[Nat.mul_one,←hn,List.take_left' rfl]
open Go.Sort
namespace Sy
variable {α:Type} [Inhabited α] {lt:α->α->Bool}
def Ex (d D:Array α) (a b n:Nat):Prop:=
 D.size=d.size/\(∀k,a<=k->k<a+n->D[k]! = d[k+(b-a)]!)/\(∀k,b<=k->k<b+n->D[k]! = d[k-(b-a)]!) /\
  ∀k,(k<a∨a+n<=k)->(k<b∨b+n<=k)->D[k]! = d[k]!
theorem ex_zero (d:Array α) (a b:Nat):Ex d d a b 0:=
 ⟨rfl,λ_ _ _=>by omega,λ_ _ _=>by omega,λ_ _ _=>rfl⟩
theorem ex_step {d D:Array α} {a b n:Nat} (h:Ex d D a b n) (hab:a+n<b) (hb:b+n<d.size) :
  Ex d (swp D (a+n) (b+n)) a b (n+1):=by
 obtain⟨h0,h1,h2,h3⟩:=h
 have g:=swp_get D (show a+n<D.size by omega) (show b+n<D.size by omega)
 refine⟨by rw[swp_size,h0],λk k1 k2=>?_,λk k1 k2=>?_,λk k1 k2=>?_⟩
 ·rw[g]
  by_cases e:k=a+n
  ·subst e
   rw[if_neg (by omega),if_pos rfl,h3 _ (by omega) (by omega),show a+n+(b-a)=b+n by omega]
  ·rw[if_neg (by omega),if_neg e,h1 k k1 (by omega)]
 ·rw[g]
  by_cases e:k=b+n
  ·subst e
   rw[if_pos rfl,h3 _ (by omega) (by omega),show b+n-(b-a)=a+n by omega]
  ·rw[if_neg e,if_neg (by omega),h2 k k1 (by omega)]
 ·rw[g,if_neg (by omega),if_neg (by omega),h3 k (by omega) (by omega)]
def Rot (d D:Array α) (s m e:Nat):Prop:=
 D.size=d.size/\(∀k,s<=k->k<s+(e-m)->D[k]! = d[k+(m-s)]!)/\(∀k,s+(e-m)<=k->k<e->D[k]! = d[k-(e-m)]!) /\
  ∀k,k<s∨e<=k->D[k]! = d[k]!
theorem rot_none {d:Array α} {s m e:Nat} (h:s=m∨m=e) (h1:s<=m) (h2:m<=e):Rot d d s m e:=by
 refine⟨rfl,λk k1 k2=>?_,λk k1 k2=>?_,λ_ _=>rfl⟩
 ·rw[show k+(m-s)=k by omega]
 ·rw[show k-(e-m)=k by omega]
theorem rot_same {d D:Array α} {m i:Nat} (hi:i<=m) (h:Ex d D (m-i) m i):Rot d D (m-i) m (m+i):=by
 obtain⟨h0,h1,h2,h3⟩:=h
 refine⟨h0,λk k1 k2=>h1 k k1 (by omega),λk k1 k2=>?_,λk k1=>h3 k (by omega) (by omega)⟩
 rw[h2 k (by omega) k2,show k-(m+i-m)=k-(m-(m-i)) by omega]
theorem rot_left {d d1 D:Array α} {m i j:Nat} (hi:i<=m) (hj:j<i) (h:Ex d d1 (m-i) m j) (h':Rot d1 D (m-(i-j)) m (m+j)) :
  Rot d D (m-i) m (m+j):=by
 obtain⟨h0,h1,h2,h3⟩:=h
 obtain⟨r0,r1,r2,r3⟩:=h'
 refine⟨by omega,λk k1 k2=>?_,λk k1 k2=>?_,λk k1=>?_⟩
 ·rw[r3 k (by omega),h1 k k1 (by omega)]
 ·by_cases e:k<m-(i-j)+(m+j-m)
  ·rw[r1 k (by omega) e,h2 _ (by omega) (by omega)]
   congr 1
   omega
  ·rw[r2 k (by omega) k2,h3 _ (by omega) (by omega)]
 ·rw[r3 k (by omega),h3 k (by omega) (by omega)]
theorem rot_right {d d1 D:Array α} {m i j:Nat} (hi:i<=m) (hj:i<j) (h:Ex d d1 (m-i) (m+j-i) i) (h':Rot d1 D (m-i) m (m+(j-i))) :
  Rot d D (m-i) m (m+j):=by
 obtain⟨h0,h1,h2,h3⟩:=h
 obtain⟨r0,r1,r2,r3⟩:=h'
 refine⟨by omega,λk k1 k2=>?_,λk k1 k2=>?_,λk k1=>?_⟩
 ·by_cases e:k<m-i+(m+(j-i)-m)
  ·rw[r1 k k1 e]
   exact h3 _ (by omega) (by omega)
  ·rw[r2 k (by omega) (by omega),h1 _ (by omega) (by omega)]
   congr 1
   omega
 ·rw[r3 k (by omega),h2 k (by omega) (by omega)]
  congr 1
  omega
 ·rw[r3 k (by omega),h3 k (by omega) (by omega)]
theorem one_left (hS:SWO lt) {d D:Array α} {a b i:Nat} (hs:SortedIn lt (a+1) b d) (h1:a+1<=i) (h2:i<=b)
  (f1:i=a+1∨lt d[i-1]! d[a]! = true) (f2:i=b∨lt d[i]! d[a]! = false) (h:Rot d D a (a+1) i):SortedIn lt a b D:=by
 obtain⟨r0,r1,r2,r3⟩:=h
 intro p q k1 k2 k3
 by_cases c1:q<i-1
 ·rw[r1 q (by omega) (by omega),r1 p k1 (by omega)]
  exact hs _ _ (by omega) (by omega) (by omega)
 by_cases c2:q=i-1
 ·rw[r2 q (by omega) (by omega),r1 p k1 (by omega),show q-(i-(a+1))=a by omega,show p+(a+1-a)=p+1 by omega]
  cases hl:lt d[a]! d[p+1]! with
  | false=>rfl
  | true =>
   rcases f1 with f1|f1
   ·omega
   ·have t:=hS.trans _ _ _ f1 hl
    by_cases e:p+1=i-1
    ·rw[←e,hS.irrefl]at t
     cases t
    ·rw[hs (p+1) (i-1) (by omega) (by omega) (by omega)]at t
     cases t
 rw[r3 q (by omega)]
 by_cases c3:p<i-1
 ·rw[r1 p k1 (by omega)]
  exact hs _ _ (by omega) (by omega) k3
 by_cases c4:p=i-1
 ·rw[r2 p (by omega) (by omega),show p-(i-(a+1))=a by omega]
  rcases f2 with f2|f2
  ·omega
  ·by_cases e:q=i
   ·rw[e]
    exact f2
   ·exact hS.ntrans _ _ _ (hs i q (by omega) (by omega) k3) f2
 rw[r3 p (by omega)]
 exact hs _ _ (by omega) k2 k3
theorem one_right (hS:SWO lt) {d D:Array α} {a m i:Nat} (hs:SortedIn lt a m d) (h1:a<=i) (h2:i<=m)
  (f1:i=a∨lt d[m]! d[i-1]! = false) (f2:i=m∨lt d[m]! d[i]! = true) (h:Rot d D i m (m+1)):SortedIn lt a (m+1) D:=by
 obtain⟨r0,r1,r2,r3⟩:=h
 intro p q k1 k2 k3
 by_cases c1:q<i
 ·rw[r3 q (by omega),r3 p (by omega)]
  exact hs _ _ k1 k2 (by omega)
 by_cases c2:q=i
 ·rw[r1 q (by omega) (by omega),r3 p (by omega),show q+(m-i)=m by omega]
  rcases f1 with f1|f1
  ·omega
  ·by_cases e:p=i-1
   ·rw[e]
    exact f1
   ·exact hS.ntrans _ _ _ f1 (hs p (i-1) k1 (by omega) (by omega))
 rw[r2 q (by omega) k3]
 by_cases c3:p<i
 ·rw[r3 p (by omega)]
  exact hs _ _ k1 (by omega) (by omega)
 by_cases c4:p=i
 ·rw[r1 p (by omega) (by omega),show p+(m-i)=m by omega]
  have asm:lt d[i]! d[m]! = false:=by
   rcases f2 with f2|f2
   ·omega
   ·exact hS.asymmA f2
  by_cases e:q-(m+1-m)=i
  ·rw[e]
   exact asm
  ·exact hS.ntrans _ _ _ (hs i _ h1 (by omega) (by omega)) asm
 rw[r2 p (by omega) (by omega)]
 exact hs _ _ (by omega) (by omega) (by omega)
theorem sym_parts (hS:SWO lt) {d D:Array α} {a s mid m e b:Nat} (hl:SortedIn lt a m d) (hr:SortedIn lt m b d)
  (h1:a<=s) (h2:s<=m) (h3:m<=e) (h4:e<=b) (hm:s+(e-m)=mid)
  (f1:s=a∨e=b∨lt d[e]! d[s-1]! = false) (f2:s=m∨e=m∨lt d[e-1]! d[s]! = true) (h:Rot d D s m e) :
  SortedIn lt a s D/\SortedIn lt s mid D/\SortedIn lt mid e D/\SortedIn lt e b D /\
   ∀p q,a<=p->p<mid->mid<=q->q<b->lt D[q]! D[p]! = false:=by
 obtain⟨r0,r1,r2,r3⟩:=h
 refine⟨λp q k1 k2 k3=>?_,λp q k1 k2 k3=>?_,λp q k1 k2 k3=>?_,λp q k1 k2 k3=>?_,λp q k1 k2 k3 k4=>?_⟩
 ·rw[r3 q (by omega),r3 p (by omega)]
  exact hl _ _ k1 k2 (by omega)
 ·rw[r1 q (by omega) (by omega),r1 p k1 (by omega)]
  exact hr _ _ (by omega) (by omega) (by omega)
 ·rw[r2 q (by omega) k3,r2 p (by omega) (by omega)]
  exact hl _ _ (by omega) (by omega) (by omega)
 ·rw[r3 q (by omega),r3 p (by omega)]
  exact hr _ _ (by omega) k2 k3
 ·by_cases c1:p<s
  ·rw[r3 p (by omega)]
   by_cases c2:q<e
   ·rw[r2 q (by omega) c2]
    exact hl _ _ k1 (by omega) (by omega)
   ·rw[r3 q (by omega)]
    have f:lt d[e]! d[s-1]! = false:=by
     rcases f1 with f|f|f
     ·omega
     ·omega
     ·exact f
    have g:lt d[e]! d[p]! = false:=by
     by_cases c:p=s-1
     ·rw[c]
      exact f
     ·exact hS.ntrans _ _ _ f (hl p (s-1) k1 (by omega) (by omega))
    by_cases c:q=e
    ·rw[c]
     exact g
    ·exact hS.ntrans _ _ _ (hr e q h3 (by omega) k4) g
  ·rw[r1 p (by omega) (by omega)]
   by_cases c2:q<e
   ·rw[r2 q (by omega) c2]
    have f:lt d[s]! d[e-1]! = false:=by
     rcases f2 with f|f|f
     ·omega
     ·omega
     ·exact hS.asymmA f
    have g:lt d[s]! d[p+(m-s)]! = false:=by
     by_cases c:p+(m-s)=e-1
     ·rw[c]
      exact f
     ·exact hS.ntrans _ _ _ f (hr _ (e-1) (by omega) (by omega) (by omega))
    by_cases c:q-(e-m)=s
    ·rw[c]
     exact g
    ·exact hS.ntrans _ _ _ (hl s _ h1 (by omega) (by omega)) g
   ·rw[r3 q (by omega)]
    exact hr _ _ (by omega) (by omega) k4
theorem sorted_beside {d D:Array α} {a b x y:Nat} (h:SortedIn lt a b d) (hP:PermIn x y d D) (hd:b<=x∨y<=a):SortedIn lt a b D:=by
 intro p q k1 k2 k3
 rw[hP.2.1 p (by omega),hP.2.1 q (by omega)]
 exact h p q k1 k2 k3
theorem sorted_glue {D:Array α} {a mid b:Nat} (hl:SortedIn lt a mid D) (hr:SortedIn lt mid b D)
  (hx:∀p q,a<=p->p<mid->mid<=q->q<b->lt D[q]! D[p]! = false):SortedIn lt a b D:=by
 intro p q k1 k2 k3
 by_cases c1:q<mid
 ·exact hl p q k1 k2 c1
 by_cases c2:p<mid
 ·exact hx p q k1 c2 (by omega) k3
 ·exact hr p q (by omega) k2 k3
theorem cross_stays {d d1 D:Array α} {a mid b:Nat} (hb:b<=d.size) (_h1:a<=mid) (h2:mid<=b)
  (hx:∀p q,a<=p->p<mid->mid<=q->q<b->lt d[q]! d[p]! = false) (hP:PermIn a mid d d1) (hQ:PermIn mid b d1 D) :
  ∀p q,a<=p->p<mid->mid<=q->q<b->lt D[q]! D[p]! = false:=by
 have x1:∀p q,a<=p->p<mid->mid<=q->q<b->lt d1[q]! d1[p]! = false:=by
  intro p q k1 k2 k3 k4
  rw[hP.2.1 q (by omega)]
  exact permIn_all d d1 a mid (λv=>lt d[q]! v=false) (by omega) hP (λi i1 i2=>hx i q i1 i2 k3 k4) p k1 k2
 intro p q k1 k2 k3 k4
 rw[hQ.2.1 p (by omega)]
 have hs:=hP.1
 exact permIn_all d1 D mid b (λv=>lt v d1[p]! = false) (by omega) hQ (λi i1 i2=>x1 p i k1 k2 i1 i2) q k3 k4
theorem rot_more {d D:Array α} {s k:Nat} (h:Rot d D s (s+1) (k+1)) (hs:s<=k) (hk:k+1<d.size):Rot d (swp D k (k+1)) s (s+1) (k+2):=by
 obtain⟨r0,r1,r2,r3⟩:=h
 have g:=swp_get D (show k<D.size by omega) (show k+1<D.size by omega)
 refine⟨by rw[swp_size,r0],λq k1 k2=>?_,λq k1 k2=>?_,λq k1=>?_⟩
 ·rw[g]
  by_cases e:q=k
  ·subst e
   rw[if_neg (by omega),if_pos rfl,r3 _ (by omega)]
   congr 1
   omega
  ·rw[if_neg (by omega),if_neg e,r1 q k1 (by omega)]
 ·obtain rfl:q=k+1:=by omega
  rw[g,if_pos rfl,r2 k (by omega) (by omega)]
  congr 1
  omega
 ·rw[g,if_neg (by omega),if_neg (by omega),r3 q (by omega)]
theorem rot_less {d D:Array α} {k m:Nat} (h:Rot d D k m (m+1)) (h1:1<=k) (hk:k<=m) (hm:m<d.size):Rot d (swp D k (k-1)) (k-1) m (m+1):=by
 obtain⟨r0,r1,r2,r3⟩:=h
 have g:=swp_get D (show k<D.size by omega) (show k-1<D.size by omega)
 refine⟨by rw[swp_size,r0],λq k1 k2=>?_,λq k1 k2=>?_,λq k1=>?_⟩
 ·obtain rfl:q=k-1:=by omega
  rw[g,if_pos rfl,r1 k (by omega) (by omega)]
  congr 1
  omega
 ·rw[g]
  by_cases e:q=k
  ·subst e
   rw[if_neg (by omega),if_pos rfl,r3 _ (by omega)]
   congr 1
   omega
  ·rw[if_neg (by omega),if_neg e,r2 q (by omega) (by omega)]
 ·rw[g,if_neg (by omega),if_neg (by omega),r3 q (by omega)]
end Sy
end Go.Proofs.YtoaemihcbmlkgaaGreatDoor
