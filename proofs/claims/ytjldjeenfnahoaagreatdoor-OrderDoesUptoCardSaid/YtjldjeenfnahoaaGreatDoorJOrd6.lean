/- The program's package order, walked: a text that tells rows -/
import Derived.Test.YtjldjeenfnahoaaGreatDoorJKeyMath
import Derived.Lib.AppendIntMem
import Derived.Lib.ItoaLen
set_option maxHeartbeats 8000000
set_option maxRecDepth 100000
namespace Go.Proofs.YtjldjeenfnahoaaGreatDoor
open Go Go.RowKit Fm Tx Om
theorem bTy:WTy 148 2:=⟨by kernel_rfl,by decide⟩
abbrev BI (B b:Nat) (acc:List UInt8) (w:World):Prop:=WIs 148 [] B b (Lib.byteCells acc) w
theorem zH (B b:Nat) (acc:List UInt8) (s:ByteArray) (w:World) (h:BI B b acc w) (ha:acc.length<=100000000000000) (hs:s.size<=1000000000) (hBw:B<=w.heap.size) :
  Calls Tryz.prog 116 #[.pointer (some ⟨b,0,none⟩),.string s] w λe w'=>(∃u,e=.returned u)/\BI B b (acc++s.data.toList) w'/\Below B w w'/\OK8 b w w':=by
 refine(tj bTy B b _ s w h (by rw[Lib.byteCells_length];omega) hBw).mono ?_
 rintro e w' ⟨rfl,h1,h2,h3⟩
 rw[Lib.strCells_eq,←Lib.byteCells_append]at h1
 exact⟨⟨_,rfl⟩,.inr h1,h2,h3⟩
def gL (w:World):Prop:=Lib.TabIs Tryz.prog w "internal/strconv.uint64pow10" .u64 Lib.pow10Tab
theorem gL.step {w w':World} (h:gL w) (hb:Below w.heap.size w w'):gL w':=(Lib.tabBelow_of_tabIs h) w' hb
def inI (n:Int):Prop:=-9223372036854775808<=n/\n<=9223372036854775807
theorem zF (w:World) (k:Nat) (os:Array Obj):Below w.heap.size w (Sort.grow (w.drewN k) os):=⟨rfl,rfl,rfl,by simp[Sort.grow,World.drewN],λi hi=>by simp only[Sort.grow,World.drewN];rw[Array.getElem?_append,if_pos hi]⟩
theorem Dp (n:Int) (w:World) (h:inI n) (hP:gL w):Calls Tryz.prog 117 #[.int .i64 n] w λe w'=>e=.returned (.string ⟨(Lib.itoa n).toArray⟩)/\Below w.heap.size w w':=
 (iZ n h.1 h.2 w hP).mono λe w' ⟨h1,k,os,h2⟩=>⟨h1,by subst h2;exact zF _ _ _⟩
def lR (t:Tm):List UInt8:=qO t.k (bl t.x) (bl t.l) (bl t.y)
def dc (r:List Tm):List UInt8:=r.flatMap lR
theorem qQ:∀(a b:List Tm),dc a=dc b->a=b
 | [],[],_=>rfl
 | [],t::r,h=>by
  exfalso
  have:lR t++dc r=[]:=h.symm
  exact qN _ _ _ _ (List.append_eq_nil_iff.1 this).1
 | t::r,[],h=>by
  exfalso
  have:lR t++dc r=[]:=h
  exact qN _ _ _ _ (List.append_eq_nil_iff.1 this).1
 | a::l,b::m,h=>by
  have h:lR a++dc l=lR b++dc m:=h
  obtain⟨h1,h2,h3,h4,h5⟩:=yN h
  rw[qQ l m h5]
  obtain⟨k,x,ll,y⟩:=a
  obtain⟨k',x',l',y'⟩:=b
  simp only at h1 h2 h3 h4
  rw[h1,cc h2,cc h3,cc h4]
def keyTm (t:Tm):Prop:=inI t.k/\t.x.size<=1048576/\t.l.size<=1048576/\t.y.size<=1048576
theorem iT (n:Int) (h:inI n):(Lib.itoa n).length<=21:=Lib.itoa_length_le n h.1 h.2
theorem dL {s:List UInt8} (h:s.length<=1048576):(bw s).length<=1049000:=by
 have:=iT (s.length:Int) ⟨by omega,by omega⟩
 unfold bw
 simp only[List.length_cons,List.length_append];omega
theorem yO {t:Tm} (h:keyTm t):(lR t).length<=4000000:=by
 obtain⟨h0,h1,h2,h3⟩:=h
 have a0:=iT t.k h0
 have a1:=dL (s:=bl t.x) (by rw[ac];exact h1)
 have a2:=dL (s:=bl t.l) (by rw[ac];exact h2)
 have a3:=dL (s:=bl t.y) (by rw[ac];exact h3)
 unfold lR qO
 simp only[List.length_append];omega
theorem qP:∀(r:List Tm),(∀t∈r,keyTm t)->(dc r).length<=r.length*4000000
 | [],_=>by simp[dc]
 | t::r,h=>by
  have h1:=yO (h t (by simp))
  have h2:=qP r λx hx=>h x (by simp[hx])
  show (lR t++dc r).length<=_
  rw[List.length_append,List.length_cons,Nat.succ_mul];omega
theorem vV {r:List Tm} {k:Nat} {t:Tm} (h:r[k]?=some t):dc (r.take (k+1))=dc (r.take k)++lR t:=by
 rw[ah h];unfold dc;rw[List.flatMap_append];simp
theorem BX (n:Int) (w:World) (h:inI n) (hP:gL w):Calls Tryz.prog 117 #[.int .i64 n] w λe w'=>∃q:ByteArray,e=.returned (.string q)/\q.size<=21/\q.data.toList=Lib.itoa n/\Below w.heap.size w w':=
 (Dp n w h hP).mono λe w' ⟨h1,h2⟩=>⟨_,h1,by rw[←ac];simpa using iT n h,by simp,h2⟩
def psT (t:Tm):List ByteArray:=[t.x,t.l,t.y]
theorem AI (t:Tm):(Lib.itoa t.k++((psT t).take 3).flatMap λs=>bw s.data.toList)=lR t:=by
 unfold psT lR qO bl;simp
theorem xQ (t:Tm) {j:Nat} {s:ByteArray} (h:(psT t)[j]?=some s):(((psT t).take (j+1)).flatMap λs=>bw s.data.toList)=(((psT t).take j).flatMap λs=>bw s.data.toList)++bw s.data.toList:=by
 rw[ah h,List.flatMap_append];simp
theorem AH {t:Tm} (ht:keyTm t) (j:Nat) (hj:j<=3):(((psT t).take j).flatMap λs=>bw s.data.toList).length<=3147000:=by
 have a1:=dL (s:=t.x.data.toList) (by rw[ac];exact ht.2.1)
 have a2:=dL (s:=t.l.data.toList) (by rw[ac];exact ht.2.2.1)
 have a3:=dL (s:=t.y.data.toList) (by rw[ac];exact ht.2.2.2)
 match j,hj with
 | 0,_=>simp
 | 1,_=>simp[psT];omega
 | 2,_=>simp[psT];omega
 | 3,_=>simp[psT];omega
theorem Dy (q s:ByteArray):((⟨#[32]⟩:ByteArray)++q++⟨#[58]⟩++s).data.toList=32::(q.data.toList++58::s.data.toList):=by
 simp[ByteArray.data_append]
theorem Cv (row:List Tm) (A:Option Addr) (c n:Nat) (w:World) (hn:row.length=n) (hl:n<=1000000) (hP:gL w) (hr:RdTs w A row) (hz:∀t∈row,keyTm t) :
  Calls Tryz.prog 84 #[.slice A n c] w λe w'=>e=.returned (.string ⟨(dc row).toArray⟩)/\Below w.heap.size w w':=by
 have HN:=Lib.hid hn
 have HR:=Lib.hid (And.intro hr (And.intro hz hP))
 have hB0:BI w.heap.size w.heap.size (dc (row.take 0)) (w.alloc (.cells #[.pointer none,.slice none 0 0] 148)):=.inl (WAt.new w _ [])
 have HS:Hid (BI w.heap.size w.heap.size (dc (row.take 0)) (w.alloc (.cells #[.pointer none,.slice none 0 0] 148))/\Below w.heap.size w (w.alloc (.cells #[.pointer none,.slice none 0 0] 148))):=⟨hB0,blw⟩
 clear hn hr hz hP hB0
 go_enter Tryz.func84,Tryz.ntmps84
 go_wp2
 go_loopw [5,7,10] (λu5 u7 i wr=>∃k:Nat,k<=n/\i=.int .i64 k/\Hid (BI w.heap.size w.heap.size (dc (row.take k)) wr/\Below w.heap.size w wr)) (λ_ _ i _=>n-(intOf i).toNat)
 case atStart=>exact⟨0,by omega,rfl,HS⟩
 case round =>
  clear HS
  obtain⟨k,hk,rfl,HB⟩:=hrel
  by_cases hlt:k<n
  ·obtain⟨t,ht⟩:∃t,row[k]?=some t:=⟨_,List.getElem?_eq_getElem (by rw[HN.out];exact hlt)⟩
   obtain⟨g,o,rfl,a0,a1,a2,a3⟩:=(RdTs.later HR.out.1 HB.out.2).at4 ht
   have hzt:=HR.out.2.1 t (List.mem_of_getElem? ht)
   have hW1:Below wr.heap.size wr (wr.alloc (.cells #[.int .i64 t.k,.string t.x,.string t.l,.string t.y] 65)):=blw
   have hIt:=BX t.k _ hzt.1 (HR.out.2.2.step (aa HB.out.2 hW1))
   have HT:=Lib.hid (And.intro ht hzt)
   have hzw:w.heap.size<wr.heap.size:=HB.out.1.lt
   clear ht hzt
   go_wp2_with fail
   refine hIt.mono ?_
   rintro e w2 ⟨q,rfl,hq1,hq2,hb2⟩
   have hbx2:w2.heap[wr.heap.size]?=some (Obj.cells #[.int .i64 t.k,.string t.x,.string t.l,.string t.y] 65 (0,0)):=by rw[hb2.block _ (by simp)];exact heap_alloc_new wr _
   have hacc:(dc (row.take k)).length<=4000000000000:=by
    have h1:=qP (row.take k) λx hx=>HR.out.2.1 x (List.mem_of_mem_take hx)
    have h2:(row.take k).length<=1000000:=by rw[List.length_take];omega
    have h3:=Nat.mul_le_mul_right 4000000 h2
    omega
   have hwr:=zH w.heap.size w.heap.size (dc (row.take k)) q w2 ((HB.out.1.alloc _).step hb2) (by omega) (by omega) (Nat.le_trans hW1.size (Nat.le_trans (Nat.le_of_eq rfl) hb2.size) |> Nat.le_trans HB.out.2.size)
   have HB2:=Lib.hid (HB.out.2.trans ((aa hW1 hb2).mono HB.out.2.size))
   have HQ:=Lib.hid hq2
   clear hIt hb2 hq2 a0 a1 a2 a3 hW1
   go_wp2_with fail
   refine hwr.mono ?_
   rintro e w3 ⟨⟨u,rfl⟩,hBI3,hb3,hok3⟩
   have hbx3:=hok3 wr.heap.size _ hbx2 (λe=>by injection e with e;omega) (λc fz e=>by injection e with _ e _;exact absurd e (by decide))
   have b1:w3.cell? ⟨wr.heap.size,1,none⟩=some (.string t.x):=by rw[Lib.cell_of_heap hbx3];rfl
   have b2:w3.cell? ⟨wr.heap.size,2,none⟩=some (.string t.l):=by rw[Lib.cell_of_heap hbx3];rfl
   have b3:w3.cell? ⟨wr.heap.size,3,none⟩=some (.string t.y):=by rw[Lib.cell_of_heap hbx3];rfl
   have HB3:=Lib.hid (HB2.out.trans hb3)
   have hI0:BI w.heap.size w.heap.size (dc (row.take k)++(Lib.itoa t.k++((psT t).take 0).flatMap λs=>bw s.data.toList)) (w3.alloc (.cells #[.string t.x,.string t.l,.string t.y] 9)):=by
    have:=hBI3.alloc (.cells #[.string t.x,.string t.l,.string t.y] 9)
    rw[HQ.out]at this
    simpa using this
   have HI0:Hid (BI w.heap.size w.heap.size (dc (row.take k)++(Lib.itoa t.k++((psT t).take 0).flatMap λs=>bw s.data.toList)) (w3.alloc (.cells #[.string t.x,.string t.l,.string t.y] 9))/\Below w.heap.size w (w3.alloc (.cells #[.string t.x,.string t.l,.string t.y] 9))/\(w3.alloc (.cells #[.string t.x,.string t.l,.string t.y] 9)).heap[w3.heap.size]?=some (Obj.cells #[.string t.x,.string t.l,.string t.y] 9 (0,0))):=
    ⟨hI0,HB3.out.alloc HB3.out.size _,heap_alloc_new w3 _⟩
   have hw3:w.heap.size<w3.heap.size:=hBI3.lt
   clear hBI3 hb3 hok3 hbx3 hbx2 hI0 hwr
   go_wp2
   go_loopw [7,26] (λu7 i wr2=>∃j:Nat,j<=3/\i=.int .i64 j/\w3.heap.size<wr2.heap.size/\Hid (BI w.heap.size w.heap.size (dc (row.take k)++(Lib.itoa t.k++((psT t).take j).flatMap λs=>bw s.data.toList)) wr2/\Below w.heap.size w wr2/\wr2.heap[w3.heap.size]?=some (Obj.cells #[.string t.x,.string t.l,.string t.y] 9 (0,0)))) (λ_ i _=>3-(intOf i).toNat)
   case atStart=>exact⟨0,by omega,rfl,by simp,HI0⟩
   case round =>
    clear HI0 b1 b2 b3
    obtain⟨j,hj,rfl,hz9,HJ⟩:=hrel
    by_cases hlt2:j<3
    ·obtain⟨s,hs⟩:∃s,(psT t)[j]?=some s:=⟨_,List.getElem?_eq_getElem (by unfold psT;exact hlt2)⟩
     have hss:s.size<=1048576:=by
      have hm:=List.mem_of_getElem? hs
      unfold psT at hm
      simp only[List.mem_cons,List.not_mem_nil,or_false]at hm
      rcases hm with rfl|rfl|rfl
      ·exact HT.out.2.2.1
      ·exact HT.out.2.2.2.1
      ·exact HT.out.2.2.2.2
     have hcell:wr.cell? ⟨w3.heap.size,j,none⟩=some (.string s):=by
      rw[Lib.cell_of_heap HJ.out.2.2]
      have:(#[Value.string t.x,.string t.l,.string t.y]:Array Value)=((psT t).map Value.string).toArray:=rfl
      rw[this,List.getElem?_toArray,List.getElem?_map,hs];rfl
     have hIt:=BX (s.size:Int) wr ⟨by omega,by omega⟩ (HR.out.2.2.step HJ.out.2.1)
     have hps:=AH HT.out.2 j hj
     have HPS:Hid ((((psT t).take (j+1)).flatMap λs=>bw s.data.toList)=(((psT t).take j).flatMap λs=>bw s.data.toList)++(32::(Lib.itoa (s.size:Int)++58::s.data.toList))):=by
      show _=_
      rw[xQ t hs];unfold bw;rw[ac]
     clear hs
     go_wp2_with fail
     refine hIt.mono ?_
     rintro e w5 ⟨q,rfl,hq1,hq2,hb5⟩
     have HB5:=Lib.hid (And.intro hb5 hq2)
     have hitk:=iT t.k HT.out.2.1
     clear hIt hb5 hq2 hcell
     go_wp2_with fail
     have hsz:(dc (row.take k)++(Lib.itoa t.k++((psT t).take j).flatMap λs=>bw s.data.toList)).length<=100000000000000:=by
      rw[List.length_append,List.length_append];omega
     have hcs:((⟨#[32]⟩:ByteArray)++q++⟨#[58]⟩++s).size<=1000000000:=by
      rw[←ac,Dy,List.length_cons,List.length_append,List.length_cons,ac,ac];omega
     refine(zH w.heap.size w.heap.size _ _ w5 (HJ.out.1.step HB5.out.1) hsz hcs (Nat.le_trans HJ.out.2.1.size HB5.out.1.size)).mono ?_
     rintro e w6 ⟨⟨u,rfl⟩,hBI6,hb6,hok6⟩
     have hz6:w3.heap.size<w6.heap.size:=Nat.lt_of_lt_of_le hz9 (Nat.le_trans HB5.out.1.size hb6.size)
     have HF:Hid (BI w.heap.size w.heap.size (dc (row.take k)++(Lib.itoa t.k++((psT t).take (j+1)).flatMap λs=>bw s.data.toList)) w6/\Below w.heap.size w w6/\w6.heap[w3.heap.size]?=some (Obj.cells #[.string t.x,.string t.l,.string t.y] 9 (0,0))):=by
      refine⟨?_,(HJ.out.2.1.trans (HB5.out.1.mono HJ.out.2.1.size)).trans hb6,?_⟩
      ·rw[Dy,HB5.out.2]at hBI6
       rw[HPS.out,←List.append_assoc (Lib.itoa t.k),←List.append_assoc (dc (row.take k))]
       exact hBI6
      ·exact hok6 _ _ (by rw[HB5.out.1.block _ hz9];exact HJ.out.2.2) (λe=>by injection e with e;omega) (λc fz e=>by injection e with _ e _;exact absurd e (by decide))
     clear hBI6 hb6 hok6 hsz hcs HJ
     go_wp2
     go_roundw
     case rel=>exact⟨j+1,by omega,by go_num,hz6,HF⟩
     case measure=>simp[intOf];omega
    ·obtain rfl:j=3:=by omega
     have HF:Hid (BI w.heap.size w.heap.size (dc (row.take (k+1))) wr/\Below w.heap.size w wr):=by
      refine⟨?_,HJ.out.2.1⟩
      rw[vV HT.out.1,←AI]
      exact HJ.out.1
     clear HJ
     go_wp2
     go_roundw
     case rel=>exact⟨k+1,by omega,by go_num,HF⟩
     case measure=>simp[intOf];omega
  ·obtain rfl:k=n:=by omega
   have hS:=en w.heap.size w.heap.size (dc row) wr (by
    have:=HB.out.1
    rw[List.take_of_length_le (by rw[HN.out];exact Nat.le_refl _)]at this
    exact this) HB.out.2.size
   go_wp2_with (go_at_call 118;refine hS.mono ?_;rintro e w4 ⟨rfl,_,hb4⟩;have HF:=Lib.hid (HB.out.2.trans hb4);clear hb4 hS)
   go_ret
   exact⟨rfl,HF.out⟩
end Go.Proofs.YtjldjeenfnahoaaGreatDoor
namespace Go.Proofs.YtjldjeenfnahoaaGreatDoor.Mp
open Go Go.RowKit Go.Maps Go.ChangeMaps
def bj:Nat->List (ByteArray × Int)->List MapEntry
 | _,[]=>[]
 | k,p::m=>{key:=.string p.1,val:=.int .i64 p.2,born:=k}::bj (k+1) m
def ig (m:List (ByteArray × Int)):Array MapEntry:=(bj 0 m).toArray
def dw (w:World) (r:Nat) (m:List (ByteArray × Int)):Prop:=w.heap[r]?=some (.map (ig m) m.length)
def aV:List (ByteArray × Int)->ByteArray->Int
 | [],_=>0
 | p::m,s=>if p.1=s then p.2 else aV m s
def gf:List (ByteArray × Int)->ByteArray->Option Nat
 | [],_=>none
 | p::m,s=>if p.1=s then some 0 else (gf m s).map (· + 1)
def dF:List (ByteArray × Int)->ByteArray->Int->List (ByteArray × Int)
 | [],s,v=>[(s,v)]
 | p::m,s,v=>if p.1=s then (s,v)::m else p::dF m s v
theorem jq (s t:ByteArray) (v:Int):∀m:List (ByteArray × Int),aV (dF m s v) t=if s=t then v else aV m t
 | []=>by simp[dF,aV]
 | p::m=>by
  unfold dF
  by_cases h:p.1=s
  ·rw[if_pos h]
   simp only[aV,h]
   by_cases h2:s=t<;>simp[h2]
  ·rw[if_neg h]
   simp only[aV]
   rw[jq s t v m]
   by_cases h2:p.1=t
   ·have:¬ s=t:=λe=>h (h2.trans e.symm)
    simp[h2,this]
   ·simp[h2]
theorem jw (s:ByteArray):∀(m:List (ByteArray × Int)) (k j:Nat),Instr.findNow .string (.string s) (bj k m) j=some ((gf m s).map λi=>(j+i,.int .i64 (aV m s)))
 | [],_,_=>rfl
 | p::m,k,j=>by
  unfold bj Instr.findNow
  simp only[Instr.sameNow]
  by_cases h:p.1=s
  ·have hb:(s == p.1)=true:=(MapKept.bytes_beq _ _).2 h.symm
   rw[hb]
   simp[gf,aV,h]
  ·have hb:(s == p.1)=false:=by
    cases hx:(s == p.1)
    ·rfl
    ·exact absurd ((MapKept.bytes_beq _ _).1 hx).symm h
   simp only[hb,gf,aV,h,if_false]
   rw[jw s m (k+1) (j+1)]
   cases gf m s with
   | none=>rfl
   | some i=>simp;omega
theorem uf:∀(m:List (ByteArray × Int)) (k i:Nat) (s:ByteArray),gf m s=some i->(bj k m)[i]?=some {key:=.string s,val:=.int .i64 (aV m s),born:=k+i}
 | [],_,_,_,h=>by cases h
 | p::m,k,i,s,h=>by
  unfold gf at h
  by_cases hp:p.1=s
  ·rw[if_pos hp]at h
   obtain rfl:0=i:=by simpa using h
   simp[bj,aV,hp]
  ·rw[if_neg hp]at h
   obtain⟨j,hj,rfl⟩:=Option.map_eq_some_iff.1 h
   simp only[bj,List.getElem?_cons_succ,aV,hp,if_false]
   rw[uf m (k+1) j s hj]
   simp;omega
theorem ru:∀(m:List (ByteArray × Int)) (k i:Nat) (s:ByteArray) (v:Int),gf m s=some i ->
  (bj k m).modify i (λe=>{e with val:=.int .i64 v})=bj k (dF m s v)/\(dF m s v).length=m.length
 | [],_,_,_,_,h=>by cases h
 | p::m,k,i,s,v,h=>by
  unfold gf at h
  by_cases hp:p.1=s
  ·rw[if_pos hp]at h
   obtain rfl:0=i:=by simpa using h
   simp[bj,dF,hp]
  ·rw[if_neg hp]at h
   obtain⟨j,hj,rfl⟩:=Option.map_eq_some_iff.1 h
   obtain⟨h1,h2⟩:=ru m (k+1) j s v hj
   simp[bj,dF,hp,List.modify_succ_cons,h1,h2]
theorem rx:∀(m:List (ByteArray × Int)) (k:Nat) (s:ByteArray) (v:Int),gf m s=none ->
  bj k (dF m s v)=bj k m++[{key:=.string s,val:=.int .i64 v,born:=k+m.length}]/\(dF m s v).length=m.length+1
 | [],k,s,v,_=>by simp[bj,dF]
 | p::m,k,s,v,h=>by
  unfold gf at h
  by_cases hp:p.1=s
  ·rw[if_pos hp]at h;cases h
  ·rw[if_neg hp]at h
   obtain⟨h1,h2⟩:=rx m (k+1) s v (by simpa using h)
   simp[bj,dF,hp,h1,h2];omega
theorem nX:∀(m:List (ByteArray × Int)) (s:ByteArray),gf m s=none->aV m s=0
 | [],_,_=>rfl
 | p::m,s,h=>by
  unfold gf at h
  by_cases hp:p.1=s
  ·rw[if_pos hp]at h;cases h
  ·rw[if_neg hp]at h
   simp only[aV,hp,if_false]
   exact nX m s (by simpa using h)
theorem jp {w:World} {r:Nat} {m:List (ByteArray × Int)} (h:dw w r m):r<w.heap.size:=(Array.getElem?_eq_some_iff.1 h).1
theorem dw.on {w w':World} {r:Nat} {m:List (ByteArray × Int)} (h:dw w r m) (hb:Below w.heap.size w w'):dw w' r m:=by
 unfold dw;rw[hb.block r (jp h)];exact h
variable {P:Program} {T K E:TypeId}
theorem fR (hT:P.underlying T=some (.map K E)) (hK:P.underlying K=some .string) {w:World} (hz:(zeroValue E).run P w=.ok (.int .i64 0) w)
  {r:Nat} {m:List (ByteArray × Int)} (h:dw w r m) (s:ByteArray):(Instr.lookup T (.map (some r)) (.string s) false).run P w=.ok (.int .i64 (aV m s)) w:=by
 have hc:(Instr.checkKey (ig m).isEmpty 10000 K (.string s)).run P w=.ok () w:=MapKept.run_checkKey hK (show MapKept.IsKey .string (.string s) from trivial) _ 9999
 have hf:(Instr.findKey K (.string s) (ig m).toList).run P w=.ok ((gf m s).map λi=>(0+i,.int .i64 (aV m s))) w:=MapKept.run_findKey hK (jw s m 0 0)
 have hg:(getObj r).run P w=.ok (.map (ig m) m.length) w:=MapKept.run_getObj_map h
 unfold Instr.lookup
 simp only[Sem.run_bind,run_underlying hT,Result.andThen,hg,Sem.run_pure,hc,hf]
 cases hi:gf m s with
 | none=>simp[hz,nX m s hi]
 | some i=>simp
def putM (w:World) (r:Nat) (m:List (ByteArray × Int)):World:={w with heap:=w.heap.setIfInBounds r (.map (ig m) m.length)}
theorem qp {w:World} {r:Nat} (h:r<w.heap.size) (m:List (ByteArray × Int)):dw (putM w r m) r m:=by
 unfold dw putM;simp[h]
theorem hX (w:World) (r:Nat) (m:List (ByteArray × Int)):w.grownBy (putM w r m) (some r):=
 ⟨rfl,rfl,rfl,by simp[putM],λk _ hne=>Array.getElem?_setIfInBounds_ne (λe:r=k=>hne (congrArg some e.symm))⟩
theorem yP (s:ByteArray) (w:World):(Instr.keyThatStays (.string s) (.string s)).run P w=.ok (.string s) w:=by
 have h:Instr.sameBits 10000 (.string s) (.string s)=true:=(MapKept.bytes_beq s s).2 rfl
 unfold Instr.keyThatStays
 rw[if_pos h];rfl
theorem lK {α:Type} (l:List α) (i:Nat) (f:α->α):l.toArray.modify i f=(l.modify i f).toArray:=by simp
theorem iA (hT:P.underlying T=some (.map K E)) (hK:P.underlying K=some .string) {w:World} {r:Nat} {m:List (ByteArray × Int)} (h:dw w r m) (s:ByteArray) (v:Int) :
  (Instr.mapUpdate T (.map (some r)) (.string s) (.int .i64 v)).run P w=.ok () (putM w r (dF m s v)):=by
 have hc:(Instr.checkKey false 10000 K (.string s)).run P w=.ok () w:=MapKept.run_checkKey hK (show MapKept.IsKey .string (.string s) from trivial) _ 9999
 have hf:(Instr.findKey K (.string s) (ig m).toList).run P w=.ok ((gf m s).map λi=>(0+i,.int .i64 (aV m s))) w:=MapKept.run_findKey hK (jw s m 0 0)
 have hg:(getObj r).run P w=.ok (.map (ig m) m.length) w:=MapKept.run_getObj_map h
 unfold Instr.mapUpdate
 simp only[Sem.run_bind,run_underlying hT,Result.andThen,hg,hc,hf]
 cases hi:gf m s with
 | none =>
  obtain⟨h1,h2⟩:=rx m 0 s v hi
  have e1:(ig m).push {key:=.string s,val:=.int .i64 v,born:=m.length}=ig (dF m s v):=by
   unfold ig;rw[h1];simp
  simp only[Option.map_none,MapKept.run_setObj_map _ h,e1]
  unfold putM
  rw[h2]
 | some i =>
  have ha:=uf m 0 i s hi
  have hk:(((ig m)[0+i]?).map (·.key)).getD (.string s)=.string s:=by unfold ig;simp[ha]
  obtain⟨h1,h2⟩:=ru m 0 i s v hi
  have hm:(ig m).modify (0+i) (λe=>{e with key:=.string s,val:=.int .i64 v})=ig (dF m s v):=by
   have e2:(bj 0 m).modify i (λe=>{e with key:=.string s,val:=.int .i64 v})=(bj 0 m).modify i (λe=>{e with val:=.int .i64 v}):=by
    apply List.ext_getElem?
    intro j
    rw[List.getElem?_modify,List.getElem?_modify]
    by_cases hj:i=j
    ·subst hj;rw[ha];simp
    ·simp[hj]
   unfold ig
   rw[lK,Nat.zero_add,e2,h1]
  simp only[Option.map_some,hk,Sem.run_bind,yP,Result.andThen,MapKept.run_setObj_map _ h,hm]
  unfold putM
  rw[h2]
theorem dl {w:World} {ops:Array Oper} {rest:List Oper} {o:Oper} {a:Act} {Q:Exit->Act->World->Prop}
  (hgd:o.guard=none) (mp x v:Operand) (T:TypeId) (hop:o.op=Op.mapUpdate T mp x v) {K E:TypeId} (hT:P.underlying T=some (.map K E)) (hK:P.underlying K=some .string)
  {r:Nat} {m:List (ByteArray × Int)} (hm:a.eval mp=.map (some r)) (h:dw w r m) (s:ByteArray) (n:Int) (hx:a.eval x=.string s) (hv:a.eval v=.int .i64 n)
  (hQ:wpList P ops Q rest (a.put o.dst undef) (putM w r (dF m s n))):wpList P ops Q (o::rest) a w:=by
 refine wpList_plain hgd λK' hK'=>?_
 have hrun:=iA (E:=E) (P:=P) hT hK h s n
 unfold Oper.wp
 simp[execOp,hop,hm,hx,hv,hrun,Result.andThen]
 exact hK' _ _ hQ
end Go.Proofs.YtjldjeenfnahoaaGreatDoor.Mp
namespace Go.Proofs.YtjldjeenfnahoaaGreatDoor
open Go Go.RowKit Um Fm Tx
theorem dm {a b:Tm}:bg a b=true↔a=b:=by
 obtain⟨k,x,l,y⟩:=a
 obtain⟨k',x',l',y'⟩:=b
 unfold bg
 simp only[Bool.and_eq_true,beq_iff_eq,Tm.mk.injEq,ByteArray.toList_eq]
 constructor
 ·rintro⟨⟨⟨h1,h2⟩,h3⟩,h4⟩
  exact⟨h1,cc h2,cc h3,cc h4⟩
 ·rintro⟨rfl,rfl,rfl,rfl⟩
  exact⟨⟨⟨rfl,rfl⟩,rfl⟩,rfl⟩
instance decTm:DecidableEq Tm:=λ_ _=>decidable_of_iff _ dm
open Om Mp
theorem tS:Tryz.prog.underlying 121=some (.map 9 3):=by kernel_rfl
theorem tT:Tryz.prog.underlying 9=some .string:=by kernel_rfl
theorem BW (w:World):(zeroValue 3).run Tryz.prog w=.ok (.int .i64 0) w:=by kernel_rfl
def eK (r:List Tm):ByteArray:=⟨(dc r).toArray⟩
theorem yQ {a b:List Tm} (h:eK a=eK b):a=b:=by
 apply qQ
 have:=congrArg (λx:ByteArray=>x.data.toList) h
 simpa[eK] using this
def zM (r:Nat) (m:List (ByteArray × Int)) (s:ByteArray) (w:World) (e:Ending) (w':World):Prop:=
 e=.returned (.bool (decide (0<aV m s)))/\∃w2,Below w.heap.size w w2/\w'=putM w2 r (dF m s (aV m s+1))
theorem yb (row:List Tm) (A:Option Addr) (c n r:Nat) (m:List (ByteArray × Int)) (mb:Nat) (w:World) (hn:row.length=n) (hl:n<=1000000) (hP:gL w) (hr:RdTs w A row) (hz:∀t∈row,keyTm t)
  (hp:w.cell? ⟨mb,0,none⟩=some (.map (some r))) (hM:dw w r m) (hm:0<=aV m (eK row)/\aV m (eK row)<=1000000) (hne:mb≠r) :
  Calls Tryz.prog 83 #[.slice A n c,.pointer (some ⟨mb,0,none⟩)] w (zM r m (eK row) w):=by
 have hK:=Cv row A c n w hn hl hP hr hz
 change Calls _ _ _ _ (λe w'=>e=.returned (.string (eK row))/\Below w.heap.size w w') at hK
 generalize eK row=s at *
 have HM:=Lib.hid hM
 have hmb:=ae hp
 clear hn hr hz hP hM
 go_enter Tryz.func83,Tryz.ntmps83
 go_wp2_with fail
 refine hK.mono ?_
 rintro e w2 ⟨rfl,hb2⟩
 have hp2:=ab hp hb2
 have hM2:=HM.out.on hb2
 have hrr:=jp hM2
 have hl1:=fR (P:=Tryz.prog) tS tT (BW w2) hM2 s
 have hM3:=qp hrr (dF m s (aV m s+1))
 have hp3:(putM w2 r (dF m s (aV m s+1))).cell? ⟨mb,0,none⟩=some (.map (some r)):=by
  rw[(hX w2 r _).cell_far _ (ae hp2) (λe=>by injection e with e;exact hne e)];exact hp2
 have hl2:=fR (P:=Tryz.prog) tS tT (BW _) hM3 s
 rw[jq,if_pos rfl]at hl2
 have HF:Hid (zM r m s w (.returned (.bool (decide (0<aV m s)))) (putM w2 r (dF m s (aV m s+1)))):=⟨rfl,w2,hb2,rfl⟩
 obtain⟨hv0,hv1⟩:=hm
 generalize aV m s=v at *
 obtain⟨W2,hW2⟩:∃W,putM w2 r (dF m s (v+1))=W:=⟨_,rfl⟩
 rw[hW2]at hp3 hl2 HF
 have HW2:=Lib.hid hW2
 clear hW2 hK hM3 hb2 hp
 cases hpos:decide (0<v)
 ·have hd:decide (1<v+1)=false:=by simp at hpos ⊢;omega
  rw[hpos]at HF
  clear hpos
  go_wp2_with (at_mapUpdate;refine dl rfl _ _ _ _ rfl tS tT rfl hM2 s (v+1) rfl rfl ?_;rw[HW2.out])
  go_ret
  exact HF.out
 ·have hd:decide (1<v+1)=true:=by simp at hpos ⊢;omega
  rw[hpos]at HF
  clear hpos
  go_wp2_with (at_mapUpdate;refine dl rfl _ _ _ _ rfl tS tT rfl hM2 s (v+1) rfl rfl ?_;rw[HW2.out])
  go_ret
  exact HF.out
def WkG (base b g:Nat) (va vr:Value) (vars:List ByteArray) (qc vs:List Value) (rows:List (List Tm)) (W:World):Prop:=
 W.heap[b]?=some (Obj.cells (va::vr::qc).toArray 109 (0,0))/\W.ownsRow base 9 1 va vars.length (vars.map Value.string)/\All 1 (OwnRow base W) vs rows/\∃cur,W.heap[g]?=some (Obj.cells cur 69 (0,0))
section
variable {base b g:Nat} {va vr:Value} {vars:List ByteArray} {qc vs:List Value} {rows:List (List Tm)} {W W':World}
theorem WkG.on (h:WkG base b g va vr vars qc vs rows W) (hb:Below W.heap.size W W'):WkG base b g va vr vars qc vs rows W':=by
 obtain⟨h1,h2,h3,cur,h4⟩:=h
 exact⟨KeepT.below hb _ _ _ h1,own_keep h2 (KeepT.below hb),h3.mono λ_ _ _ x=>x.keep (KeepT.below hb),cur,KeepT.below hb _ _ _ h4⟩
theorem WkG.keep (h:WkG base b g va vr vars qc vs rows W) (hk:∀e,e≠69->KeepT e W W') (hg:∃cur,W'.heap[g]?=some (Obj.cells cur 69 (0,0))):WkG base b g va vr vars qc vs rows W':=by
 obtain⟨h1,h2,h3,cur,h4⟩:=h
 exact⟨hk _ (by decide) _ _ _ h1,own_keep h2 (hk _ (by decide)),h3.mono λ_ _ _ x=>x.keep (hk _ (by decide)),hg⟩
theorem WkG.setCell (h:WkG base b g va vr vars qc vs rows W) (i:Nat) (v:Value):WkG base b g va vr vars qc vs rows (W.setCell ⟨g,i,none⟩ v):=by
 obtain⟨cur,h4⟩:=h.2.2.2
 exact h.keep (λe he=>KeepT.setCell h4 (λx=>he x.symm)) ⟨_,aR h4 i v⟩
theorem WkG.setCells (h:WkG base b g va vr vars qc vs rows W):∀(us:List Value) (o:Nat),WkG base b g va vr vars qc vs rows (W.setCells g o us):=by
 intro us
 induction us generalizing W with
 | nil=>intro o;exact h
 | cons u us ih=>intro o;rw[World.setCells];exact ih (h.setCell o u) (o+1)
theorem KeepT.putM (W:World) (r:Nat) (m m':List (ByteArray × Int)) (hM:dw W r m) (e:TypeId):KeepT e W (putM W r m'):=λk cur fr x=>by
 have hne:k≠r:=λh=>by
  subst h
  unfold dw at hM
  rw[hM]at x;cases x
 rw[(hX W r m').block k (Array.getElem?_eq_some_iff.1 x).1 (λh=>hne (by injection h))];exact x
theorem WkG.putM (h:WkG base b g va vr vars qc vs rows W) {r:Nat} {m:List (ByteArray × Int)} (hM:dw W r m) (m':List (ByteArray × Int)):WkG base b g va vr vars qc vs rows (putM W r m'):=by
 obtain⟨cur,h4⟩:=h.2.2.2
 exact h.keep (λe _=>KeepT.putM W r m m' hM e) ⟨cur,KeepT.putM W r m m' hM _ _ _ _ h4⟩
end
theorem bI.of_own {base n:Nat} {v:Value} {xs:List Value} {w:World} (h:w.ownsRow base 69 1 v n xs):(v=.slice none 0 0/\n=0/\xs=[])∨∃g cap rest,v=.slice (some ⟨g,0,none⟩) n cap/\base<=g/\bI g xs rest w/\n<=cap/\cap<=maxLen/\xs.length=n/\n+rest.length=cap:=by
 have hl:=h.1
 rw[Nat.mul_one]at hl
 rcases h.2 with ⟨rfl,h0⟩|⟨g,cap,cur,rfl,hg,hh,hn,hm,hs,ht⟩
 ·subst h0
  exact .inl ⟨rfl,rfl,List.eq_nil_of_length_eq_zero hl⟩
 ·refine .inr ⟨g,cap,cur.toList.drop n,rfl,hg,?_,hn,hm,hl,by rw[List.length_drop,Array.length_toList,hs];omega⟩
  unfold bI
  rw[Nat.mul_one]at ht
  rw[←ht,List.take_append_drop,Array.toArray_toList]
  exact hh
theorem bI.own {base g cap n:Nat} {xs rest:List Value} {w:World} (h:bI g xs rest w) (hb:base<=g) (hn:xs.length=n) (hc:n+rest.length=cap) (hm:cap<=maxLen):w.ownsRow base 69 1 (.slice (some ⟨g,0,none⟩) n cap) n xs:=by
 refine⟨by omega,.inr ⟨g,cap,_,rfl,hb,h,by omega,hm,by simp;omega,?_⟩⟩
 rw[Nat.mul_one,←hn,List.take_left' rfl]
theorem All.kept {R:List Value->List Tm->Prop} {b:Nat->Bool} {vs:List Value} {rows:List (List Tm)} (h:All 1 R vs rows):∀k,k<=rows.length->All 1 R (aI b vs k) (aI b rows k)
 | 0,_=>rfl
 | k+1,hk=>by
  have ih:=h.kept (b:=b) k (by omega)
  unfold aI
  split
  ·exact ih
  ·obtain⟨r,hr⟩:∃r,rows[k]?=some r:=⟨_,List.getElem?_eq_getElem (by omega)⟩
   obtain⟨cs,hc,hR,hx⟩:=h.at_ hr
   match cs,hc with
   | [v],_ =>
    have hv:=hx 0 v rfl
    rw[Nat.mul_one,Nat.add_zero]at hv
    rw[hr,hv]
    exact ih.append (All.one rfl hR)
theorem ui (F:Nat) (cb:Array Value) (eg:∀args w,(callFunc F args).run Tryz.prog w=.ok (.enter F args) w) (w:World) :
  Calls Tryz.prog 68 #[.slice none 0 0,.func (.func F) #[] cb] w λe w'=>e=.returned (.slice none 0 0)/\w=w':=by
 have hI:=pk F cb eg (λ_=>false) (λ_ W=>w=W) [] 0 none 0 w rfl (by omega) (λk W _=>RdL.nil _ _ _ _) (λk row W A' c' h=>by simp at h) rfl
 go_enter Tryz.func68,Tryz.ntmps68
 go_wp2_with fail
 refine hI.mono ?_
 intro e w1 hD
 rcases hD with ⟨rfl,h1,h2⟩|⟨k,hk,_⟩
 ·subst h2
  clear h1 hI
  go_wp2
  go_ret
  exact⟨rfl,rfl⟩
 ·omega
def C6 (W0:World) (b g r mb:Nat) (va vr:Value) (vars:List ByteArray) (qc vs:List Value) (rows:List (List Tm)) (k:Nat) (W:World):Prop:=
 ∃m,dw W r m/\W.heap[mb]?=some (Obj.cells #[.map (some r)] 121 (0,0))/\(∀x,0<=aV m x/\aV m x<=k/\(0<aV m x↔∃q∈rows.take k,eK q=x)) /\
  WkG W0.heap.size b g va vr vars qc vs rows W/\Below W0.heap.size W0 W
theorem qz {rows:List (List Tm)} {k:Nat} {row:List Tm} {m:List (ByteArray × Int)} (hrow:rows[k]?=some row) (h:∀x,0<=aV m x/\aV m x<=k/\(0<aV m x↔∃q∈rows.take k,eK q=x)) (x:ByteArray) :
  0<=aV (dF m (eK row) (aV m (eK row)+1)) x/\aV (dF m (eK row) (aV m (eK row)+1)) x<=(k+1:Nat)/\(0<aV (dF m (eK row) (aV m (eK row)+1)) x↔∃q∈rows.take (k+1),eK q=x):=by
 rw[jq,ah hrow]
 have h1:=h x
 have h2:=h (eK row)
 by_cases e:eK row=x
 ·rw[if_pos e]
  refine⟨by omega,by omega,λ_=>⟨row,by simp,e⟩,λ_=>by omega⟩
 ·rw[if_neg e]
  refine⟨h1.1,by omega,h1.2.2.trans ⟨λ⟨q,hq,he⟩=>⟨q,by simp[hq],he⟩,λ⟨q,hq,he⟩=>?_⟩⟩
  rcases List.mem_append.1 hq with hq|hq
  ·exact⟨q,hq,he⟩
  ·simp only[List.mem_cons,List.not_mem_nil,or_false]at hq
   subst hq;exact absurd he e
def ju (r:List Tm):Prop:=r.length<=1000000/\∀t∈r,keyTm t
def dt (W0:World) (b:Nat) (vars:List ByteArray) (rows:List (List Tm)) (qc:List Value) (n:Int) (e:Ending) (w':World):Prop:=
 e=.returned (.int .i64 n)/\dH W0.heap.size w' b vars rows qc/\Below W0.heap.size W0 w'
theorem dH.on {base b:Nat} {w w':World} {vars:List ByteArray} {rows:List (List Tm)} {qc:List Value} (h:dH base w b vars rows qc) (hb:Below w.heap.size w w'):dH base w' b vars rows qc:=by
 obtain⟨h0,va,vr,h1,h2,h3⟩:=h
 exact⟨h0,va,vr,KeepT.below hb _ _ _ h1,own_keep h2 (KeepT.below hb),h3.keep (KeepT.below hb) (KeepT.below hb)⟩
theorem kx {base b:Nat} {W:World} {va vr vr':Value} {vars:List ByteArray} {rows:List (List Tm)} {qc:List Value} (hb:base<=b) (h1:W.heap[b]?=some (Obj.cells (va::vr::qc).toArray 109 (0,0))) (h2:W.ownsRow base 9 1 va vars.length (vars.map Value.string)) (h3:OwnRs base W vr' rows) :
  dH base (W.setCell ⟨b,1,none⟩ vr') b vars rows qc:=by
 have hk:∀e,109≠e->KeepT e W (W.setCell ⟨b,1,none⟩ vr'):=λe he=>KeepT.setCell h1 he
 refine⟨hb,va,vr',?_,own_keep h2 (hk _ (by decide)),h3.keep (hk _ (by decide)) (hk _ (by decide))⟩
 have:=aR h1 1 vr'
 simpa using this
theorem AL (W0:World) (hP:gL W0) (b:Nat) (vars:List ByteArray) (rows:List (List Tm)) (qc:List Value) (w:World) (hB:Below W0.heap.size W0 w) (hW:dH W0.heap.size w b vars rows qc) (hz:∀r∈rows,ju r) (hl:rows.length<=1000000) :
  Calls Tryz.prog 51 #[.pointer (some ⟨b,0,none⟩)] w (dt W0 b vars (br rows) qc 0):=by
 have eg:∀args w,(callFunc 83 args).run Tryz.prog w=.ok (.enter 83 args) w:=enters_of Tryz.func83 (by kernel_rfl) rfl
 have hmm:=@run_makeMap Tryz.prog
 obtain⟨hbb,va,vr,hblk,hva,xs,hown,hall⟩:=hW
 obtain⟨n,hn⟩:∃n,rows.length=n:=⟨_,rfl⟩
 rw[hn]at hown hl
 have hlt:b<w.heap.size:=(Array.getElem?_eq_some_iff.1 hblk).1
 rcases bI.of_own hown with ⟨rfl,rfl,rfl⟩|⟨g,cap,rest,rfl,hbg,hV,hnc,hcm,hxn,hrc⟩
 ·obtain rfl:rows=[]:=List.eq_nil_of_length_eq_zero hn
  have c1:w.cell? ⟨b,1,none⟩=some (.slice none 0 0):=by simp[World.cell?,hblk]
  have f1:w.frozen? ⟨b,1,none⟩=false:=by simp[World.frozen?,hblk]
  have H:=Lib.hid (And.intro hbb (And.intro hblk (And.intro hva (And.intro hown hB))))
  have hD:=λmb W=>ui 83 #[.pointer (some ⟨mb,0,none⟩)] eg W
  clear hbb hblk hva hown hB hall hn hz hP
  go_enter Tryz.func51,Tryz.ntmps51
  go_wp2_with (go_at_call 68;refine(hD _ _).mono ?_;rintro e w1 ⟨rfl,rfl⟩)
  have hF:dH W0.heap.size (w.setCell ⟨b,1,none⟩ (.slice none 0 0)) b vars (br []) qc:=kx H.out.1 H.out.2.1 H.out.2.2.1 (OwnRs.nil _ _)
  have HF:=Lib.hid hF
  have hbb:=H.out.1
  have hsz:=H.out.2.2.2.2.size
  clear hF
  go_ret
  refine⟨rfl,(HF.out.on ((Below.refl _ _).alloc (Nat.le_refl _) _)).on ((Below.refl _ _).alloc (Nat.le_refl _) _),?_⟩
  exact((H.out.2.2.2.2.setCell (p:=⟨b,1,none⟩) hbb _).alloc (by simpa using hsz) _).alloc (by simp;omega) _
 ·have c1:w.cell? ⟨b,1,none⟩=some (.slice (some ⟨g,0,none⟩) n cap):=by simp[World.cell?,hblk]
  have hal:Below w.heap.size w ((w.alloc (.map #[] 0)).alloc (.cells #[.map (some w.heap.size)] 121)):=blw
  have hglt:=hV.lt
  have hS0:C6 W0 b g w.heap.size (w.heap.size+1) va (.slice (some ⟨g,0,none⟩) n cap) vars qc xs rows 0 ((w.alloc (.map #[] 0)).alloc (.cells #[.map (some w.heap.size)] 121)):=by
   refine⟨[],?_,?_,λx=>⟨by simp[aV],by simp[aV],by simp[aV]⟩,WkG.on ⟨hblk,hva,hall,_,hV⟩ hal,hB.trans (hal.mono hB.size)⟩
   ·exact am w _ _
   ·exact ai w _ _
  have hD:=uh 83 #[.pointer (some ⟨w.heap.size+1,0,none⟩)] eg (λk=>((rows[k]?).map λq=>decide (q∈rows.take k)).getD false) (C6 W0 b g w.heap.size (w.heap.size+1) va (.slice (some ⟨g,0,none⟩) n cap) vars qc xs rows) rows xs rest g n cap rest.length _ hn hxn rfl (by omega) hnc
   (λk W h=>by
    obtain⟨m,_,_,_,hG,_⟩:=h
    exact hG.2.2.1.mono λ_ _ _ x=>x.rd)
   (λk W i v h=>by
    obtain⟨m,h1,h2,h3,h4,h5⟩:=h
    obtain⟨cur,h6⟩:=h4.2.2.2
    have hne:g≠w.heap.size:=by omega
    refine⟨m,?_,KeepT.setCell h6 (by decide) _ _ _ h2,h3,h4.setCell i v,h5.setCell (p:=⟨g,i,none⟩) hbg _⟩
    unfold dw
    rw[Below.heap_setCell _ _ _ _ (λe=>hne e.symm)];exact h1)
   (λk W o us h=>by
    obtain⟨m,h1,h2,h3,h4,h5⟩:=h
    have hne:g≠w.heap.size:=by omega
    have hne2:g≠w.heap.size+1:=by omega
    refine⟨m,?_,?_,h3,h4.setCells us o,h5.trans (below_setCells hbg us o W)⟩
    ·unfold dw
     rw[bA hne];exact h1
    ·rw[bA hne2];exact h2)
   (λk row W A' c' us hrow h hU hle hrd=>by
    obtain⟨m,h1,h2,h3,h4,h5⟩:=h
    have hzr:=hz row (List.mem_of_getElem? hrow)
    have hk:k<n:=by rw[←hn];exact(List.getElem?_eq_some_iff.1 hrow).1
    refine(yb row A' c' row.length w.heap.size m (w.heap.size+1) W rfl hzr.1 (hP.step h5) hrd hzr.2 (by rw[Lib.cell_of_heap h2];rfl) h1 ⟨(h3 _).1,by have:=(h3 (eK row)).2.1;omega⟩ (by omega)).mono ?_
    rintro e W' ⟨rfl,w2,hb2,rfl⟩
    have hM2:=h1.on hb2
    have hrr:=jp hM2
    refine⟨?_,⟨_,qp hrr _,?_,qz hrow h3,(h4.on hb2).putM hM2 _,?_⟩,?_⟩
    ·congr 2
     rw[hrow]
     show decide _=decide _
     rw[decide_eq_decide,(h3 (eK row)).2.2]
     exact⟨λ⟨q,hq,he⟩=>(yQ he) ▸ hq,λhq=>⟨row,hq,rfl⟩⟩
    ·exact KeepT.putM _ _ _ _ hM2 _ _ _ _ (KeepT.below hb2 _ _ _ h2)
    ·exact(h5.trans (hb2.mono h5.size)).grown (hX _ _ _) (by have:=hb2.size;have:=h5.size;omega) (λq e=>by injection e with e;have:=hB.size;omega)
    ·exact KeepT.putM _ _ _ _ hM2 _ _ _ _ (KeepT.below hb2 _ _ _ hU))
   hS0 (KeepT.below hal _ _ _ hV)
  have hko:=oa (b:=λk=>((rows[k]?).map λq=>decide (q∈rows.take k)).getD false) (l:=rows) (λk x hx=>by simp[hx]) n (by omega)
  rw[List.take_of_length_le (by omega)]at hko
  have H:=Lib.hid (And.intro hbb (And.intro hcm (And.intro hrc (And.intro hbg (And.intro hko hn)))))
  clear hbb hblk hva hown hB hall hn hz hP hS0 hV hcm hrc hko hal hxn
  go_enter Tryz.func51,Tryz.ntmps51
  go_wp2_with fail
  refine hD.mono ?_
  rintro e w9 ⟨rest',rfl,hV',hlen,hS⟩
  obtain⟨m,_,_,_,hG,hB9⟩:=hS
  have c9:w9.cell? ⟨b,1,none⟩=some (.slice (some ⟨g,0,none⟩) n cap):=by simp[World.cell?,hG.1]
  have f9:w9.frozen? ⟨b,1,none⟩=false:=by simp[World.frozen?,hG.1]
  have hko:=H.out.2.2.2.2.1
  have hall:=hG.2.2.1.kept (b:=λk=>((rows[k]?).map λq=>decide (q∈rows.take k)).getD false) n (by rw[H.out.2.2.2.2.2];exact Nat.le_refl _)
  rw[hko]at hall
  generalize aI (λk=>((rows[k]?).map λq=>decide (q∈rows.take k)).getD false) xs n=ys at *
  have hyl:=hall.len
  obtain⟨n2,hn2⟩:∃n2,ys.length=n2:=⟨_,rfl⟩
  rw[hn2]at hlen hyl ⊢
  have hrs:OwnRs W0.heap.size w9 (.slice (some ⟨g,0,none⟩) n2 cap) (br rows):=⟨ys,by rw[show (br rows).length=n2 by omega];exact hV'.own hbg hn2 (by have:=H.out.2.2.1;omega) H.out.2.1,hall⟩
  have HF:Hid (dt W0 b vars (br rows) qc 0 (.returned (.int .i64 0)) (w9.setCell ⟨b,1,none⟩ (.slice (some ⟨g,0,none⟩) n2 cap))):=
   ⟨rfl,kx H.out.1 hG.1 hG.2.1 hrs,hB9.setCell (p:=⟨b,1,none⟩) H.out.1 _⟩
  clear hV' hlen hG hB9 hko hall hyl hrs hn2 hD c1
  go_wp2
  go_ret
  exact HF.out
end Go.Proofs.YtjldjeenfnahoaaGreatDoor
