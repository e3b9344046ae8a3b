/- The program's package order, walked: a text that tells rows -/
import Derived.Test.YtoejnneknpoanaaGreatDoorJKeyMath
import Derived.Lib.AppendIntMem
import Derived.Lib.ItoaLen
namespace Go.Proofs.YtoejnneknpoanaaGreatDoor
open Go Go.RowKit Fm Tx Om
theorem bTy:WTy 164 2:=⟨by kernel_rfl,by decide⟩
abbrev BI (B b:Nat) (acc:List UInt8) (w:World):Prop:=WIs 164 [] B b (Lib.byteCells acc) w
theorem bWrite (B b:Nat) (acc:List UInt8) (s:ByteArray) (w:World) (h:BI B b acc w) (ha:acc.length<=100000000000000) (hs:s.size<=1000000000) (hBw:B<=w.heap.size) :
  Calls Tryz.prog 138 #[.pointer (some ⟨b,0,none⟩),.string s] w λe w'=>(∃u,e=.returned u)/\BI B b (acc++s.data.toList) w'/\Below B w w'/\OK8 b w w':=by
 refine(wString bTy B b _ s w h (by rw[Lib.byteCells_length];omega) hBw).mono ?_
 rintro e w' ⟨rfl,h1,h2,h3⟩
 rw[Lib.strCells_eq,←Lib.byteCells_append]at h1
 exact⟨⟨_,rfl⟩,.inr h1,h2,h3⟩
def PowV (w:World):Prop:=Lib.TabIs Tryz.prog w "internal/strconv.uint64pow10" .u64 Lib.pow10Tab
theorem PowV.step {w w':World} (h:PowV w) (hb:Below w.heap.size w w'):PowV w':=(Lib.tabBelow_of_tabIs h) w' hb
def inI (n:Int):Prop:=-9223372036854775808<=n/\n<=9223372036854775807
theorem below_gd (w:World) (k:Nat) (os:Array Obj):Below w.heap.size w (Sort.grow (w.drewN k) os):=⟨rfl,rfl,rfl,by simp[Sort.grow,World.drewN],λi hi=>by simp only[Sort.grow,World.drewN];rw[Array.getElem?_append,if_pos hi]⟩
theorem itoaB (n:Int) (w:World) (h:inI n) (hP:PowV w):Calls Tryz.prog 139 #[.int .i64 n] w λe w'=>e=.returned (.string ⟨(Lib.itoa n).toArray⟩)/\Below w.heap.size w w':=
 (Tryz.strconv_Itoa n h.1 h.2 w hP).mono λe w' ⟨h1,k,os,h2⟩=>⟨h1,by subst h2;exact below_gd _ _ _⟩
def keyT (t:Tm):List UInt8:=keyW t.k (bl t.x) (bl t.l) (bl t.y)
def keyL (r:List Tm):List UInt8:=r.flatMap keyT
theorem keyL_inj:∀(a b:List Tm),keyL a=keyL b->a=b
 | [],[],_=>rfl
 | [],t::r,h=>by
  exfalso
  have:keyT t++keyL r=[]:=h.symm
  exact keyW_has _ _ _ _ (List.append_eq_nil_iff.1 this).1
 | t::r,[],h=>by
  exfalso
  have:keyT t++keyL r=[]:=h
  exact keyW_has _ _ _ _ (List.append_eq_nil_iff.1 this).1
 | a::l,b::m,h=>by
  have h:keyT a++keyL l=keyT b++keyL m:=h
  obtain⟨h1,h2,h3,h4,h5⟩:=keyW_inj h
  rw[keyL_inj l m h5]
  obtain⟨k,x,ll,y⟩:=a
  obtain⟨k',x',l',y'⟩:=b
  simp only at h1 h2 h3 h4
  rw[h1,ba_ext h2,ba_ext h3,ba_ext h4]
def keyTm (t:Tm):Prop:=inI t.k/\t.x.size<=1048576/\t.l.size<=1048576/\t.y.size<=1048576
theorem itoa_len (n:Int) (h:inI n):(Lib.itoa n).length<=21:=Lib.itoa_length_le n h.1 h.2
theorem piece_len {s:List UInt8} (h:s.length<=1048576):(pieceK s).length<=1049000:=by
 have:=itoa_len (s.length:Int) ⟨by omega,by omega⟩
 unfold pieceK
 simp only[List.length_cons,List.length_append];omega
theorem keyT_len {t:Tm} (h:keyTm t):(keyT t).length<=4000000:=by
 obtain⟨h0,h1,h2,h3⟩:=h
 have a0:=itoa_len t.k h0
 have a1:=piece_len (s:=bl t.x) (by rw[size_toList];exact h1)
 have a2:=piece_len (s:=bl t.l) (by rw[size_toList];exact h2)
 have a3:=piece_len (s:=bl t.y) (by rw[size_toList];exact h3)
 unfold keyT keyW
 simp only[List.length_append];omega
theorem keyL_len:∀(r:List Tm),(∀t∈r,keyTm t)->(keyL r).length<=r.length*4000000
 | [],_=>by simp[keyL]
 | t::r,h=>by
  have h1:=keyT_len (h t (by simp))
  have h2:=keyL_len r λx hx=>h x (by simp[hx])
  show (keyT t++keyL r).length<=_
  rw[List.length_append,List.length_cons,Nat.succ_mul];omega
theorem keyL_snoc {r:List Tm} {k:Nat} {t:Tm} (h:r[k]?=some t):keyL (r.take (k+1))=keyL (r.take k)++keyT t:=by
 rw[take_snoc_of h];unfold keyL;rw[List.flatMap_append];simp
theorem itoaQ (n:Int) (w:World) (h:inI n) (hP:PowV w):Calls Tryz.prog 139 #[.int .i64 n] w λe w'=>∃q:ByteArray,e=.returned (.string q)/\q.size<=21/\q.data.toList=Lib.itoa n/\Below w.heap.size w w':=
 (itoaB n w h hP).mono λe w' ⟨h1,h2⟩=>⟨_,h1,by rw[←size_toList];simpa using itoa_len n h,by simp,h2⟩
def psT (t:Tm):List ByteArray:=[t.x,t.l,t.y]
theorem psT_all (t:Tm):(Lib.itoa t.k++((psT t).take 3).flatMap λs=>pieceK s.data.toList)=keyT t:=by
 unfold psT keyT keyW bl;simp
theorem psT_snoc (t:Tm) {j:Nat} {s:ByteArray} (h:(psT t)[j]?=some s):(((psT t).take (j+1)).flatMap λs=>pieceK s.data.toList)=(((psT t).take j).flatMap λs=>pieceK s.data.toList)++pieceK s.data.toList:=by
 rw[take_snoc_of h,List.flatMap_append];simp
theorem psT_len {t:Tm} (ht:keyTm t) (j:Nat) (hj:j<=3):(((psT t).take j).flatMap λs=>pieceK s.data.toList).length<=3147000:=by
 have a1:=piece_len (s:=t.x.data.toList) (by rw[size_toList];exact ht.2.1)
 have a2:=piece_len (s:=t.l.data.toList) (by rw[size_toList];exact ht.2.2.1)
 have a3:=piece_len (s:=t.y.data.toList) (by rw[size_toList];exact ht.2.2.2)
 match j,hj with
 | 0,_=>simp
 | 1,_=>simp[psT];omega
 | 2,_=>simp[psT];omega
 | 3,_=>simp[psT];omega
theorem cat4 (q s:ByteArray):((⟨#[32]⟩:ByteArray)++q++⟨#[58]⟩++s).data.toList=32::(q.data.toList++58::s.data.toList):=by
 simp[ByteArray.data_append]
set_option maxHeartbeats 8000000 in
set_option maxRecDepth 100000 in
theorem ordKey (row:List Tm) (A:Option Addr) (c n:Nat) (w:World) (hn:row.length=n) (hl:n<=1000000) (hP:PowV w) (hr:RdTs w A row) (hz:∀t∈row,keyTm t) :
  Calls Tryz.prog 100 #[.slice A n c] w λe w'=>e=.returned (.string ⟨(keyL row).toArray⟩)/\Below w.heap.size w w':=by
 have HN:=Lib.hid hn
 have HR:=Lib.hid (And.intro hr (And.intro hz hP))
 have hB0:BI w.heap.size w.heap.size (keyL (row.take 0)) (w.alloc (.cells #[.pointer none,.slice none 0 0] 164)):=.inl (WAt.new w _ [])
 have HS:Hid (BI w.heap.size w.heap.size (keyL (row.take 0)) (w.alloc (.cells #[.pointer none,.slice none 0 0] 164))/\Below w.heap.size w (w.alloc (.cells #[.pointer none,.slice none 0 0] 164))):=⟨hB0,blw⟩
 clear hn hr hz hP hB0
 go_enter Tryz.func100,Tryz.ntmps100
 go_wp2
 go_loopw [5,7,10] (λu5 u7 i wr=>∃k:Nat,k<=n/\i=.int .i64 k/\Hid (BI w.heap.size w.heap.size (keyL (row.take k)) wr/\Below w.heap.size w wr)) (λ_ _ i _=>n-(intOf i).toNat)
 case atStart=>exact⟨0,by omega,rfl,HS⟩
 case round =>
  clear HS
  obtain⟨k,hk,rfl,HB⟩:=hrel
  by_cases hlt:k<n
  ·obtain⟨t,ht⟩:∃t,row[k]?=some t:=⟨_,List.getElem?_eq_getElem (by rw[HN.out];exact hlt)⟩
   obtain⟨g,o,rfl,a0,a1,a2,a3⟩:=(RdTs.later HR.out.1 HB.out.2).at4 ht
   have hzt:=HR.out.2.1 t (List.mem_of_getElem? ht)
   have hW1:Below wr.heap.size wr (wr.alloc (.cells #[.int .i64 t.k,.string t.x,.string t.l,.string t.y] 76)):=blw
   have hIt:=itoaQ t.k _ hzt.1 (HR.out.2.2.step (below_tr HB.out.2 hW1))
   have HT:=Lib.hid (And.intro ht hzt)
   have hzw:w.heap.size<wr.heap.size:=HB.out.1.lt
   clear ht hzt
   go_wp2_with fail
   refine hIt.mono ?_
   rintro e w2 ⟨q,rfl,hq1,hq2,hb2⟩
   have hbx2:w2.heap[wr.heap.size]?=some (Obj.cells #[.int .i64 t.k,.string t.x,.string t.l,.string t.y] 76 (0,0)):=by rw[hb2.block _ (by simp)];exact heap_alloc_new wr _
   have hacc:(keyL (row.take k)).length<=4000000000000:=by
    have h1:=keyL_len (row.take k) λx hx=>HR.out.2.1 x (List.mem_of_mem_take hx)
    have h2:(row.take k).length<=1000000:=by rw[List.length_take];omega
    have h3:=Nat.mul_le_mul_right 4000000 h2
    omega
   have hwr:=bWrite w.heap.size w.heap.size (keyL (row.take k)) q w2 ((HB.out.1.alloc _).step hb2) (by omega) (by omega) (Nat.le_trans hW1.size (Nat.le_trans (Nat.le_of_eq rfl) hb2.size) |> Nat.le_trans HB.out.2.size)
   have HB2:=Lib.hid (HB.out.2.trans ((below_tr hW1 hb2).mono HB.out.2.size))
   have HQ:=Lib.hid hq2
   clear hIt hb2 hq2 a0 a1 a2 a3 hW1
   go_wp2_with fail
   refine hwr.mono ?_
   rintro e w3 ⟨⟨u,rfl⟩,hBI3,hb3,hok3⟩
   have hbx3:=hok3 wr.heap.size _ hbx2 (λe=>by injection e with e;omega) (λc fz e=>by injection e with _ e _;exact absurd e (by decide))
   have b1:w3.cell? ⟨wr.heap.size,1,none⟩=some (.string t.x):=by rw[Lib.cell_of_heap hbx3];rfl
   have b2:w3.cell? ⟨wr.heap.size,2,none⟩=some (.string t.l):=by rw[Lib.cell_of_heap hbx3];rfl
   have b3:w3.cell? ⟨wr.heap.size,3,none⟩=some (.string t.y):=by rw[Lib.cell_of_heap hbx3];rfl
   have HB3:=Lib.hid (HB2.out.trans hb3)
   have hI0:BI w.heap.size w.heap.size (keyL (row.take k)++(Lib.itoa t.k++((psT t).take 0).flatMap λs=>pieceK s.data.toList)) (w3.alloc (.cells #[.string t.x,.string t.l,.string t.y] 9)):=by
    have:=hBI3.alloc (.cells #[.string t.x,.string t.l,.string t.y] 9)
    rw[HQ.out]at this
    simpa using this
   have HI0:Hid (BI w.heap.size w.heap.size (keyL (row.take k)++(Lib.itoa t.k++((psT t).take 0).flatMap λs=>pieceK s.data.toList)) (w3.alloc (.cells #[.string t.x,.string t.l,.string t.y] 9))/\Below w.heap.size w (w3.alloc (.cells #[.string t.x,.string t.l,.string t.y] 9))/\(w3.alloc (.cells #[.string t.x,.string t.l,.string t.y] 9)).heap[w3.heap.size]?=some (Obj.cells #[.string t.x,.string t.l,.string t.y] 9 (0,0))):=
    ⟨hI0,HB3.out.alloc HB3.out.size _,heap_alloc_new w3 _⟩
   have hw3:w.heap.size<w3.heap.size:=hBI3.lt
   clear hBI3 hb3 hok3 hbx3 hbx2 hI0 hwr
   go_wp2
   go_loopw [7,26] (λu7 i wr2=>∃j:Nat,j<=3/\i=.int .i64 j/\w3.heap.size<wr2.heap.size/\Hid (BI w.heap.size w.heap.size (keyL (row.take k)++(Lib.itoa t.k++((psT t).take j).flatMap λs=>pieceK s.data.toList)) wr2/\Below w.heap.size w wr2/\wr2.heap[w3.heap.size]?=some (Obj.cells #[.string t.x,.string t.l,.string t.y] 9 (0,0)))) (λ_ i _=>3-(intOf i).toNat)
   case atStart=>exact⟨0,by omega,rfl,by simp,HI0⟩
   case round =>
    clear HI0 b1 b2 b3
    obtain⟨j,hj,rfl,hz9,HJ⟩:=hrel
    by_cases hlt2:j<3
    ·obtain⟨s,hs⟩:∃s,(psT t)[j]?=some s:=⟨_,List.getElem?_eq_getElem (by unfold psT;exact hlt2)⟩
     have hss:s.size<=1048576:=by
      have hm:=List.mem_of_getElem? hs
      unfold psT at hm
      simp only[List.mem_cons,List.not_mem_nil,or_false]at hm
      rcases hm with rfl|rfl|rfl
      ·exact HT.out.2.2.1
      ·exact HT.out.2.2.2.1
      ·exact HT.out.2.2.2.2
     have hcell:wr.cell? ⟨w3.heap.size,j,none⟩=some (.string s):=by
      rw[Lib.cell_of_heap HJ.out.2.2]
      have:(#[Value.string t.x,.string t.l,.string t.y]:Array Value)=((psT t).map Value.string).toArray:=rfl
      rw[this,List.getElem?_toArray,List.getElem?_map,hs];rfl
     have hIt:=itoaQ (s.size:Int) wr ⟨by omega,by omega⟩ (HR.out.2.2.step HJ.out.2.1)
     have hps:=psT_len HT.out.2 j hj
     have HPS:Hid ((((psT t).take (j+1)).flatMap λs=>pieceK s.data.toList)=(((psT t).take j).flatMap λs=>pieceK s.data.toList)++(32::(Lib.itoa (s.size:Int)++58::s.data.toList))):=by
      show _=_
      rw[psT_snoc t hs];unfold pieceK;rw[size_toList]
     clear hs
     go_wp2_with fail
     refine hIt.mono ?_
     rintro e w5 ⟨q,rfl,hq1,hq2,hb5⟩
     have HB5:=Lib.hid (And.intro hb5 hq2)
     have hitk:=itoa_len t.k HT.out.2.1
     clear hIt hb5 hq2 hcell
     go_wp2_with fail
     have hsz:(keyL (row.take k)++(Lib.itoa t.k++((psT t).take j).flatMap λs=>pieceK s.data.toList)).length<=100000000000000:=by
      rw[List.length_append,List.length_append];omega
     have hcs:((⟨#[32]⟩:ByteArray)++q++⟨#[58]⟩++s).size<=1000000000:=by
      rw[←size_toList,cat4,List.length_cons,List.length_append,List.length_cons,size_toList,size_toList];omega
     refine(bWrite w.heap.size w.heap.size _ _ w5 (HJ.out.1.step HB5.out.1) hsz hcs (Nat.le_trans HJ.out.2.1.size HB5.out.1.size)).mono ?_
     rintro e w6 ⟨⟨u,rfl⟩,hBI6,hb6,hok6⟩
     have hz6:w3.heap.size<w6.heap.size:=Nat.lt_of_lt_of_le hz9 (Nat.le_trans HB5.out.1.size hb6.size)
     have HF:Hid (BI w.heap.size w.heap.size (keyL (row.take k)++(Lib.itoa t.k++((psT t).take (j+1)).flatMap λs=>pieceK s.data.toList)) w6/\Below w.heap.size w w6/\w6.heap[w3.heap.size]?=some (Obj.cells #[.string t.x,.string t.l,.string t.y] 9 (0,0))):=by
      refine⟨?_,(HJ.out.2.1.trans (HB5.out.1.mono HJ.out.2.1.size)).trans hb6,?_⟩
      ·rw[cat4,HB5.out.2]at hBI6
       rw[HPS.out,←List.append_assoc (Lib.itoa t.k),←List.append_assoc (keyL (row.take k))]
       exact hBI6
      ·exact hok6 _ _ (by rw[HB5.out.1.block _ hz9];exact HJ.out.2.2) (λe=>by injection e with e;omega) (λc fz e=>by injection e with _ e _;exact absurd e (by decide))
     clear hBI6 hb6 hok6 hsz hcs HJ
     go_wp2
     go_roundw
     case rel=>exact⟨j+1,by omega,by go_num,hz6,HF⟩
     case measure=>simp[intOf];omega
    ·obtain rfl:j=3:=by omega
     have HF:Hid (BI w.heap.size w.heap.size (keyL (row.take (k+1))) wr/\Below w.heap.size w wr):=by
      refine⟨?_,HJ.out.2.1⟩
      rw[keyL_snoc HT.out.1,←psT_all]
      exact HJ.out.1
     clear HJ
     go_wp2
     go_roundw
     case rel=>exact⟨k+1,by omega,by go_num,HF⟩
     case measure=>simp[intOf];omega
  ·obtain rfl:k=n:=by omega
   have hS:=Tryz.Builder_String_any_f w.heap.size w.heap.size (keyL row) wr (by
    have:=HB.out.1
    rw[List.take_of_length_le (by rw[HN.out];exact Nat.le_refl _)]at this
    exact this) HB.out.2.size
   go_wp2_with (go_at_call 140;refine hS.mono ?_;rintro e w4 ⟨rfl,_,hb4⟩;have HF:=Lib.hid (HB.out.2.trans hb4);clear hb4 hS)
   go_ret
   exact⟨rfl,HF.out⟩
end Go.Proofs.YtoejnneknpoanaaGreatDoor
namespace Go.Proofs.YtoejnneknpoanaaGreatDoor.Mp
open Go Go.RowKit Go.Maps Go.ChangeMaps
def entsFrom:Nat->List (ByteArray × Int)->List MapEntry
 | _,[]=>[]
 | k,p::m=>{key:=.string p.1,val:=.int .i64 p.2,born:=k}::entsFrom (k+1) m
def ents (m:List (ByteArray × Int)):Array MapEntry:=(entsFrom 0 m).toArray
def CntOf (w:World) (r:Nat) (m:List (ByteArray × Int)):Prop:=w.heap[r]?=some (.map (ents m) m.length)
def lookI:List (ByteArray × Int)->ByteArray->Int
 | [],_=>0
 | p::m,s=>if p.1=s then p.2 else lookI m s
def idxM:List (ByteArray × Int)->ByteArray->Option Nat
 | [],_=>none
 | p::m,s=>if p.1=s then some 0 else (idxM m s).map (· + 1)
def setM:List (ByteArray × Int)->ByteArray->Int->List (ByteArray × Int)
 | [],s,v=>[(s,v)]
 | p::m,s,v=>if p.1=s then (s,v)::m else p::setM m s v
theorem look_setM (s t:ByteArray) (v:Int):∀m:List (ByteArray × Int),lookI (setM m s v) t=if s=t then v else lookI m t
 | []=>by simp[setM,lookI]
 | p::m=>by
  unfold setM
  by_cases h:p.1=s
  ·rw[if_pos h]
   simp only[lookI,h]
   by_cases h2:s=t<;>simp[h2]
  ·rw[if_neg h]
   simp only[lookI]
   rw[look_setM s t v m]
   by_cases h2:p.1=t
   ·have:¬ s=t:=λe=>h (h2.trans e.symm)
    simp[h2,this]
   ·simp[h2]
theorem find_ents (s:ByteArray):∀(m:List (ByteArray × Int)) (k j:Nat),Instr.findNow .string (.string s) (entsFrom k m) j=some ((idxM m s).map λi=>(j+i,.int .i64 (lookI m s)))
 | [],_,_=>rfl
 | p::m,k,j=>by
  unfold entsFrom Instr.findNow
  simp only[Instr.sameNow]
  by_cases h:p.1=s
  ·have hb:(s == p.1)=true:=(MapKept.bytes_beq _ _).2 h.symm
   rw[hb]
   simp[idxM,lookI,h]
  ·have hb:(s == p.1)=false:=by
    cases hx:(s == p.1)
    ·rfl
    ·exact absurd ((MapKept.bytes_beq _ _).1 hx).symm h
   simp only[hb,idxM,lookI,h,if_false]
   rw[find_ents s m (k+1) (j+1)]
   cases idxM m s with
   | none=>rfl
   | some i=>simp;omega
theorem ents_at:∀(m:List (ByteArray × Int)) (k i:Nat) (s:ByteArray),idxM m s=some i->(entsFrom k m)[i]?=some {key:=.string s,val:=.int .i64 (lookI m s),born:=k+i}
 | [],_,_,_,h=>by cases h
 | p::m,k,i,s,h=>by
  unfold idxM at h
  by_cases hp:p.1=s
  ·rw[if_pos hp]at h
   obtain rfl:0=i:=by simpa using h
   simp[entsFrom,lookI,hp]
  ·rw[if_neg hp]at h
   obtain⟨j,hj,rfl⟩:=Option.map_eq_some_iff.1 h
   simp only[entsFrom,List.getElem?_cons_succ,lookI,hp,if_false]
   rw[ents_at m (k+1) j s hj]
   simp;omega
theorem ents_set:∀(m:List (ByteArray × Int)) (k i:Nat) (s:ByteArray) (v:Int),idxM m s=some i ->
  (entsFrom k m).modify i (λe=>{e with val:=.int .i64 v})=entsFrom k (setM m s v)/\(setM m s v).length=m.length
 | [],_,_,_,_,h=>by cases h
 | p::m,k,i,s,v,h=>by
  unfold idxM at h
  by_cases hp:p.1=s
  ·rw[if_pos hp]at h
   obtain rfl:0=i:=by simpa using h
   simp[entsFrom,setM,hp]
  ·rw[if_neg hp]at h
   obtain⟨j,hj,rfl⟩:=Option.map_eq_some_iff.1 h
   obtain⟨h1,h2⟩:=ents_set m (k+1) j s v hj
   simp[entsFrom,setM,hp,List.modify_succ_cons,h1,h2]
theorem ents_app:∀(m:List (ByteArray × Int)) (k:Nat) (s:ByteArray) (v:Int),idxM m s=none ->
  entsFrom k (setM m s v)=entsFrom k m++[{key:=.string s,val:=.int .i64 v,born:=k+m.length}]/\(setM m s v).length=m.length+1
 | [],k,s,v,_=>by simp[entsFrom,setM]
 | p::m,k,s,v,h=>by
  unfold idxM at h
  by_cases hp:p.1=s
  ·rw[if_pos hp]at h;cases h
  ·rw[if_neg hp]at h
   obtain⟨h1,h2⟩:=ents_app m (k+1) s v (by simpa using h)
   simp[entsFrom,setM,hp,h1,h2];omega
theorem look_none:∀(m:List (ByteArray × Int)) (s:ByteArray),idxM m s=none->lookI m s=0
 | [],_,_=>rfl
 | p::m,s,h=>by
  unfold idxM at h
  by_cases hp:p.1=s
  ·rw[if_pos hp]at h;cases h
  ·rw[if_neg hp]at h
   simp only[lookI,hp,if_false]
   exact look_none m s (by simpa using h)
theorem lt_of_cnt {w:World} {r:Nat} {m:List (ByteArray × Int)} (h:CntOf w r m):r<w.heap.size:=(Array.getElem?_eq_some_iff.1 h).1
theorem CntOf.on {w w':World} {r:Nat} {m:List (ByteArray × Int)} (h:CntOf w r m) (hb:Below w.heap.size w w'):CntOf w' r m:=by
 unfold CntOf;rw[hb.block r (lt_of_cnt h)];exact h
variable {P:Program} {T K E:TypeId}
theorem run_lookup_str (hT:P.underlying T=some (.map K E)) (hK:P.underlying K=some .string) {w:World} (hz:(zeroValue E).run P w=.ok (.int .i64 0) w)
  {r:Nat} {m:List (ByteArray × Int)} (h:CntOf w r m) (s:ByteArray):(Instr.lookup T (.map (some r)) (.string s) false).run P w=.ok (.int .i64 (lookI m s)) w:=by
 have hc:(Instr.checkKey (ents m).isEmpty 10000 K (.string s)).run P w=.ok () w:=MapKept.run_checkKey hK (show MapKept.IsKey .string (.string s) from trivial) _ 9999
 have hf:(Instr.findKey K (.string s) (ents m).toList).run P w=.ok ((idxM m s).map λi=>(0+i,.int .i64 (lookI m s))) w:=MapKept.run_findKey hK (find_ents s m 0 0)
 have hg:(getObj r).run P w=.ok (.map (ents m) m.length) w:=MapKept.run_getObj_map h
 unfold Instr.lookup
 simp only[Sem.run_bind,run_underlying hT,Result.andThen,hg,Sem.run_pure,hc,hf]
 cases hi:idxM m s with
 | none=>simp[hz,look_none m s hi]
 | some i=>simp
def putM (w:World) (r:Nat) (m:List (ByteArray × Int)):World:={w with heap:=w.heap.setIfInBounds r (.map (ents m) m.length)}
theorem putM_cnt {w:World} {r:Nat} (h:r<w.heap.size) (m:List (ByteArray × Int)):CntOf (putM w r m) r m:=by
 unfold CntOf putM;simp[h]
theorem putM_grown (w:World) (r:Nat) (m:List (ByteArray × Int)):w.grownBy (putM w r m) (some r):=
 ⟨rfl,rfl,rfl,by simp[putM],λk _ hne=>Array.getElem?_setIfInBounds_ne (λe:r=k=>hne (congrArg some e.symm))⟩
theorem keyStays (s:ByteArray) (w:World):(Instr.keyThatStays (.string s) (.string s)).run P w=.ok (.string s) w:=by
 have h:Instr.sameBits 10000 (.string s) (.string s)=true:=(MapKept.bytes_beq s s).2 rfl
 unfold Instr.keyThatStays
 rw[if_pos h];rfl
theorem modify_toArray {α:Type} (l:List α) (i:Nat) (f:α->α):l.toArray.modify i f=(l.modify i f).toArray:=by simp
theorem run_mapUpdate_str (hT:P.underlying T=some (.map K E)) (hK:P.underlying K=some .string) {w:World} {r:Nat} {m:List (ByteArray × Int)} (h:CntOf w r m) (s:ByteArray) (v:Int) :
  (Instr.mapUpdate T (.map (some r)) (.string s) (.int .i64 v)).run P w=.ok () (putM w r (setM m s v)):=by
 have hc:(Instr.checkKey false 10000 K (.string s)).run P w=.ok () w:=MapKept.run_checkKey hK (show MapKept.IsKey .string (.string s) from trivial) _ 9999
 have hf:(Instr.findKey K (.string s) (ents m).toList).run P w=.ok ((idxM m s).map λi=>(0+i,.int .i64 (lookI m s))) w:=MapKept.run_findKey hK (find_ents s m 0 0)
 have hg:(getObj r).run P w=.ok (.map (ents m) m.length) w:=MapKept.run_getObj_map h
 unfold Instr.mapUpdate
 simp only[Sem.run_bind,run_underlying hT,Result.andThen,hg,hc,hf]
 cases hi:idxM m s with
 | none =>
  obtain⟨h1,h2⟩:=ents_app m 0 s v hi
  have e1:(ents m).push {key:=.string s,val:=.int .i64 v,born:=m.length}=ents (setM m s v):=by
   unfold ents;rw[h1];simp
  simp only[Option.map_none,MapKept.run_setObj_map _ h,e1]
  unfold putM
  rw[h2]
 | some i =>
  have ha:=ents_at m 0 i s hi
  have hk:(((ents m)[0+i]?).map (·.key)).getD (.string s)=.string s:=by unfold ents;simp[ha]
  obtain⟨h1,h2⟩:=ents_set m 0 i s v hi
  have hm:(ents m).modify (0+i) (λe=>{e with key:=.string s,val:=.int .i64 v})=ents (setM m s v):=by
   have e2:(entsFrom 0 m).modify i (λe=>{e with key:=.string s,val:=.int .i64 v})=(entsFrom 0 m).modify i (λe=>{e with val:=.int .i64 v}):=by
    apply List.ext_getElem?
    intro j
    rw[List.getElem?_modify,List.getElem?_modify]
    by_cases hj:i=j
    ·subst hj;rw[ha];simp
    ·simp[hj]
   unfold ents
   rw[modify_toArray,Nat.zero_add,e2,h1]
  simp only[Option.map_some,hk,Sem.run_bind,keyStays,Result.andThen,MapKept.run_setObj_map _ h,hm]
  unfold putM
  rw[h2]
theorem wpList_mapUpdate_str {w:World} {ops:Array Oper} {rest:List Oper} {o:Oper} {a:Act} {Q:Exit->Act->World->Prop}
  (hgd:o.guard=none) (mp x v:Operand) (T:TypeId) (hop:o.op=Op.mapUpdate T mp x v) {K E:TypeId} (hT:P.underlying T=some (.map K E)) (hK:P.underlying K=some .string)
  {r:Nat} {m:List (ByteArray × Int)} (hm:a.eval mp=.map (some r)) (h:CntOf w r m) (s:ByteArray) (n:Int) (hx:a.eval x=.string s) (hv:a.eval v=.int .i64 n)
  (hQ:wpList P ops Q rest (a.put o.dst undef) (putM w r (setM m s n))):wpList P ops Q (o::rest) a w:=by
 refine wpList_plain hgd λK' hK'=>?_
 have hrun:=run_mapUpdate_str (E:=E) (P:=P) hT hK h s n
 unfold Oper.wp
 simp[execOp,hop,hm,hx,hv,hrun,Result.andThen]
 exact hK' _ _ hQ
end Go.Proofs.YtoejnneknpoanaaGreatDoor.Mp
