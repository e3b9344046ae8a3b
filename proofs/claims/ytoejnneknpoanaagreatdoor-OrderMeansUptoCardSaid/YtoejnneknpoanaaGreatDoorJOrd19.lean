/- The program's package order, walked: does. The program's pac -/
import Derived.Test.YtoejnneknpoanaaGreatDoorJOrd15
set_option maxHeartbeats 8000000
set_option maxRecDepth 100000
namespace Go.Proofs.YtoejnneknpoanaaGreatDoor
open Go Go.RowKit Fm Tx Om Mp
theorem run_storePart {P:Program} {w:World} {t:TypeId} {g o:Nat} {ty:TypeId} {cur vs new:Array Value} (hi:(P.info? t).map (·.size)=some vs.size) (hg:w.heap[g]?=some (Obj.cells cur ty (0,0))) (hl:o+vs.size<=cur.size) (h1:vs.toList.all (·.oneCell')=true) (hn:(cur.toList.take o++vs.toList++cur.toList.drop (o+vs.size)).toArray=new) :
  (Instr.storeAt t (.pointer (some ⟨g,o,none⟩)) (.agg vs)).run P w=.ok () (w.setRow g new):=by
 obtain⟨i,hi1,hi2⟩:=Option.map_eq_some_iff.1 hi
 have hs:∀w,(sizeOf t).run P w=.ok vs.size w:=λw=>by simp[sizeOf,typeInfo,hi1,hi2]
 have h:=run_storeCells_at (P:=P) g o ty vs.toList 0 cur w hg (by simpa using hl) (λv hv=>List.all_eq_true.1 h1 v hv)
 simp only[Nat.add_zero,Array.length_toList,hn]at h
 unfold Instr.storeAt storeVar
 simp[Instr.sureAddr,hs,Value.cells,Result.andThen,h]
theorem wpList_store_part {P:Program} {w:World} {ops:Array Oper} {rest:List Oper} {o:Oper} {a:Act} {Q:Exit->Act->World->Prop}
  (hgd:o.guard=none) (t:TypeId) (ad x:Operand) (hop:o.op=Op.store t ad x) {g off:Nat} {ty:TypeId} {cur vs new:Array Value} (had:a.eval ad=.pointer (some ⟨g,off,none⟩)) (hx:a.eval x=.agg vs)
  (hi:(P.info? t).map (·.size)=some vs.size) (hg:w.heap[g]?=some (Obj.cells cur ty (0,0))) (hl:off+vs.size<=cur.size) (h1:vs.toList.all (·.oneCell')=true) (hn:(cur.toList.take off++vs.toList++cur.toList.drop (off+vs.size)).toArray=new)
  (hQ:wpList P ops Q rest (a.put o.dst undef) (w.setRow g new)):wpList P ops Q (o::rest) a w:=by
 refine wpList_plain hgd λK hK=>?_
 have hrun:=run_storePart (P:=P) (w:=w) hi hg hl h1 hn
 unfold Oper.wp
 simp[execOp,hop,had,hx,hrun,Result.andThen]
 exact hK _ _ hQ
theorem KeepT.setRow {e T:TypeId} {w:World} {b:Nat} {cs cur:Array Value} {fr:Nat × Nat} (hb:w.heap[b]?=some (.cells cur T fr)) (hT:T≠e):KeepT e w (w.setRow b cs):=λg c f x=>by
 rw[setRow_other _ _ _ _ (λh=>by
  subst h
  rw[hb]at x
  injection x with x
  injection x with _ e2 _
  exact hT e2)]
 exact x
theorem wk_query {base b:Nat} {W:World} {va vr:Value} {vars:List ByteArray} {rows:List (List Tm)} {qc:List Value} (qc':List Value) (hb:base<=b) (h1:W.heap[b]?=some (Obj.cells (va::vr::qc).toArray 110 (0,0))) (h2:W.ownsRow base 9 1 va vars.length (vars.map Value.string)) (h3:OwnRs base W vr rows) :
  WkAt base (W.setRow b (va::vr::qc').toArray) b vars rows qc':=by
 have hk:∀e,110≠e->KeepT e W (W.setRow b (va::vr::qc').toArray):=λe he=>KeepT.setRow h1 he
 exact⟨hb,va,vr,setRow_heap W b _ _ _ (0,0) h1,own_keep h2 (hk _ (by decide)),h3.keep (hk _ (by decide)) (hk _ (by decide))⟩
theorem OwnIn.lower {base base':Nat} {w:World} {v:Value} {rows:List (List Tm)} (h:OwnIn base w v rows) (hb:base'<=base):OwnIn base' w v rows:=by
 obtain⟨A,c,xs,h1,h2,h3,h4⟩:=h
 refine⟨A,c,xs,h1,h2,h3.imp id ?_,h4.mono λ_ _ _ x=>x.lower hb⟩
 rintro⟨g,o,cur,e1,e2,e3,e4⟩
 exact⟨g,o,cur,e1,Nat.le_trans hb e2,e3,e4⟩
theorem heap_three_0 (w:World) (o1 o2 o3:Obj):(((w.alloc o1).alloc o2).alloc o3).heap[w.heap.size]?=some o1:=by
 rw[((Below.refl (w.alloc o1).heap.size (w.alloc o1)).alloc (Nat.le_refl _) o2 |>.alloc (by simp) o3).block _ (by simp)]
 exact heap_alloc_new _ _
theorem heap_three_1 (w:World) (o1 o2 o3:Obj):(((w.alloc o1).alloc o2).alloc o3).heap[w.heap.size+1]?=some o2:=by
 have:=heap_two_1 (w.alloc o1) o2 o3
 simpa using this
theorem heap_three_2 (w:World) (o1 o2 o3:Obj):(((w.alloc o1).alloc o2).alloc o3).heap[w.heap.size+1+1]?=some o3:=by
 have:=heap_two_2 (w.alloc o1) o2 o3
 simpa using this
def DoesR (N:Int) (vars:List ByteArray) (rows:List (List Tm)) (w:World) (e:Ending) (w':World):Prop:=∃v0 v1,e=.returned (.tuple #[.agg #[v0,v1],.int .i64 N])/\Below w.heap.size w w'/\(N=0->w'.ownsRow w.heap.size 9 1 v0 vars.length (vars.map Value.string)/\OwnIn w.heap.size w' v1 rows)/\(N≠0->v0=.slice none 0 0/\v1=.slice none 0 0)
theorem results_row_tmp {P:Program} {fn:Func} {p u:Tmp} {ty:TypeId} (h:fn.results=#[.cell p ty,.tmp u]) (tmps:Array Value) (w:World) (g:Nat) (t:TypeId) (cs:Array Value) (fr:Nat × Nat) (d:TypeDesc) (v:Value)
  (hp:tmps.getD p undef=.pointer (some ⟨g,0,none⟩)) (hg:w.heap[g]?=some (Obj.cells cs t fr)) (hu:P.underlying ty=some d) (hd:(match d with | .struct _ | .array _ _=>true|_=>false)=true) (hi:(P.info? ty).map (·.size)=some cs.size) (hv:tmps.getD u undef=v) :
  (results fn tmps).run P w=.ok (.tuple #[.agg cs,v]) w:=by
 rw[results_cell_tmp h,hp,hv]
 simp[asAddr,Result.andThen,run_loadVar_row w g t ty cs fr d hg hu hd hi]
theorem tbInfo:(Tryz.prog.info? 25).map (·.size)=some 2:=by kernel_rfl
theorem qInfo:(Tryz.prog.info? 30).map (·.size)=some 8:=by kernel_rfl
theorem ordDoes (F:Nat) (eg:∀args w,(callFunc F args).run Tryz.prog w=.ok (.enter F args) w) (vars vars':List ByteArray) (rows rows':List (List Tm)) (A B:Option Addr) (n c m d:Nat) (b0 b1:Bool) (A2 A3 A4 A5:Option Addr) (n2 c2 n3 c3 n4 c4 n5 c5:Nat) (i6 i7 N:Int) (w:World) (hn:vars.length=n) (hm:rows.length=m) (hln:n<=1000000) (hlm:m<=1000000) (hnc:n<=c) (hv:Rd w A (vars.map Value.string)) (hr:RdRs w B rows) (hz:∀r∈rows,r.length<=1000000) (hR:rightT vars rows=true)
  (hS:∀W1,Below w.heap.size w W1->∀W b,Below W1.heap.size W1 W->WkAt W1.heap.size W b vars rows [.bool b0,.bool b1,.slice A2 n2 c2,.slice A3 n3 c3,.slice A4 n4 c4,.slice A5 n5 c5,.int .i64 i6,.int .i64 i7]->Calls Tryz.prog F #[.pointer (some ⟨b,0,none⟩)] W (StepI W1 b vars' rows' [.bool b0,.bool b1,.slice A2 n2 c2,.slice A3 n3 c3,.slice A4 n4 c4,.slice A5 n5 c5,.int .i64 i6,.int .i64 i7] N)) :
  Calls Tryz.prog 49 #[.agg #[.slice A n c,.slice B m d],.agg #[.bool b0,.bool b1,.slice A2 n2 c2,.slice A3 n3 c3,.slice A4 n4 c4,.slice A5 n5 c5,.int .i64 i6,.int .i64 i7],.func (.func F) #[] #[]] w (DoesR N vars' rows' w):=by
 obtain⟨W1,hW1⟩:∃W1:World,((w.alloc (.cells #[.slice A n c,.slice B m d] 25)).alloc (.cells #[.bool b0,.bool b1,.slice A2 n2 c2,.slice A3 n3 c3,.slice A4 n4 c4,.slice A5 n5 c5,.int .i64 i6,.int .i64 i7] 30)).alloc (.cells #[.slice none 0 0,.slice none 0 0] 25)=W1:=⟨_,rfl⟩
 have hb1:Below w.heap.size w W1:=by rw[←hW1];exact blw
 have hsz1:W1.heap.size=w.heap.size+3:=by rw[←hW1];simp
 have k0:W1.heap[w.heap.size]?=some (Obj.cells #[.slice A n c,.slice B m d] 25 (0,0)):=by rw[←hW1];exact heap_three_0 _ _ _ _
 have k1:W1.heap[w.heap.size+1]?=some (Obj.cells #[.bool b0,.bool b1,.slice A2 n2 c2,.slice A3 n3 c3,.slice A4 n4 c4,.slice A5 n5 c5,.int .i64 i6,.int .i64 i7] 30 (0,0)):=by rw[←hW1];exact heap_three_1 _ _ _ _
 have k2:W1.heap[w.heap.size+1+1]?=some (Obj.cells #[.slice none 0 0,.slice none 0 0] 25 (0,0)):=by rw[←hW1];exact heap_three_2 _ _ _ _
 have hOn:=ordOn vars rows A B n c m d W1 hn hm hln hlm hnc (hv.later hb1) (hr.later hb1) hz hR
 have hS1:=hS W1 hb1
 have HK:=Lib.hid (And.intro hb1 (And.intro k0 (And.intro k1 (And.intro k2 hsz1))))
 have a0:W1.cell? ⟨w.heap.size,0,none⟩=some (.slice A n c):=by rw[World.cell?,k0];rfl
 have a1:W1.cell? ⟨w.heap.size,1,none⟩=some (.slice B m d):=by rw[World.cell?,k0];rfl
 have kq:∀(i:Nat) (v:Value),(#[.bool b0,.bool b1,.slice A2 n2 c2,.slice A3 n3 c3,.slice A4 n4 c4,.slice A5 n5 c5,.int .i64 i6,.int .i64 i7]:Array Value)[i]?=some v->W1.cell? ⟨w.heap.size+1,i,none⟩=some v:=λi v h=>by rw[World.cell?,k1];exact h
 clear hn hm hlm hln hnc hv hr hz hR hS hb1 k0 k1 k2 hsz1
 go_enter Tryz.func49,Tryz.ntmps49
 go_wp2_with (first
  | (go_at_call 74;refine hOn.mono ?_;rintro e w2 ⟨b,rfl,hWk,hb2⟩;have x0:=cell_on (kq 0 (.bool b0) rfl) hb2;have x1:=cell_on (kq 1 (.bool b1) rfl) hb2;have x2:=cell_on (kq 2 (.slice A2 n2 c2) rfl) hb2;have x3:=cell_on (kq 3 (.slice A3 n3 c3) rfl) hb2;have x4:=cell_on (kq 4 (.slice A4 n4 c4) rfl) hb2;have x5:=cell_on (kq 5 (.slice A5 n5 c5) rfl) hb2;have x6:=cell_on (kq 6 (.int .i64 i6) rfl) hb2;have x7:=cell_on (kq 7 (.int .i64 i7) rfl) hb2;obtain⟨hbb,va,vr,hblk,hva,hrs⟩:=hWk;have HW:=Lib.hid (And.intro hbb (And.intro hblk (And.intro hva (And.intro hrs hb2))));clear hbb hblk hva hrs hb2 hOn a0 a1 kq)
  | (refine wpList_store_part rfl 30 _ _ rfl rfl rfl qInfo HW.out.2.1 (Nat.le_refl 10) (new:=(va::vr::[.bool b0,.bool b1,.slice A2 n2 c2,.slice A3 n3 c3,.slice A4 n4 c4,.slice A5 n5 c5,.int .i64 i6,.int .i64 i7]).toArray) rfl rfl ?_)
  | fail)
 have hB3:Below W1.heap.size W1 (w2.setRow b (va::vr::[.bool b0,.bool b1,.slice A2 n2 c2,.slice A3 n3 c3,.slice A4 n4 c4,.slice A5 n5 c5,.int .i64 i6,.int .i64 i7]).toArray):=below_setRow HW.out.2.2.2.2 HW.out.1 _
 have hW3:=wk_query [.bool b0,.bool b1,.slice A2 n2 c2,.slice A3 n3 c3,.slice A4 n4 c4,.slice A5 n5 c5,.int .i64 i6,.int .i64 i7] HW.out.1 HW.out.2.1 HW.out.2.2.1 HW.out.2.2.2.1
 refine(hS1 _ b hB3 hW3).mono ?_
 rintro e w3 ⟨rfl,hWI,hB4⟩
 clear hB3 hW3 hS1 x0 x1 x2 x3 x4 x5 x6 x7 HW
 obtain⟨hb1,_,_,k2,hsz1⟩:=HK.out
 have hk2:w3.heap[w.heap.size+1+1]?=some (Obj.cells #[.slice none 0 0,.slice none 0 0] 25 (0,0)):=by rw[hB4.block _ (by omega)];exact k2
 have hB5:=below_tr hb1 hB4
 have hle:w.heap.size<=W1.heap.size:=by omega
 have put:∀v0 v1,(w3.setRow (w.heap.size+1+1) #[v0,v1]).heap[w.heap.size+1+1]?=some (Obj.cells #[v0,v1] 25 (0,0)):=λv0 v1=>setRow_heap w3 _ _ _ _ (0,0) hk2
 have bel:∀v0 v1,Below w.heap.size w (w3.setRow (w.heap.size+1+1) #[v0,v1]):=λv0 v1=>below_setRow hB5 (by omega) _
 by_cases hN:N=0
 ·subst hN
  obtain⟨hbb,va',vr',hblk,hva,hrs⟩:=hWI
  obtain⟨Av,cv,rfl,_,_⟩:=own_slice hva
  obtain⟨Ar,cr,rfl,_,_⟩:=hrs.rd
  have d0:w3.cell? ⟨b,0,none⟩=some (.slice Av vars'.length cv):=by rw[World.cell?,hblk];rfl
  have d1:w3.cell? ⟨b,1,none⟩=some (.slice Ar rows'.length cr):=by rw[World.cell?,hblk];rfl
  have y0:(w3.setRow (w.heap.size+1+1) #[.slice Av vars'.length cv,.slice Ar rows'.length cr]).cell? ⟨w.heap.size+1+1,0,none⟩=some (.slice Av vars'.length cv):=by rw[World.cell?,put];rfl
  have y1:(w3.setRow (w.heap.size+1+1) #[.slice Av vars'.length cv,.slice Ar rows'.length cr]).cell? ⟨w.heap.size+1+1,1,none⟩=some (.slice Ar rows'.length cr):=by rw[World.cell?,put];rfl
  have HF:Hid (DoesR 0 vars' rows' w (.returned (.tuple #[.agg #[.slice Av vars'.length cv,.slice Ar rows'.length cr],.int .i64 0])) (w3.setRow (w.heap.size+1+1) #[.slice Av vars'.length cv,.slice Ar rows'.length cr])):=by
   have hK:∀e,25≠e->KeepT e w3 (w3.setRow (w.heap.size+1+1) #[.slice Av vars'.length cv,.slice Ar rows'.length cr]):=λe he=>KeepT.setRow hk2 he
   exact⟨_,_,rfl,bel _ _,λ_=>⟨own_lower (own_keep hva (hK _ (by decide))) hle,(hrs.keep (hK _ (by decide)) (hK _ (by decide))).lower hle⟩,λh=>absurd rfl h⟩
  have HK2:=Lib.hid hk2
  have HP:=Lib.hid (put (.slice Av vars'.length cv) (.slice Ar rows'.length cr))
  clear hbb hblk hva hrs put bel hk2 hB4 hB5 hb1 k2
  go_wp2_with (first
   | (refine wpList_store_row rfl 25 _ _ rfl rfl rfl tbInfo HK2.out rfl rfl ?_)
   | fail)
  refine bodyPost_ret (results_row_tmp rfl _ _ _ _ _ _ _ (.int .i64 0) rfl HP.out Tryz.underlying25 rfl tbInfo ?_) rfl HF.out
  rfl
 ·have hq:(N != 0)=true:=by rw[bne_iff_ne];exact hN
  have y0:(w3.setRow (w.heap.size+1+1) #[.slice none 0 0,.slice none 0 0]).cell? ⟨w.heap.size+1+1,0,none⟩=some (.slice none 0 0):=by rw[World.cell?,put];rfl
  have y1:(w3.setRow (w.heap.size+1+1) #[.slice none 0 0,.slice none 0 0]).cell? ⟨w.heap.size+1+1,1,none⟩=some (.slice none 0 0):=by rw[World.cell?,put];rfl
  have HF:Hid (DoesR N vars' rows' w (.returned (.tuple #[.agg #[.slice none 0 0,.slice none 0 0],.int .i64 N])) (w3.setRow (w.heap.size+1+1) #[.slice none 0 0,.slice none 0 0])):=⟨_,_,rfl,bel _ _,λh=>absurd h hN,λ_=>⟨rfl,rfl⟩⟩
  have HK2:=Lib.hid hk2
  have HP:=Lib.hid (put (.slice none 0 0) (.slice none 0 0))
  clear put bel hk2 hB4 hB5 hb1 k2 hN hWI
  go_wp2_with (first
   | (refine wpList_store_row rfl 25 _ _ rfl rfl rfl tbInfo HK2.out rfl rfl ?_)
   | fail)
  refine bodyPost_ret (results_row_tmp rfl _ _ _ _ _ _ _ (.int .i64 N) rfl HP.out Tryz.underlying25 rfl tbInfo ?_) rfl HF.out
  rfl
theorem does_up {N:Int} {vars:List ByteArray} {rows:List (List Tm)} {w W1 w2:World} {e:Ending} (hb1:Below w.heap.size w W1) (hsz:W1.heap.size=w.heap.size+2) (k:W1.heap[w.heap.size+1]?=some (Obj.cells #[.slice none 0 0,.slice none 0 0] 25 (0,0))) (h:DoesR N vars rows W1 e w2) :
  ∃A0 n0 c0 A1 n1 c1,e=.returned (.tuple #[.agg #[.slice A0 n0 c0,.slice A1 n1 c1],.int .i64 N])/\w2.heap[w.heap.size+1]?=some (Obj.cells #[.slice none 0 0,.slice none 0 0] 25 (0,0)) /\
   (w2.setRow (w.heap.size+1) #[.slice A0 n0 c0,.slice A1 n1 c1]).heap[w.heap.size+1]?=some (Obj.cells #[.slice A0 n0 c0,.slice A1 n1 c1] 25 (0,0))/\DoesR N vars rows w (.returned (.tuple #[.agg #[.slice A0 n0 c0,.slice A1 n1 c1],.int .i64 N])) (w2.setRow (w.heap.size+1) #[.slice A0 n0 c0,.slice A1 n1 c1]):=by
 obtain⟨v0,v1,rfl,hb2,h0,h1⟩:=h
 have hk:w2.heap[w.heap.size+1]?=some (Obj.cells #[.slice none 0 0,.slice none 0 0] 25 (0,0)):=by rw[hb2.block _ (by omega)];exact k
 have hs:∃A0 n0 c0 A1 n1 c1,v0=.slice A0 n0 c0/\v1=.slice A1 n1 c1:=by
  by_cases hN:N=0
  ·obtain⟨ho,hi⟩:=h0 hN
   obtain⟨Av,cv,rfl,_,_⟩:=own_slice ho
   obtain⟨Ar,cr,rfl,_,_⟩:=hi.rd
   exact⟨_,_,_,_,_,_,rfl,rfl⟩
  ·obtain⟨rfl,rfl⟩:=h1 hN
   exact⟨_,_,_,_,_,_,rfl,rfl⟩
 obtain⟨A0,n0,c0,A1,n1,c1,rfl,rfl⟩:=hs
 have hK:∀e,25≠e->KeepT e w2 (w2.setRow (w.heap.size+1) #[.slice A0 n0 c0,.slice A1 n1 c1]):=λe he=>KeepT.setRow hk he
 have hle:w.heap.size<=W1.heap.size:=by omega
 exact⟨A0,n0,c0,A1,n1,c1,rfl,hk,setRow_heap w2 _ _ _ _ (0,0) hk,_,_,rfl,below_setRow (below_tr hb1 hb2) (by omega) _,λh=>⟨own_lower (own_keep (h0 h).1 (hK _ (by decide))) hle,((h0 h).2.keep (hK _ (by decide)) (hK _ (by decide))).lower hle⟩,h1⟩
theorem ordTopSort (vars':List ByteArray) (rows':List (List Tm)) (A B:Option Addr) (n c m d:Nat) (N:Int) (Aq:Option Addr) (nq cq:Nat) (w:World)
  (hD:∀W1,Below w.heap.size w W1->Calls Tryz.prog 49 #[.agg #[.slice A n c,.slice B m d],.agg #[.bool false,.bool false,.slice none 0 0,.slice none 0 0,.slice none 0 0,.slice Aq nq cq,.int .i64 0,.int .i64 0],.func (.func 58) #[] #[]] W1 (DoesR N vars' rows' W1)) :
  Calls Tryz.prog 20 #[.agg #[.slice A n c,.slice B m d],.slice Aq nq cq] w (DoesR N vars' rows' w):=by
 obtain⟨W1,hW1⟩:∃W1:World,(w.alloc (.cells #[.slice A n c,.slice B m d] 25)).alloc (.cells #[.slice none 0 0,.slice none 0 0] 25)=W1:=⟨_,rfl⟩
 have hb1:Below w.heap.size w W1:=by rw[←hW1];exact blw
 have hsz:W1.heap.size=w.heap.size+2:=by rw[←hW1];simp
 have k0:W1.heap[w.heap.size]?=some (Obj.cells #[.slice A n c,.slice B m d] 25 (0,0)):=by rw[←hW1];exact heap_two_1 _ _ _
 have k1:W1.heap[w.heap.size+1]?=some (Obj.cells #[.slice none 0 0,.slice none 0 0] 25 (0,0)):=by rw[←hW1];exact heap_two_2 _ _ _
 have a0:W1.cell? ⟨w.heap.size,0,none⟩=some (.slice A n c):=by rw[World.cell?,k0];rfl
 have a1:W1.cell? ⟨w.heap.size,1,none⟩=some (.slice B m d):=by rw[World.cell?,k0];rfl
 have hD1:=hD W1 hb1
 have HK:=Lib.hid (And.intro hb1 (And.intro hsz k1))
 clear hD hb1 hsz k0 k1
 go_enter Tryz.func20,Tryz.ntmps20
 go_wp2_with (first
  | (go_at_call 49;refine hD1.mono ?_;rintro e w2 h;obtain⟨A0,n0,c0,A1,n1,c1,rfl,z1,z2,z3⟩:=does_up HK.out.1 HK.out.2.1 HK.out.2.2 h;have HZ:=Lib.hid (And.intro z1 (And.intro z2 z3));clear h z1 z2 z3 hD1)
  | (refine wpList_store_row rfl 25 _ _ rfl rfl rfl tbInfo HZ.out.1 rfl rfl ?_)
  | fail)
 refine bodyPost_ret (results_row_tmp rfl _ _ _ _ _ _ _ (.int .i64 N) rfl HZ.out.2.1 Tryz.underlying25 rfl tbInfo ?_) rfl HZ.out.2.2
 rfl
theorem ordTopProject (vars':List ByteArray) (rows':List (List Tm)) (A B:Option Addr) (n c m d:Nat) (N:Int) (Aq:Option Addr) (nq cq:Nat) (w:World)
  (hD:∀W1,Below w.heap.size w W1->Calls Tryz.prog 49 #[.agg #[.slice A n c,.slice B m d],.agg #[.bool false,.bool false,.slice Aq nq cq,.slice none 0 0,.slice none 0 0,.slice none 0 0,.int .i64 0,.int .i64 0],.func (.func 60) #[] #[]] W1 (DoesR N vars' rows' W1)) :
  Calls Tryz.prog 22 #[.agg #[.slice A n c,.slice B m d],.slice Aq nq cq] w (DoesR N vars' rows' w):=by
 obtain⟨W1,hW1⟩:∃W1:World,(w.alloc (.cells #[.slice A n c,.slice B m d] 25)).alloc (.cells #[.slice none 0 0,.slice none 0 0] 25)=W1:=⟨_,rfl⟩
 have hb1:Below w.heap.size w W1:=by rw[←hW1];exact blw
 have hsz:W1.heap.size=w.heap.size+2:=by rw[←hW1];simp
 have k0:W1.heap[w.heap.size]?=some (Obj.cells #[.slice A n c,.slice B m d] 25 (0,0)):=by rw[←hW1];exact heap_two_1 _ _ _
 have k1:W1.heap[w.heap.size+1]?=some (Obj.cells #[.slice none 0 0,.slice none 0 0] 25 (0,0)):=by rw[←hW1];exact heap_two_2 _ _ _
 have a0:W1.cell? ⟨w.heap.size,0,none⟩=some (.slice A n c):=by rw[World.cell?,k0];rfl
 have a1:W1.cell? ⟨w.heap.size,1,none⟩=some (.slice B m d):=by rw[World.cell?,k0];rfl
 have hD1:=hD W1 hb1
 have HK:=Lib.hid (And.intro hb1 (And.intro hsz k1))
 clear hD hb1 hsz k0 k1
 go_enter Tryz.func22,Tryz.ntmps22
 go_wp2_with (first
  | (go_at_call 49;refine hD1.mono ?_;rintro e w2 h;obtain⟨A0,n0,c0,A1,n1,c1,rfl,z1,z2,z3⟩:=does_up HK.out.1 HK.out.2.1 HK.out.2.2 h;have HZ:=Lib.hid (And.intro z1 (And.intro z2 z3));clear h z1 z2 z3 hD1)
  | (refine wpList_store_row rfl 25 _ _ rfl rfl rfl tbInfo HZ.out.1 rfl rfl ?_)
  | fail)
 refine bodyPost_ret (results_row_tmp rfl _ _ _ _ _ _ _ (.int .i64 N) rfl HZ.out.2.1 Tryz.underlying25 rfl tbInfo ?_) rfl HZ.out.2.2
 rfl
theorem ordTopOnce (vars':List ByteArray) (rows':List (List Tm)) (A B:Option Addr) (n c m d:Nat) (N:Int) (w:World)
  (hD:∀W1,Below w.heap.size w W1->Calls Tryz.prog 49 #[.agg #[.slice A n c,.slice B m d],.agg #[.bool false,.bool false,.slice none 0 0,.slice none 0 0,.slice none 0 0,.slice none 0 0,.int .i64 0,.int .i64 0],.func (.func 61) #[] #[]] W1 (DoesR N vars' rows' W1)) :
  Calls Tryz.prog 24 #[.agg #[.slice A n c,.slice B m d]] w (DoesR N vars' rows' w):=by
 obtain⟨W1,hW1⟩:∃W1:World,(w.alloc (.cells #[.slice A n c,.slice B m d] 25)).alloc (.cells #[.slice none 0 0,.slice none 0 0] 25)=W1:=⟨_,rfl⟩
 have hb1:Below w.heap.size w W1:=by rw[←hW1];exact blw
 have hsz:W1.heap.size=w.heap.size+2:=by rw[←hW1];simp
 have k0:W1.heap[w.heap.size]?=some (Obj.cells #[.slice A n c,.slice B m d] 25 (0,0)):=by rw[←hW1];exact heap_two_1 _ _ _
 have k1:W1.heap[w.heap.size+1]?=some (Obj.cells #[.slice none 0 0,.slice none 0 0] 25 (0,0)):=by rw[←hW1];exact heap_two_2 _ _ _
 have a0:W1.cell? ⟨w.heap.size,0,none⟩=some (.slice A n c):=by rw[World.cell?,k0];rfl
 have a1:W1.cell? ⟨w.heap.size,1,none⟩=some (.slice B m d):=by rw[World.cell?,k0];rfl
 have hD1:=hD W1 hb1
 have HK:=Lib.hid (And.intro hb1 (And.intro hsz k1))
 clear hD hb1 hsz k0 k1
 go_enter Tryz.func24,Tryz.ntmps24
 go_wp2_with (first
  | (go_at_call 49;refine hD1.mono ?_;rintro e w2 h;obtain⟨A0,n0,c0,A1,n1,c1,rfl,z1,z2,z3⟩:=does_up HK.out.1 HK.out.2.1 HK.out.2.2 h;have HZ:=Lib.hid (And.intro z1 (And.intro z2 z3));clear h z1 z2 z3 hD1)
  | (refine wpList_store_row rfl 25 _ _ rfl rfl rfl tbInfo HZ.out.1 rfl rfl ?_)
  | fail)
 refine bodyPost_ret (results_row_tmp rfl _ _ _ _ _ _ _ (.int .i64 N) rfl HZ.out.2.1 Tryz.underlying25 rfl tbInfo ?_) rfl HZ.out.2.2
 rfl
structure TabAt (w:World) (A B:Option Addr) (n c m d:Nat) (vars:List ByteArray) (rows:List (List Tm)):Prop where
 hn:vars.length=n
 hm:rows.length=m
 hln:n<=1000000
 hlm:m<=1000000
 hnc:n<=c
 hv:Rd w A (vars.map Value.string)
 hr:RdRs w B rows
 hz:∀r∈rows,r.length<=1000000
theorem right_rows {vars:List ByteArray} {rows:List (List Tm)} (h:rightT vars rows=true):∀r∈rows,r.length=vars.length:=by
 unfold rightT at h
 simp only[Bool.and_eq_true,Bool.not_eq_true',List.any_eq_false]at h
 intro r hr
 have:=h.2 r hr
 simpa using this
section
variable {w:World} {A B:Option Addr} {n c m d:Nat} {vars:List ByteArray} {rows:List (List Tm)}
theorem TabAt.later (T:TabAt w A B n c m d vars rows) {w':World} (h:Below w.heap.size w w'):TabAt w' A B n c m d vars rows:=⟨T.hn,T.hm,T.hln,T.hlm,T.hnc,T.hv.later h,T.hr.later h,T.hz⟩
theorem topSort (T:TabAt w A B n c m d vars rows) (hR:rightT vars rows=true) (hC:CtxT w) (hk:∀r∈rows,smallRow r) (keys:List Ky) (Ao:Option Addr) (no co:Nat) (hno:keys.length=no) (hlo:no<=1000000) (hky:RdKey w Ao keys) :
  Calls Tryz.prog 20 #[.agg #[.slice A n c,.slice B m d],.slice Ao no co] w (DoesR (sortN vars keys) vars (sortL vars keys rows) w):=by
 have hlv:=T.hln
 have hl:=T.hlm
 rw[←T.hn]at hlv
 rw[←T.hm]at hl
 refine ordTopSort _ _ A B n c m d _ Ao no co w λW1 h1=>?_
 have T1:=T.later h1
 refine ordDoes 58 (enters_of Tryz.func58 (by kernel_rfl) rfl) vars vars rows _ A B n c m d _ _ _ _ _ _ _ _ _ _ _ _ _ _ _ _ _ W1 T1.hn T1.hm T1.hln T1.hlm T1.hnc T1.hv T1.hr T1.hz hR ?_
 intro W2 h2 W b hb hW
 have hb2:=below_tr h1 h2
 exact(ordSorted W2 (hC.step hb2) b vars rows keys _ _ _ _ _ _ _ Ao no co W hb hW hno hlo (RdL.mono hky hb2 (λ_ _ _ h=>h)) hk (right_rows hR) hlv hl).mono λe w' h=>h.in_
theorem topOnce (T:TabAt w A B n c m d vars rows) (hR:rightT vars rows=true) (hP:PowV w) (hk:∀r∈rows,keyRow r) :
  Calls Tryz.prog 24 #[.agg #[.slice A n c,.slice B m d]] w (DoesR 0 vars (onceL rows) w):=by
 have hl:=T.hlm
 rw[←T.hm]at hl
 refine ordTopOnce _ _ A B n c m d _ w λW1 h1=>?_
 have T1:=T.later h1
 refine ordDoes 61 (enters_of Tryz.func61 (by kernel_rfl) rfl) vars vars rows _ A B n c m d _ _ _ _ _ _ _ _ _ _ _ _ _ _ _ _ _ W1 T1.hn T1.hm T1.hln T1.hlm T1.hnc T1.hv T1.hr T1.hz hR ?_
 intro W2 h2 W b hb hW
 exact(ordOnce W2 (hP.step (below_tr h1 h2)) b vars rows _ W hb hW hk hl).mono λe w' h=>h.in_
theorem topProject (T:TabAt w A B n c m d vars rows) (hR:rightT vars rows=true) (names:List ByteArray) (Aq:Option Addr) (nq cq:Nat) (hnq:names.length=nq) (hlq:nq<=1000000) (hcq:nq<=cq) (hrq:Rd w Aq (names.map Value.string)) :
  Calls Tryz.prog 22 #[.agg #[.slice A n c,.slice B m d],.slice Aq nq cq] w (DoesR (projN vars names) (if projN vars names=0 then names else vars) (if projN vars names=0 then rows.map (projL (placesL vars names)) else rows) w):=by
 have hlv:=T.hln
 have hl:=T.hlm
 rw[←T.hn]at hlv
 rw[←T.hm]at hl
 refine ordTopProject _ _ A B n c m d _ Aq nq cq w λW1 h1=>?_
 have T1:=T.later h1
 refine ordDoes 60 (enters_of Tryz.func60 (by kernel_rfl) rfl) vars _ rows _ A B n c m d _ _ _ _ _ _ _ _ _ _ _ _ _ _ _ _ _ W1 T1.hn T1.hm T1.hln T1.hlm T1.hnc T1.hv T1.hr T1.hz hR ?_
 intro W2 h2 W b hb hW
 refine(ordProject W2 b vars names rows _ _ _ _ _ _ _ Aq nq cq W hb hW hnq hlq hcq (hrq.later (below_tr h1 h2)) (right_rows hR) hlv hl).mono λe w' h=>?_
 by_cases hN:projN vars names=0
 ·rw[if_pos hN,if_pos hN,hN]
  exact(h.2 hN).in_
 ·rw[if_neg hN,if_neg hN]
  exact(h.1 hN).in_
end
section
variable {w:World} {A B:Option Addr} {n c m d:Nat} {vars:List ByteArray} {rows:List (List Tm)}
end
theorem keep_mem {vars:List ByteArray} {nf:Nat} {fils:List (ExT nf)} {rows:List (List Tm)} {r:List Tm} (h:r∈keepL vars nf fils rows):r∈rows:=(List.mem_filter.1 h).1
theorem keep_len (vars:List ByteArray) (nf:Nat) (fils:List (ExT nf)) (rows:List (List Tm)):(keepL vars nf fils rows).length<=rows.length:=List.length_filter_le _ _
theorem sortL_perm (vars:List ByteArray) (keys:List Ky) (rows:List (List Tm)):(sortL vars keys rows).Perm rows:=by
 unfold sortL
 split
 ·exact List.Perm.refl _
 ·exact List.mergeSort_perm _ _
theorem proj_len (ps:List Int) (row:List Tm):(projL ps row).length=ps.length:=by unfold projL;rw[List.length_map]
theorem proj_mem {ps:List Int} {row:List Tm} (hp:∀p∈ps,0<=p/\p<(row.length:Int)) {t:Tm} (h:t∈projL ps row):t∈row:=by
 obtain⟨p,hm,rfl⟩:=List.mem_map.1 h
 have:=hp p hm
 rw[getElem!_pos row p.toNat (by omega)]
 exact List.getElem_mem _
end Go.Proofs.YtoejnneknpoanaaGreatDoor
