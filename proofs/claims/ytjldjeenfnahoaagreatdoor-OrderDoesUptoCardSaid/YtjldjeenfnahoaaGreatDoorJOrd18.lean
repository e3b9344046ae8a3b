/- The program's package order, walked: does. The program's pac -/
import Derived.Test.YtjldjeenfnahoaaGreatDoorJOrd15
set_option maxHeartbeats 8000000
set_option maxRecDepth 100000
namespace Go.Proofs.YtjldjeenfnahoaaGreatDoor
open Go Go.RowKit Fm Tx Om Mp
theorem mD {P:Program} {w:World} {t:TypeId} {g o:Nat} {ty:TypeId} {cur vs new:Array Value} (hi:(P.info? t).map (·.size)=some vs.size) (hg:w.heap[g]?=some (Obj.cells cur ty (0,0))) (hl:o+vs.size<=cur.size) (h1:vs.toList.all (·.oneCell')=true) (hn:(cur.toList.take o++vs.toList++cur.toList.drop (o+vs.size)).toArray=new) :
  (Instr.storeAt t (.pointer (some ⟨g,o,none⟩)) (.agg vs)).run P w=.ok () (w.setRow g new):=by
 obtain⟨i,hi1,hi2⟩:=Option.map_eq_some_iff.1 hi
 have hs:∀w,(sizeOf t).run P w=.ok vs.size w:=λw=>by simp[sizeOf,typeInfo,hi1,hi2]
 have h:=run_storeCells_at (P:=P) g o ty vs.toList 0 cur w hg (by simpa using hl) (λv hv=>List.all_eq_true.1 h1 v hv)
 simp only[Nat.add_zero,Array.length_toList,hn]at h
 unfold Instr.storeAt storeVar
 simp[Instr.sureAddr,hs,Value.cells,Result.andThen,h]
theorem ir {P:Program} {w:World} {ops:Array Oper} {rest:List Oper} {o:Oper} {a:Act} {Q:Exit->Act->World->Prop}
  (hgd:o.guard=none) (t:TypeId) (ad x:Operand) (hop:o.op=Op.store t ad x) {g off:Nat} {ty:TypeId} {cur vs new:Array Value} (had:a.eval ad=.pointer (some ⟨g,off,none⟩)) (hx:a.eval x=.agg vs)
  (hi:(P.info? t).map (·.size)=some vs.size) (hg:w.heap[g]?=some (Obj.cells cur ty (0,0))) (hl:off+vs.size<=cur.size) (h1:vs.toList.all (·.oneCell')=true) (hn:(cur.toList.take off++vs.toList++cur.toList.drop (off+vs.size)).toArray=new)
  (hQ:wpList P ops Q rest (a.put o.dst undef) (w.setRow g new)):wpList P ops Q (o::rest) a w:=by
 refine wpList_plain hgd λK hK=>?_
 have hrun:=mD (P:=P) (w:=w) hi hg hl h1 hn
 unfold Oper.wp
 simp[execOp,hop,had,hx,hrun,Result.andThen]
 exact hK _ _ hQ
theorem KeepT.setRow {e T:TypeId} {w:World} {b:Nat} {cs cur:Array Value} {fr:Nat × Nat} (hb:w.heap[b]?=some (.cells cur T fr)) (hT:T≠e):KeepT e w (w.setRow b cs):=λg c f x=>by
 rw[setRow_other _ _ _ _ (λh=>by
  subst h
  rw[hb]at x
  injection x with x
  injection x with _ e2 _
  exact hT e2)]
 exact x
theorem wP {base b:Nat} {W:World} {va vr:Value} {vars:List ByteArray} {rows:List (List Tm)} {qc:List Value} (qc':List Value) (hb:base<=b) (h1:W.heap[b]?=some (Obj.cells (va::vr::qc).toArray 109 (0,0))) (h2:W.ownsRow base 9 1 va vars.length (vars.map Value.string)) (h3:OwnRs base W vr rows) :
  dH base (W.setRow b (va::vr::qc').toArray) b vars rows qc':=by
 have hk:∀e,109≠e->KeepT e W (W.setRow b (va::vr::qc').toArray):=λe he=>KeepT.setRow h1 he
 exact⟨hb,va,vr,setRow_heap W b _ _ _ (0,0) h1,own_keep h2 (hk _ (by decide)),h3.keep (hk _ (by decide)) (hk _ (by decide))⟩
theorem cd.lower {base base':Nat} {w:World} {v:Value} {rows:List (List Tm)} (h:cd base w v rows) (hb:base'<=base):cd base' w v rows:=by
 obtain⟨A,c,xs,h1,h2,h3,h4⟩:=h
 refine⟨A,c,xs,h1,h2,h3.imp id ?_,h4.mono λ_ _ _ x=>x.lower hb⟩
 rintro⟨g,o,cur,e1,e2,e3,e4⟩
 exact⟨g,o,cur,e1,Nat.le_trans hb e2,e3,e4⟩
theorem fx (w:World) (o1 o2 o3:Obj):(((w.alloc o1).alloc o2).alloc o3).heap[w.heap.size]?=some o1:=by
 rw[((Below.refl (w.alloc o1).heap.size (w.alloc o1)).alloc (Nat.le_refl _) o2 |>.alloc (by simp) o3).block _ (by simp)]
 exact heap_alloc_new _ _
theorem pn (w:World) (o1 o2 o3:Obj):(((w.alloc o1).alloc o2).alloc o3).heap[w.heap.size+1]?=some o2:=by
 have:=am (w.alloc o1) o2 o3
 simpa using this
theorem fw (w:World) (o1 o2 o3:Obj):(((w.alloc o1).alloc o2).alloc o3).heap[w.heap.size+1+1]?=some o3:=by
 have:=ai (w.alloc o1) o2 o3
 simpa using this
def bz (N:Int) (vars:List ByteArray) (rows:List (List Tm)) (w:World) (e:Ending) (w':World):Prop:=∃v0 v1,e=.returned (.tuple #[.agg #[v0,v1],.int .i64 N])/\Below w.heap.size w w'/\(N=0->w'.ownsRow w.heap.size 9 1 v0 vars.length (vars.map Value.string)/\cd w.heap.size w' v1 rows)/\(N≠0->v0=.slice none 0 0/\v1=.slice none 0 0)
theorem ag {P:Program} {fn:Func} {p u:Tmp} {ty:TypeId} (h:fn.results=#[.cell p ty,.tmp u]) (tmps:Array Value) (w:World) (g:Nat) (t:TypeId) (cs:Array Value) (fr:Nat × Nat) (d:TypeDesc) (v:Value)
  (hp:tmps.getD p undef=.pointer (some ⟨g,0,none⟩)) (hg:w.heap[g]?=some (Obj.cells cs t fr)) (hu:P.underlying ty=some d) (hd:(match d with | .struct _ | .array _ _=>true|_=>false)=true) (hi:(P.info? ty).map (·.size)=some cs.size) (hv:tmps.getD u undef=v) :
  (results fn tmps).run P w=.ok (.tuple #[.agg cs,v]) w:=by
 rw[results_cell_tmp h,hp,hv]
 simp[asAddr,Result.andThen,run_loadVar_row w g t ty cs fr d hg hu hd hi]
theorem cm:(Tryz.prog.info? 25).map (·.size)=some 2:=by kernel_rfl
theorem Dl:(Tryz.prog.info? 30).map (·.size)=some 8:=by kernel_rfl
theorem iF (F:Nat) (eg:∀args w,(callFunc F args).run Tryz.prog w=.ok (.enter F args) w) (vars vars':List ByteArray) (rows rows':List (List Tm)) (A B:Option Addr) (n c m d:Nat) (b0 b1:Bool) (A2 A3 A4 A5:Option Addr) (n2 c2 n3 c3 n4 c4 n5 c5:Nat) (i6 i7 N:Int) (w:World) (hn:vars.length=n) (hm:rows.length=m) (hln:n<=1000000) (hlm:m<=1000000) (hnc:n<=c) (hv:Rd w A (vars.map Value.string)) (hr:RdRs w B rows) (hz:∀r∈rows,r.length<=1000000) (hR:aw vars rows=true)
  (hS:∀W1,Below w.heap.size w W1->∀W b,Below W1.heap.size W1 W->dH W1.heap.size W b vars rows [.bool b0,.bool b1,.slice A2 n2 c2,.slice A3 n3 c3,.slice A4 n4 c4,.slice A5 n5 c5,.int .i64 i6,.int .i64 i7]->Calls Tryz.prog F #[.pointer (some ⟨b,0,none⟩)] W (ms W1 b vars' rows' [.bool b0,.bool b1,.slice A2 n2 c2,.slice A3 n3 c3,.slice A4 n4 c4,.slice A5 n5 c5,.int .i64 i6,.int .i64 i7] N)) :
  Calls Tryz.prog 38 #[.agg #[.slice A n c,.slice B m d],.agg #[.bool b0,.bool b1,.slice A2 n2 c2,.slice A3 n3 c3,.slice A4 n4 c4,.slice A5 n5 c5,.int .i64 i6,.int .i64 i7],.func (.func F) #[] #[]] w (bz N vars' rows' w):=by
 obtain⟨W1,hW1⟩:∃W1:World,((w.alloc (.cells #[.slice A n c,.slice B m d] 25)).alloc (.cells #[.bool b0,.bool b1,.slice A2 n2 c2,.slice A3 n3 c3,.slice A4 n4 c4,.slice A5 n5 c5,.int .i64 i6,.int .i64 i7] 30)).alloc (.cells #[.slice none 0 0,.slice none 0 0] 25)=W1:=⟨_,rfl⟩
 have hb1:Below w.heap.size w W1:=by rw[←hW1];exact blw
 have hsz1:W1.heap.size=w.heap.size+3:=by rw[←hW1];simp
 have k0:W1.heap[w.heap.size]?=some (Obj.cells #[.slice A n c,.slice B m d] 25 (0,0)):=by rw[←hW1];exact fx _ _ _ _
 have k1:W1.heap[w.heap.size+1]?=some (Obj.cells #[.bool b0,.bool b1,.slice A2 n2 c2,.slice A3 n3 c3,.slice A4 n4 c4,.slice A5 n5 c5,.int .i64 i6,.int .i64 i7] 30 (0,0)):=by rw[←hW1];exact pn _ _ _ _
 have k2:W1.heap[w.heap.size+1+1]?=some (Obj.cells #[.slice none 0 0,.slice none 0 0] 25 (0,0)):=by rw[←hW1];exact fw _ _ _ _
 have hOn:=Dm vars rows A B n c m d W1 hn hm hln hlm hnc (hv.later hb1) (hr.later hb1) hz hR
 have hS1:=hS W1 hb1
 have HK:=Lib.hid (And.intro hb1 (And.intro k0 (And.intro k1 (And.intro k2 hsz1))))
 have a0:W1.cell? ⟨w.heap.size,0,none⟩=some (.slice A n c):=by rw[World.cell?,k0];rfl
 have a1:W1.cell? ⟨w.heap.size,1,none⟩=some (.slice B m d):=by rw[World.cell?,k0];rfl
 have kq:∀(i:Nat) (v:Value),(#[.bool b0,.bool b1,.slice A2 n2 c2,.slice A3 n3 c3,.slice A4 n4 c4,.slice A5 n5 c5,.int .i64 i6,.int .i64 i7]:Array Value)[i]?=some v->W1.cell? ⟨w.heap.size+1,i,none⟩=some v:=λi v h=>by rw[World.cell?,k1];exact h
 clear hn hm hlm hln hnc hv hr hz hR hS hb1 k0 k1 k2 hsz1
 go_enter Tryz.func38,Tryz.ntmps38
 go_wp2_with (first
  | (go_at_call 67;refine hOn.mono ?_;rintro e w2 ⟨b,rfl,hWk,hb2⟩;have x0:=ab (kq 0 (.bool b0) rfl) hb2;have x1:=ab (kq 1 (.bool b1) rfl) hb2;have x2:=ab (kq 2 (.slice A2 n2 c2) rfl) hb2;have x3:=ab (kq 3 (.slice A3 n3 c3) rfl) hb2;have x4:=ab (kq 4 (.slice A4 n4 c4) rfl) hb2;have x5:=ab (kq 5 (.slice A5 n5 c5) rfl) hb2;have x6:=ab (kq 6 (.int .i64 i6) rfl) hb2;have x7:=ab (kq 7 (.int .i64 i7) rfl) hb2;obtain⟨hbb,va,vr,hblk,hva,hrs⟩:=hWk;have HW:=Lib.hid (And.intro hbb (And.intro hblk (And.intro hva (And.intro hrs hb2))));clear hbb hblk hva hrs hb2 hOn a0 a1 kq)
  | (refine ir rfl 30 _ _ rfl rfl rfl Dl HW.out.2.1 (Nat.le_refl 10) (new:=(va::vr::[.bool b0,.bool b1,.slice A2 n2 c2,.slice A3 n3 c3,.slice A4 n4 c4,.slice A5 n5 c5,.int .i64 i6,.int .i64 i7]).toArray) rfl rfl ?_)
  | fail)
 have hB3:Below W1.heap.size W1 (w2.setRow b (va::vr::[.bool b0,.bool b1,.slice A2 n2 c2,.slice A3 n3 c3,.slice A4 n4 c4,.slice A5 n5 c5,.int .i64 i6,.int .i64 i7]).toArray):=below_setRow HW.out.2.2.2.2 HW.out.1 _
 have hW3:=wP [.bool b0,.bool b1,.slice A2 n2 c2,.slice A3 n3 c3,.slice A4 n4 c4,.slice A5 n5 c5,.int .i64 i6,.int .i64 i7] HW.out.1 HW.out.2.1 HW.out.2.2.1 HW.out.2.2.2.1
 refine(hS1 _ b hB3 hW3).mono ?_
 rintro e w3 ⟨rfl,hWI,hB4⟩
 clear hB3 hW3 hS1 x0 x1 x2 x3 x4 x5 x6 x7 HW
 obtain⟨hb1,_,_,k2,hsz1⟩:=HK.out
 have hk2:w3.heap[w.heap.size+1+1]?=some (Obj.cells #[.slice none 0 0,.slice none 0 0] 25 (0,0)):=by rw[hB4.block _ (by omega)];exact k2
 have hB5:=aa hb1 hB4
 have hle:w.heap.size<=W1.heap.size:=by omega
 have put:∀v0 v1,(w3.setRow (w.heap.size+1+1) #[v0,v1]).heap[w.heap.size+1+1]?=some (Obj.cells #[v0,v1] 25 (0,0)):=λv0 v1=>setRow_heap w3 _ _ _ _ (0,0) hk2
 have bel:∀v0 v1,Below w.heap.size w (w3.setRow (w.heap.size+1+1) #[v0,v1]):=λv0 v1=>below_setRow hB5 (by omega) _
 by_cases hN:N=0
 ·subst hN
  obtain⟨hbb,va',vr',hblk,hva,hrs⟩:=hWI
  obtain⟨Av,cv,rfl,_,_⟩:=own_slice hva
  obtain⟨Ar,cr,rfl,_,_⟩:=hrs.rd
  have d0:w3.cell? ⟨b,0,none⟩=some (.slice Av vars'.length cv):=by rw[World.cell?,hblk];rfl
  have d1:w3.cell? ⟨b,1,none⟩=some (.slice Ar rows'.length cr):=by rw[World.cell?,hblk];rfl
  have y0:(w3.setRow (w.heap.size+1+1) #[.slice Av vars'.length cv,.slice Ar rows'.length cr]).cell? ⟨w.heap.size+1+1,0,none⟩=some (.slice Av vars'.length cv):=by rw[World.cell?,put];rfl
  have y1:(w3.setRow (w.heap.size+1+1) #[.slice Av vars'.length cv,.slice Ar rows'.length cr]).cell? ⟨w.heap.size+1+1,1,none⟩=some (.slice Ar rows'.length cr):=by rw[World.cell?,put];rfl
  have HF:Hid (bz 0 vars' rows' w (.returned (.tuple #[.agg #[.slice Av vars'.length cv,.slice Ar rows'.length cr],.int .i64 0])) (w3.setRow (w.heap.size+1+1) #[.slice Av vars'.length cv,.slice Ar rows'.length cr])):=by
   have hK:∀e,25≠e->KeepT e w3 (w3.setRow (w.heap.size+1+1) #[.slice Av vars'.length cv,.slice Ar rows'.length cr]):=λe he=>KeepT.setRow hk2 he
   exact⟨_,_,rfl,bel _ _,λ_=>⟨own_lower (own_keep hva (hK _ (by decide))) hle,(hrs.keep (hK _ (by decide)) (hK _ (by decide))).lower hle⟩,λh=>absurd rfl h⟩
  have HK2:=Lib.hid hk2
  have HP:=Lib.hid (put (.slice Av vars'.length cv) (.slice Ar rows'.length cr))
  clear hbb hblk hva hrs put bel hk2 hB4 hB5 hb1 k2
  go_wp2_with (first
   | (refine wpList_store_row rfl 25 _ _ rfl rfl rfl cm HK2.out rfl rfl ?_)
   | fail)
  refine bodyPost_ret (ag rfl _ _ _ _ _ _ _ (.int .i64 0) rfl HP.out Tryz.underlying25 rfl cm ?_) rfl HF.out
  rfl
 ·have hq:(N != 0)=true:=by rw[bne_iff_ne];exact hN
  have y0:(w3.setRow (w.heap.size+1+1) #[.slice none 0 0,.slice none 0 0]).cell? ⟨w.heap.size+1+1,0,none⟩=some (.slice none 0 0):=by rw[World.cell?,put];rfl
  have y1:(w3.setRow (w.heap.size+1+1) #[.slice none 0 0,.slice none 0 0]).cell? ⟨w.heap.size+1+1,1,none⟩=some (.slice none 0 0):=by rw[World.cell?,put];rfl
  have HF:Hid (bz N vars' rows' w (.returned (.tuple #[.agg #[.slice none 0 0,.slice none 0 0],.int .i64 N])) (w3.setRow (w.heap.size+1+1) #[.slice none 0 0,.slice none 0 0])):=⟨_,_,rfl,bel _ _,λh=>absurd h hN,λ_=>⟨rfl,rfl⟩⟩
  have HK2:=Lib.hid hk2
  have HP:=Lib.hid (put (.slice none 0 0) (.slice none 0 0))
  clear put bel hk2 hB4 hB5 hb1 k2 hN hWI
  go_wp2_with (first
   | (refine wpList_store_row rfl 25 _ _ rfl rfl rfl cm HK2.out rfl rfl ?_)
   | fail)
  refine bodyPost_ret (ag rfl _ _ _ _ _ _ _ (.int .i64 N) rfl HP.out Tryz.underlying25 rfl cm ?_) rfl HF.out
  rfl
theorem iV {N:Int} {vars:List ByteArray} {rows:List (List Tm)} {w W1 w2:World} {e:Ending} (hb1:Below w.heap.size w W1) (hsz:W1.heap.size=w.heap.size+2) (k:W1.heap[w.heap.size+1]?=some (Obj.cells #[.slice none 0 0,.slice none 0 0] 25 (0,0))) (h:bz N vars rows W1 e w2) :
  ∃A0 n0 c0 A1 n1 c1,e=.returned (.tuple #[.agg #[.slice A0 n0 c0,.slice A1 n1 c1],.int .i64 N])/\w2.heap[w.heap.size+1]?=some (Obj.cells #[.slice none 0 0,.slice none 0 0] 25 (0,0)) /\
   (w2.setRow (w.heap.size+1) #[.slice A0 n0 c0,.slice A1 n1 c1]).heap[w.heap.size+1]?=some (Obj.cells #[.slice A0 n0 c0,.slice A1 n1 c1] 25 (0,0))/\bz N vars rows w (.returned (.tuple #[.agg #[.slice A0 n0 c0,.slice A1 n1 c1],.int .i64 N])) (w2.setRow (w.heap.size+1) #[.slice A0 n0 c0,.slice A1 n1 c1]):=by
 obtain⟨v0,v1,rfl,hb2,h0,h1⟩:=h
 have hk:w2.heap[w.heap.size+1]?=some (Obj.cells #[.slice none 0 0,.slice none 0 0] 25 (0,0)):=by rw[hb2.block _ (by omega)];exact k
 have hs:∃A0 n0 c0 A1 n1 c1,v0=.slice A0 n0 c0/\v1=.slice A1 n1 c1:=by
  by_cases hN:N=0
  ·obtain⟨ho,hi⟩:=h0 hN
   obtain⟨Av,cv,rfl,_,_⟩:=own_slice ho
   obtain⟨Ar,cr,rfl,_,_⟩:=hi.rd
   exact⟨_,_,_,_,_,_,rfl,rfl⟩
  ·obtain⟨rfl,rfl⟩:=h1 hN
   exact⟨_,_,_,_,_,_,rfl,rfl⟩
 obtain⟨A0,n0,c0,A1,n1,c1,rfl,rfl⟩:=hs
 have hK:∀e,25≠e->KeepT e w2 (w2.setRow (w.heap.size+1) #[.slice A0 n0 c0,.slice A1 n1 c1]):=λe he=>KeepT.setRow hk he
 have hle:w.heap.size<=W1.heap.size:=by omega
 exact⟨A0,n0,c0,A1,n1,c1,rfl,hk,setRow_heap w2 _ _ _ _ (0,0) hk,_,_,rfl,below_setRow (aa hb1 hb2) (by omega) _,λh=>⟨own_lower (own_keep (h0 h).1 (hK _ (by decide))) hle,((h0 h).2.keep (hK _ (by decide)) (hK _ (by decide))).lower hle⟩,h1⟩
theorem lD (vars':List ByteArray) (rows':List (List Tm)) (A B:Option Addr) (n c m d:Nat) (N:Int) (Aq:Option Addr) (nq cq:Nat) (w:World)
  (hD:∀W1,Below w.heap.size w W1->Calls Tryz.prog 38 #[.agg #[.slice A n c,.slice B m d],.agg #[.bool false,.bool false,.slice none 0 0,.slice none 0 0,.slice Aq nq cq,.slice none 0 0,.int .i64 0,.int .i64 0],.func (.func 39) #[] #[]] W1 (bz N vars' rows' W1)) :
  Calls Tryz.prog 10 #[.agg #[.slice A n c,.slice B m d],.slice Aq nq cq] w (bz N vars' rows' w):=by
 obtain⟨W1,hW1⟩:∃W1:World,(w.alloc (.cells #[.slice A n c,.slice B m d] 25)).alloc (.cells #[.slice none 0 0,.slice none 0 0] 25)=W1:=⟨_,rfl⟩
 have hb1:Below w.heap.size w W1:=by rw[←hW1];exact blw
 have hsz:W1.heap.size=w.heap.size+2:=by rw[←hW1];simp
 have k0:W1.heap[w.heap.size]?=some (Obj.cells #[.slice A n c,.slice B m d] 25 (0,0)):=by rw[←hW1];exact am _ _ _
 have k1:W1.heap[w.heap.size+1]?=some (Obj.cells #[.slice none 0 0,.slice none 0 0] 25 (0,0)):=by rw[←hW1];exact ai _ _ _
 have a0:W1.cell? ⟨w.heap.size,0,none⟩=some (.slice A n c):=by rw[World.cell?,k0];rfl
 have a1:W1.cell? ⟨w.heap.size,1,none⟩=some (.slice B m d):=by rw[World.cell?,k0];rfl
 have hD1:=hD W1 hb1
 have HK:=Lib.hid (And.intro hb1 (And.intro hsz k1))
 clear hD hb1 hsz k0 k1
 go_enter Tryz.func10,Tryz.ntmps10
 go_wp2_with (first
  | (go_at_call 38;refine hD1.mono ?_;rintro e w2 h;obtain⟨A0,n0,c0,A1,n1,c1,rfl,z1,z2,z3⟩:=iV HK.out.1 HK.out.2.1 HK.out.2.2 h;have HZ:=Lib.hid (And.intro z1 (And.intro z2 z3));clear h z1 z2 z3 hD1)
  | (refine wpList_store_row rfl 25 _ _ rfl rfl rfl cm HZ.out.1 rfl rfl ?_)
  | fail)
 refine bodyPost_ret (ag rfl _ _ _ _ _ _ _ (.int .i64 N) rfl HZ.out.2.1 Tryz.underlying25 rfl cm ?_) rfl HZ.out.2.2
 rfl
theorem lB (vars':List ByteArray) (rows':List (List Tm)) (A B:Option Addr) (n c m d:Nat) (N:Int) (Aq:Option Addr) (nq cq:Nat) (w:World)
  (hD:∀W1,Below w.heap.size w W1->Calls Tryz.prog 38 #[.agg #[.slice A n c,.slice B m d],.agg #[.bool false,.bool false,.slice none 0 0,.slice none 0 0,.slice none 0 0,.slice Aq nq cq,.int .i64 0,.int .i64 0],.func (.func 48) #[] #[]] W1 (bz N vars' rows' W1)) :
  Calls Tryz.prog 17 #[.agg #[.slice A n c,.slice B m d],.slice Aq nq cq] w (bz N vars' rows' w):=by
 obtain⟨W1,hW1⟩:∃W1:World,(w.alloc (.cells #[.slice A n c,.slice B m d] 25)).alloc (.cells #[.slice none 0 0,.slice none 0 0] 25)=W1:=⟨_,rfl⟩
 have hb1:Below w.heap.size w W1:=by rw[←hW1];exact blw
 have hsz:W1.heap.size=w.heap.size+2:=by rw[←hW1];simp
 have k0:W1.heap[w.heap.size]?=some (Obj.cells #[.slice A n c,.slice B m d] 25 (0,0)):=by rw[←hW1];exact am _ _ _
 have k1:W1.heap[w.heap.size+1]?=some (Obj.cells #[.slice none 0 0,.slice none 0 0] 25 (0,0)):=by rw[←hW1];exact ai _ _ _
 have a0:W1.cell? ⟨w.heap.size,0,none⟩=some (.slice A n c):=by rw[World.cell?,k0];rfl
 have a1:W1.cell? ⟨w.heap.size,1,none⟩=some (.slice B m d):=by rw[World.cell?,k0];rfl
 have hD1:=hD W1 hb1
 have HK:=Lib.hid (And.intro hb1 (And.intro hsz k1))
 clear hD hb1 hsz k0 k1
 go_enter Tryz.func17,Tryz.ntmps17
 go_wp2_with (first
  | (go_at_call 38;refine hD1.mono ?_;rintro e w2 h;obtain⟨A0,n0,c0,A1,n1,c1,rfl,z1,z2,z3⟩:=iV HK.out.1 HK.out.2.1 HK.out.2.2 h;have HZ:=Lib.hid (And.intro z1 (And.intro z2 z3));clear h z1 z2 z3 hD1)
  | (refine wpList_store_row rfl 25 _ _ rfl rfl rfl cm HZ.out.1 rfl rfl ?_)
  | fail)
 refine bodyPost_ret (ag rfl _ _ _ _ _ _ _ (.int .i64 N) rfl HZ.out.2.1 Tryz.underlying25 rfl cm ?_) rfl HZ.out.2.2
 rfl
theorem gP (vars':List ByteArray) (rows':List (List Tm)) (A B:Option Addr) (n c m d:Nat) (N:Int) (Aq:Option Addr) (nq cq:Nat) (w:World)
  (hD:∀W1,Below w.heap.size w W1->Calls Tryz.prog 38 #[.agg #[.slice A n c,.slice B m d],.agg #[.bool false,.bool false,.slice Aq nq cq,.slice none 0 0,.slice none 0 0,.slice none 0 0,.int .i64 0,.int .i64 0],.func (.func 50) #[] #[]] W1 (bz N vars' rows' W1)) :
  Calls Tryz.prog 19 #[.agg #[.slice A n c,.slice B m d],.slice Aq nq cq] w (bz N vars' rows' w):=by
 obtain⟨W1,hW1⟩:∃W1:World,(w.alloc (.cells #[.slice A n c,.slice B m d] 25)).alloc (.cells #[.slice none 0 0,.slice none 0 0] 25)=W1:=⟨_,rfl⟩
 have hb1:Below w.heap.size w W1:=by rw[←hW1];exact blw
 have hsz:W1.heap.size=w.heap.size+2:=by rw[←hW1];simp
 have k0:W1.heap[w.heap.size]?=some (Obj.cells #[.slice A n c,.slice B m d] 25 (0,0)):=by rw[←hW1];exact am _ _ _
 have k1:W1.heap[w.heap.size+1]?=some (Obj.cells #[.slice none 0 0,.slice none 0 0] 25 (0,0)):=by rw[←hW1];exact ai _ _ _
 have a0:W1.cell? ⟨w.heap.size,0,none⟩=some (.slice A n c):=by rw[World.cell?,k0];rfl
 have a1:W1.cell? ⟨w.heap.size,1,none⟩=some (.slice B m d):=by rw[World.cell?,k0];rfl
 have hD1:=hD W1 hb1
 have HK:=Lib.hid (And.intro hb1 (And.intro hsz k1))
 clear hD hb1 hsz k0 k1
 go_enter Tryz.func19,Tryz.ntmps19
 go_wp2_with (first
  | (go_at_call 38;refine hD1.mono ?_;rintro e w2 h;obtain⟨A0,n0,c0,A1,n1,c1,rfl,z1,z2,z3⟩:=iV HK.out.1 HK.out.2.1 HK.out.2.2 h;have HZ:=Lib.hid (And.intro z1 (And.intro z2 z3));clear h z1 z2 z3 hD1)
  | (refine wpList_store_row rfl 25 _ _ rfl rfl rfl cm HZ.out.1 rfl rfl ?_)
  | fail)
 refine bodyPost_ret (ag rfl _ _ _ _ _ _ _ (.int .i64 N) rfl HZ.out.2.1 Tryz.underlying25 rfl cm ?_) rfl HZ.out.2.2
 rfl
theorem lC (vars':List ByteArray) (rows':List (List Tm)) (A B:Option Addr) (n c m d:Nat) (N:Int) (w:World)
  (hD:∀W1,Below w.heap.size w W1->Calls Tryz.prog 38 #[.agg #[.slice A n c,.slice B m d],.agg #[.bool false,.bool false,.slice none 0 0,.slice none 0 0,.slice none 0 0,.slice none 0 0,.int .i64 0,.int .i64 0],.func (.func 51) #[] #[]] W1 (bz N vars' rows' W1)) :
  Calls Tryz.prog 21 #[.agg #[.slice A n c,.slice B m d]] w (bz N vars' rows' w):=by
 obtain⟨W1,hW1⟩:∃W1:World,(w.alloc (.cells #[.slice A n c,.slice B m d] 25)).alloc (.cells #[.slice none 0 0,.slice none 0 0] 25)=W1:=⟨_,rfl⟩
 have hb1:Below w.heap.size w W1:=by rw[←hW1];exact blw
 have hsz:W1.heap.size=w.heap.size+2:=by rw[←hW1];simp
 have k0:W1.heap[w.heap.size]?=some (Obj.cells #[.slice A n c,.slice B m d] 25 (0,0)):=by rw[←hW1];exact am _ _ _
 have k1:W1.heap[w.heap.size+1]?=some (Obj.cells #[.slice none 0 0,.slice none 0 0] 25 (0,0)):=by rw[←hW1];exact ai _ _ _
 have a0:W1.cell? ⟨w.heap.size,0,none⟩=some (.slice A n c):=by rw[World.cell?,k0];rfl
 have a1:W1.cell? ⟨w.heap.size,1,none⟩=some (.slice B m d):=by rw[World.cell?,k0];rfl
 have hD1:=hD W1 hb1
 have HK:=Lib.hid (And.intro hb1 (And.intro hsz k1))
 clear hD hb1 hsz k0 k1
 go_enter Tryz.func21,Tryz.ntmps21
 go_wp2_with (first
  | (go_at_call 38;refine hD1.mono ?_;rintro e w2 h;obtain⟨A0,n0,c0,A1,n1,c1,rfl,z1,z2,z3⟩:=iV HK.out.1 HK.out.2.1 HK.out.2.2 h;have HZ:=Lib.hid (And.intro z1 (And.intro z2 z3));clear h z1 z2 z3 hD1)
  | (refine wpList_store_row rfl 25 _ _ rfl rfl rfl cm HZ.out.1 rfl rfl ?_)
  | fail)
 refine bodyPost_ret (ag rfl _ _ _ _ _ _ _ (.int .i64 N) rfl HZ.out.2.1 Tryz.underlying25 rfl cm ?_) rfl HZ.out.2.2
 rfl
theorem jX (vars':List ByteArray) (rows':List (List Tm)) (A B:Option Addr) (n c m d:Nat) (N:Int) (off lim:Int) (w:World)
  (hD:∀W1,Below w.heap.size w W1->Calls Tryz.prog 38 #[.agg #[.slice A n c,.slice B m d],.agg #[.bool false,.bool false,.slice none 0 0,.slice none 0 0,.slice none 0 0,.slice none 0 0,.int .i64 lim,.int .i64 off],.func (.func 53) #[] #[]] W1 (bz N vars' rows' W1)) :
  Calls Tryz.prog 23 #[.agg #[.slice A n c,.slice B m d],.int .i64 off,.int .i64 lim] w (bz N vars' rows' w):=by
 obtain⟨W1,hW1⟩:∃W1:World,(w.alloc (.cells #[.slice A n c,.slice B m d] 25)).alloc (.cells #[.slice none 0 0,.slice none 0 0] 25)=W1:=⟨_,rfl⟩
 have hb1:Below w.heap.size w W1:=by rw[←hW1];exact blw
 have hsz:W1.heap.size=w.heap.size+2:=by rw[←hW1];simp
 have k0:W1.heap[w.heap.size]?=some (Obj.cells #[.slice A n c,.slice B m d] 25 (0,0)):=by rw[←hW1];exact am _ _ _
 have k1:W1.heap[w.heap.size+1]?=some (Obj.cells #[.slice none 0 0,.slice none 0 0] 25 (0,0)):=by rw[←hW1];exact ai _ _ _
 have a0:W1.cell? ⟨w.heap.size,0,none⟩=some (.slice A n c):=by rw[World.cell?,k0];rfl
 have a1:W1.cell? ⟨w.heap.size,1,none⟩=some (.slice B m d):=by rw[World.cell?,k0];rfl
 have hD1:=hD W1 hb1
 have HK:=Lib.hid (And.intro hb1 (And.intro hsz k1))
 clear hD hb1 hsz k0 k1
 go_enter Tryz.func23,Tryz.ntmps23
 go_wp2_with (first
  | (go_at_call 38;refine hD1.mono ?_;rintro e w2 h;obtain⟨A0,n0,c0,A1,n1,c1,rfl,z1,z2,z3⟩:=iV HK.out.1 HK.out.2.1 HK.out.2.2 h;have HZ:=Lib.hid (And.intro z1 (And.intro z2 z3));clear h z1 z2 z3 hD1)
  | (refine wpList_store_row rfl 25 _ _ rfl rfl rfl cm HZ.out.1 rfl rfl ?_)
  | fail)
 refine bodyPost_ret (ag rfl _ _ _ _ _ _ _ (.int .i64 N) rfl HZ.out.2.1 Tryz.underlying25 rfl cm ?_) rfl HZ.out.2.2
 rfl
theorem eW (fv:Value) (vars vars':List ByteArray) (rows rows':List (List Tm)) (A B:Option Addr) (n c m d:Nat) (b0 b1:Bool) (A2 A3 A4 A5:Option Addr) (n2 c2 n3 c3 n4 c4 n5 c5:Nat) (i6 i7:Int) (w:World) (hn:vars.length=n) (hm:rows.length=m) (hln:n<=1000000) (hlm:m<=1000000) (hnc:n<=c) (hv:Rd w A (vars.map Value.string)) (hr:RdRs w B rows) (hR:aw vars rows=false) :
  Calls Tryz.prog 38 #[.agg #[.slice A n c,.slice B m d],.agg #[.bool b0,.bool b1,.slice A2 n2 c2,.slice A3 n3 c3,.slice A4 n4 c4,.slice A5 n5 c5,.int .i64 i6,.int .i64 i7],fv] w (bz 2 vars' rows' w):=by
 obtain⟨W1,hW1⟩:∃W1:World,((w.alloc (.cells #[.slice A n c,.slice B m d] 25)).alloc (.cells #[.bool b0,.bool b1,.slice A2 n2 c2,.slice A3 n3 c3,.slice A4 n4 c4,.slice A5 n5 c5,.int .i64 i6,.int .i64 i7] 30)).alloc (.cells #[.slice none 0 0,.slice none 0 0] 25)=W1:=⟨_,rfl⟩
 have hb1:Below w.heap.size w W1:=by rw[←hW1];exact blw
 have hsz1:W1.heap.size=w.heap.size+3:=by rw[←hW1];simp
 have k0:W1.heap[w.heap.size]?=some (Obj.cells #[.slice A n c,.slice B m d] 25 (0,0)):=by rw[←hW1];exact fx _ _ _ _
 have k2:W1.heap[w.heap.size+1+1]?=some (Obj.cells #[.slice none 0 0,.slice none 0 0] 25 (0,0)):=by rw[←hW1];exact fw _ _ _ _
 have hOn:=AM vars rows A B n c m d W1 hn hm hln hlm hnc (hv.later hb1) (hr.later hb1) hR
 have a0:W1.cell? ⟨w.heap.size,0,none⟩=some (.slice A n c):=by rw[World.cell?,k0];rfl
 have a1:W1.cell? ⟨w.heap.size,1,none⟩=some (.slice B m d):=by rw[World.cell?,k0];rfl
 have hfin:Hid (∀w2,Below W1.heap.size W1 w2->w2.heap[w.heap.size+1+1]?=some (Obj.cells #[.slice none 0 0,.slice none 0 0] 25 (0,0))/\bz 2 vars' rows' w (.returned (.tuple #[.agg #[.slice none 0 0,.slice none 0 0],.int .i64 2])) (w2.setRow (w.heap.size+1+1) #[.slice none 0 0,.slice none 0 0])):=by
  intro w2 hb2
  exact⟨by rw[hb2.block _ (by omega)];exact k2,_,_,rfl,below_setRow (aa hb1 hb2) (by omega) _,(λh=>by cases h),λ_=>⟨rfl,rfl⟩⟩
 clear hn hm hlm hln hnc hv hr hR hb1 k0 k2 hsz1
 go_enter Tryz.func38,Tryz.ntmps38
 go_wp2_with (first
  | (go_at_call 67;refine hOn.mono ?_;rintro e w2 ⟨rfl,hb2⟩;have HZ:=Lib.hid (hfin.out w2 hb2);clear hb2 hOn a0 a1)
  | (refine wpList_store_row rfl 25 _ _ rfl rfl rfl cm HZ.out.1 rfl rfl ?_)
  | fail)
 refine bodyPost_ret (ag rfl _ _ _ _ _ _ _ (.int .i64 2) rfl (setRow_heap w2 _ _ _ _ (0,0) HZ.out.1) Tryz.underlying25 rfl cm ?_) rfl HZ.out.2
 rfl
structure TabAt (w:World) (A B:Option Addr) (n c m d:Nat) (vars:List ByteArray) (rows:List (List Tm)):Prop where
 hn:vars.length=n
 hm:rows.length=m
 hln:n<=1000000
 hlm:m<=1000000
 hnc:n<=c
 hv:Rd w A (vars.map Value.string)
 hr:RdRs w B rows
 hz:∀r∈rows,r.length<=1000000
theorem fo {vars:List ByteArray} {rows:List (List Tm)} (h:aw vars rows=true):∀r∈rows,r.length=vars.length:=by
 unfold aw at h
 simp only[Bool.and_eq_true,Bool.not_eq_true',List.any_eq_false]at h
 intro r hr
 have:=h.2 r hr
 simpa using this
section
variable {w:World} {A B:Option Addr} {n c m d:Nat} {vars:List ByteArray} {rows:List (List Tm)}
theorem TabAt.later (T:TabAt w A B n c m d vars rows) {w':World} (h:Below w.heap.size w w'):TabAt w' A B n c m d vars rows:=⟨T.hn,T.hm,T.hln,T.hlm,T.hnc,T.hv.later h,T.hr.later h,T.hz⟩
theorem Ah (T:TabAt w A B n c m d vars rows) (hR:aw vars rows=true) (hk:∀r∈rows,ju r) (nf:Nat) (fils:List (ExT nf)) (Af:Option Addr) (cf mf:Nat) (hmf:fils.length=mf) (hlf:mf<=1000000) (hzf:∀x∈fils,szE nf x) (hf:aF nf w Af fils) :
  Calls Tryz.prog 10 #[.agg #[.slice A n c,.slice B m d],.slice Af mf cf] w (bz 0 vars (bL vars nf fils rows) w):=by
 have hlv:=T.hln
 have hl:=T.hlm
 rw[←T.hn]at hlv
 rw[←T.hm]at hl
 refine lD _ _ A B n c m d 0 Af mf cf w λW1 h1=>?_
 have T1:=T.later h1
 refine iF 39 (enters_of Tryz.func39 (by kernel_rfl) rfl) vars vars rows _ A B n c m d _ _ _ _ _ _ _ _ _ _ _ _ _ _ _ _ 0 W1 T1.hn T1.hm T1.hln T1.hlm T1.hnc T1.hv T1.hr T1.hz hR ?_
 intro W2 h2 W b hb hW
 exact(AN W2 b nf fils Af cf mf vars rows _ _ _ _ _ _ _ W hmf hlf hlv hzf (aF.later hf (aa h1 h2)) hb hW hk hl).mono λe w' h=>h.in_
theorem oy (T:TabAt w A B n c m d vars rows) (hR:aw vars rows=true) (hC:dJ w) (hk:∀r∈rows,bD r) (keys:List Ky) (Ao:Option Addr) (no co:Nat) (hno:keys.length=no) (hlo:no<=1000000) (hky:eF w Ao keys) :
  Calls Tryz.prog 17 #[.agg #[.slice A n c,.slice B m d],.slice Ao no co] w (bz (dD vars keys) vars (dR vars keys rows) w):=by
 have hlv:=T.hln
 have hl:=T.hlm
 rw[←T.hn]at hlv
 rw[←T.hm]at hl
 refine lB _ _ A B n c m d _ Ao no co w λW1 h1=>?_
 have T1:=T.later h1
 refine iF 48 (enters_of Tryz.func48 (by kernel_rfl) rfl) vars vars rows _ A B n c m d _ _ _ _ _ _ _ _ _ _ _ _ _ _ _ _ _ W1 T1.hn T1.hm T1.hln T1.hlm T1.hnc T1.hv T1.hr T1.hz hR ?_
 intro W2 h2 W b hb hW
 have hb2:=aa h1 h2
 exact(vx W2 (hC.step hb2) b vars rows keys _ _ _ _ _ _ _ Ao no co W hb hW hno hlo (RdL.mono hky hb2 (λ_ _ _ h=>h)) hk (fo hR) hlv hl).mono λe w' h=>h.in_
theorem tC (T:TabAt w A B n c m d vars rows) (hR:aw vars rows=true) (hP:gL w) (hk:∀r∈rows,ju r) :
  Calls Tryz.prog 21 #[.agg #[.slice A n c,.slice B m d]] w (bz 0 vars (br rows) w):=by
 have hl:=T.hlm
 rw[←T.hm]at hl
 refine lC _ _ A B n c m d _ w λW1 h1=>?_
 have T1:=T.later h1
 refine iF 51 (enters_of Tryz.func51 (by kernel_rfl) rfl) vars vars rows _ A B n c m d _ _ _ _ _ _ _ _ _ _ _ _ _ _ _ _ _ W1 T1.hn T1.hm T1.hln T1.hlm T1.hnc T1.hv T1.hr T1.hz hR ?_
 intro W2 h2 W b hb hW
 exact(AL W2 (hP.step (aa h1 h2)) b vars rows _ W hb hW hk hl).mono λe w' h=>h.in_
theorem pZ (T:TabAt w A B n c m d vars rows) (hR:aw vars rows=true) (off lim:Int) :
  Calls Tryz.prog 23 #[.agg #[.slice A n c,.slice B m d],.int .i64 off,.int .i64 lim] w (bz (if off<0∨lim < -1 then 6 else 0) vars (if off<0∨lim < -1 then rows else gm off lim rows) w):=by
 have hl:=T.hlm
 rw[←T.hm]at hl
 refine jX _ _ A B n c m d _ off lim w λW1 h1=>?_
 have T1:=T.later h1
 refine iF 53 (enters_of Tryz.func53 (by kernel_rfl) rfl) vars vars rows _ A B n c m d _ _ _ _ _ _ _ _ _ _ _ _ _ _ _ _ _ W1 T1.hn T1.hm T1.hln T1.hlm T1.hnc T1.hv T1.hr T1.hz hR ?_
 intro W2 h2 W b hb hW
 by_cases h:off<0∨lim < -1
 ·rw[if_pos h,if_pos h]
  exact yj W2 b vars rows _ _ _ _ _ _ off lim W hb hW h
 ·rw[if_neg h,if_neg h]
  exact Cw W2 b vars rows _ _ _ _ _ _ off lim W hb hW (by omega) (by omega) hl
theorem gV (T:TabAt w A B n c m d vars rows) (hR:aw vars rows=true) (names:List ByteArray) (Aq:Option Addr) (nq cq:Nat) (hnq:names.length=nq) (hlq:nq<=1000000) (hcq:nq<=cq) (hrq:Rd w Aq (names.map Value.string)) :
  Calls Tryz.prog 19 #[.agg #[.slice A n c,.slice B m d],.slice Aq nq cq] w (bz (bX vars names) (if bX vars names=0 then names else vars) (if bX vars names=0 then rows.map (be (av vars names)) else rows) w):=by
 have hlv:=T.hln
 have hl:=T.hlm
 rw[←T.hn]at hlv
 rw[←T.hm]at hl
 refine gP _ _ A B n c m d _ Aq nq cq w λW1 h1=>?_
 have T1:=T.later h1
 refine iF 50 (enters_of Tryz.func50 (by kernel_rfl) rfl) vars _ rows _ A B n c m d _ _ _ _ _ _ _ _ _ _ _ _ _ _ _ _ _ W1 T1.hn T1.hm T1.hln T1.hlm T1.hnc T1.hv T1.hr T1.hz hR ?_
 intro W2 h2 W b hb hW
 refine(so W2 b vars names rows _ _ _ _ _ _ _ Aq nq cq W hb hW hnq hlq hcq (hrq.later (aa h1 h2)) (fo hR) hlv hl).mono λe w' h=>?_
 by_cases hN:bX vars names=0
 ·rw[if_pos hN,if_pos hN,hN]
  exact(h.2 hN).in_
 ·rw[if_neg hN,if_neg hN]
  exact(h.1 hN).in_
end
end Go.Proofs.YtjldjeenfnahoaaGreatDoor
