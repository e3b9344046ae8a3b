/- The program's package order, walked: (*worker).keep. -/
import Derived.Test.YtoejnneknpoanaaGreatDoorJFilOf
import Derived.Test.YtoejnneknpoanaaGreatDoorJRegion8
set_option maxHeartbeats 8000000
set_option maxRecDepth 100000
namespace Go.Proofs.YtoejnneknpoanaaGreatDoor
open Go Go.RowKit Fm Tx Om Mp
def Two (b k:Nat) (w w':World):Prop:=w'.heap[b]?=w.heap[b]?/\w'.heap[k]?=w.heap[k]?
theorem two_pre (b k:Nat):Rc.Pre (Two b k):=⟨λ_=>⟨rfl,rfl⟩,λh h'=>⟨h'.1.trans h.1,h'.2.trans h.2⟩⟩
instance {b k:Nat}:Rc.IsPre (Two b k):=⟨two_pre b k⟩
theorem ordKeep1 (vars:List ByteArray) (row:List Tm) (nf:Nat) (fils:List (ExT nf)) (b kb:Nat) (Av Af Ar:Option Addr) (nv cv mf cf nr cr:Nat) (w:World) (hnv:vars.length=nv) (hmf:fils.length=mf) (hnr:row.length=nr) (hlv:nv<=1000000) (hlr:nr<=1000000) (hlf:mf<=1000000) (hzr:∀t∈row,keyTm t) (hzf:∀x∈fils,szE nf x)
  (hv:Rd w Av (vars.map Value.string)) (hr:RdTs w Ar row) (hf:RdEs nf w Af fils) (hk:w.cell? ⟨kb,0,none⟩=some (.pointer (some ⟨b,0,none⟩))) (h0:w.cell? ⟨b,0,none⟩=some (.slice Av nv cv)) (h6:w.cell? ⟨b,6,none⟩=some (.slice Af mf cf)) :
  Calls Tryz.prog 88 #[.slice Ar nr cr,.pointer (some ⟨kb,0,none⟩)] w λe w'=>e=.returned (.bool (failsI vars row nf fils))/\Below w.heap.size w w':=by
 have hK:=λW (h:Below w.heap.size w W)=>filKeeps vars row (by omega) (by omega) (λu hu=>Nat.le_trans (hzr u hu).2.1 (by decide)) nf fils Af Av Ar cf cv cr W (hv.later h) (RdTs.later hr h) (RdEs.later hf h) (by omega) hzf
 rw[hnv,hmf,hnr]at hK
 generalize failsI vars row nf fils=q at *
 have x0:=λd os=>cell_on hk (below_regrown w d os)
 have x1:=λd os=>cell_on h0 (below_regrown w d os)
 have x2:=λd os=>cell_on h6 (below_regrown w d os)
 clear hnv hmf hnr hzr hzf hv hr hf hk h0 h6
 cases q
 ·go_enter Tryz.func88,Tryz.ntmps88
  go_wp2
  refine wrq ?_;(repeat (any_goals (go_big_quiet_step ((go_at_call 34;exact Calls.regrown_of (hK _ (below_regrown _ _ _)))))));all_goals (refine wqn ?_;intro d9 os9)
  have kq:=below_regrown w d9 os9
  go_wp2
  go_ret
  exact⟨rfl,kq⟩
 ·go_enter Tryz.func88,Tryz.ntmps88
  go_wp2
  refine wrq ?_;(repeat (any_goals (go_big_quiet_step ((go_at_call 34;exact Calls.regrown_of (hK _ (below_regrown _ _ _)))))));all_goals (refine wqn ?_;intro d9 os9)
  have kq:=below_regrown w d9 os9
  go_wp2
  go_ret
  exact⟨rfl,kq⟩
def KeepS (W0:World) (b g kb:Nat) (va vr:Value) (vars:List ByteArray) (qc vs:List Value) (rows:List (List Tm)) (_k:Nat) (W:World):Prop:=
 W.heap[kb]?=some (Obj.cells #[.pointer (some ⟨b,0,none⟩)] 90 (0,0))/\WkG W0.heap.size b g va vr vars qc vs rows W/\Below W0.heap.size W0 W
def keepL (vars:List ByteArray) (nf:Nat) (fils:List (ExT nf)) (rows:List (List Tm)):List (List Tm):=rows.filter λr => !failsI vars r nf fils
theorem ordKeep (W0:World) (b nf:Nat) (fils:List (ExT nf)) (Af:Option Addr) (cf mf:Nat) (vars:List ByteArray) (rows:List (List Tm)) (q0 q1 q2 q3 q5 q6 q7:Value) (w:World) (hmf:fils.length=mf) (hlf:mf<=1000000) (hlv:vars.length<=1000000) (hzf:∀x∈fils,szE nf x) (hf:RdEs nf W0 Af fils)
  (hB:Below W0.heap.size W0 w) (hW:WkAt W0.heap.size w b vars rows [q0,q1,q2,q3,.slice Af mf cf,q5,q6,q7]) (hz:∀r∈rows,keyRow r) (hl:rows.length<=1000000) :
  Calls Tryz.prog 50 #[.pointer (some ⟨b,0,none⟩)] w (StepR W0 b vars (keepL vars nf fils rows) [q0,q1,q2,q3,.slice Af mf cf,q5,q6,q7] 0):=by
 have eg:∀args w,(callFunc 88 args).run Tryz.prog w=.ok (.enter 88 args) w:=enters_of Tryz.func88 (by kernel_rfl) rfl
 obtain⟨hbb,va,vr,hblk,hva,xs,hown,hall⟩:=hW
 obtain⟨n,hn⟩:∃n,rows.length=n:=⟨_,rfl⟩
 rw[hn]at hown hl
 obtain⟨nv,hnv⟩:∃n,vars.length=n:=⟨_,rfl⟩
 have hlt:b<w.heap.size:=(Array.getElem?_eq_some_iff.1 hblk).1
 obtain⟨Av,cv,rfl,_,hvr⟩:=own_slice hva
 have hal:Below w.heap.size w (w.alloc (.cells #[.pointer (some ⟨b,0,none⟩)] 90)):=blw
 have hkb:=heap_alloc_new w (.cells #[.pointer (some ⟨b,0,none⟩)] 90)
 have hblk1:=KeepT.below hal _ _ _ hblk
 rcases RowV.of_own hown with ⟨rfl,rfl,rfl⟩|⟨g,cap,rest,rfl,hbg,hV,hnc,hcm,hxn,hrc⟩
 ·obtain rfl:rows=[]:=List.eq_nil_of_length_eq_zero hn
  have hD:=λmb W=>delNone 88 #[.pointer (some ⟨mb,0,none⟩)] eg W
  have H:=Lib.hid (And.intro hbb (And.intro hblk1 (And.intro (own_keep hva (KeepT.below hal)) (And.intro hkb (hB.trans (hal.mono hB.size))))))
  clear hbb hblk hva hown hB hall hn hz hf hzf hmf hvr hkb hblk1 hal
  go_enter Tryz.func50,Tryz.ntmps50
  go_wp2
  have hz1:(w.alloc (.cells #[.pointer (some ⟨b,0,none⟩)] 90)).heap.size=w.heap.size+1:=by simp
  have HZ:=Lib.hid hz1
  clear hz1
  generalize w.alloc (.cells #[.pointer (some ⟨b,0,none⟩)] 90)=W at *
  refine Rc.p0 (Two b w.heap.size) (two_pre b w.heap.size) [11] _ [(0,[0,1,2,3,4,5]),(1,[6]),(1,[7]),(0,[8,9,10]),(2,[11])] ?_ (λa w h=>h)
  intro wd hbd hwz
  have k1:∀p:Rc.LaterC (Two b w.heap.size) wd,p.W.cell? ⟨w.heap.size,0,none⟩=some (.pointer (some ⟨b,0,none⟩)):=λp=>by
   rw[World.cell?,p.h.2,hbd.block _ (by rw[HZ.out];omega),H.out.2.2.2.1];rfl
  have k2:∀p:Rc.LaterC (Two b w.heap.size) wd,p.W.cell? ⟨b,1,none⟩=some (.slice none 0 0):=λp=>by
   rw[World.cell?,p.h.1,hbd.block _ (by rw[HZ.out];omega),H.out.2.1];rfl
  refine Rc.st_quiet ?_
  iterate 6 go_big_quiet_step (fail)
  refine wpQuiet_nil (Rc.st_one ?_)
  go_wp2
  refine⟨(two_pre _ _).refl _,Rc.st_one ?_⟩
  go_wp2_with (go_at_call 87;refine(hD _ _).mono ?_;rintro e w1 ⟨rfl,rfl⟩)
  refine⟨(two_pre _ _).refl _,Rc.st_quiet ?_⟩
  iterate 3 go_big_quiet_step (fail)
  refine wpQuiet_nil (Rc.st_free ?_)
  have c1:wd.cell? ⟨b,1,none⟩=some (.slice none 0 0):=k2 ⟨wd,(two_pre _ _).refl _⟩
  have f1:wd.frozen? ⟨b,1,none⟩=false:=Lib.frozen_of_heap (KeepT.below hbd _ _ _ H.out.2.1) 1
  have HBD:=Lib.hid hbd
  clear k1 k2 hbd hwz
  go_wp2
  refine Rc.st_done ?_
  have HF:Hid (StepR W0 b vars (keepL vars nf fils []) [q0,q1,q2,q3,.slice Af mf cf,q5,q6,q7] 0 (.returned (.int .i64 0)) (wd.setCell ⟨b,1,none⟩ (.slice none 0 0))):=by
   refine⟨rfl,wk_rows H.out.1 (KeepT.below HBD.out _ _ _ H.out.2.1) (own_keep H.out.2.2.1 (KeepT.below HBD.out)) (OwnRs.nil _ _),?_⟩
   exact(H.out.2.2.2.2.trans (HBD.out.mono H.out.2.2.2.2.size)).setCell (p:=⟨b,1,none⟩) H.out.1 _
  go_wp2
  go_ret
  exact HF.out
 ·have hglt:=hV.lt
  have hS:∀wd,Below (w.heap.size+1) (w.alloc (.cells #[.pointer (some ⟨b,0,none⟩)] 90)) wd->KeepS W0 b g w.heap.size (.slice Av vars.length cv) (.slice (some ⟨g,0,none⟩) n cap) vars [q0,q1,q2,q3,.slice Af mf cf,q5,q6,q7] xs rows 0 wd/\RowV g xs rest wd:=by
   intro wd hb
   have hb':Below (w.alloc (.cells #[.pointer (some ⟨b,0,none⟩)] 90)).heap.size (w.alloc (.cells #[.pointer (some ⟨b,0,none⟩)] 90)) wd:=by simpa using hb
   have hbw:=below_tr hal hb'
   exact⟨⟨KeepT.below hb' _ _ _ hkb,WkG.on ⟨hblk,hva,hall,_,hV⟩ hbw,hB.trans (hbw.mono hB.size)⟩,KeepT.below hbw _ _ _ hV⟩
  have hD:=λ(wd:World) (h:KeepS W0 b g w.heap.size (.slice Av vars.length cv) (.slice (some ⟨g,0,none⟩) n cap) vars [q0,q1,q2,q3,.slice Af mf cf,q5,q6,q7] xs rows 0 wd/\RowV g xs rest wd) =>
   delRows 88 #[.pointer (some ⟨w.heap.size,0,none⟩)] eg (λk=>((rows[k]?).map λq=>failsI vars q nf fils).getD false) (KeepS W0 b g w.heap.size (.slice Av vars.length cv) (.slice (some ⟨g,0,none⟩) n cap) vars [q0,q1,q2,q3,.slice Af mf cf,q5,q6,q7] xs rows) rows xs rest g n cap rest.length wd hn hxn rfl (by omega) hnc
   (λk W h=>h.2.1.2.2.1.mono λ_ _ _ x=>x.rd)
   (λk W i v h=>by
    obtain⟨h1,h4,h5⟩:=h
    obtain⟨cur,h6⟩:=h4.2.2.2
    exact⟨KeepT.setCell h6 (by decide) _ _ _ h1,h4.setCell i v,h5.setCell (p:=⟨g,i,none⟩) hbg _⟩)
   (λk W o us h=>by
    obtain⟨h1,h4,h5⟩:=h
    have hne:g≠w.heap.size:=by omega
    exact⟨by rw[heap_setCells_ne hne];exact h1,h4.setCells us o,h5.trans (below_setCells hbg us o W)⟩)
   (λk row W A' c' us hrow h hU hle hrd=>by
    obtain⟨h1,h4,h5⟩:=h
    have hzr:=hz row (List.mem_of_getElem? hrow)
    have hvr':=own_slice h4.2.1
    obtain⟨Av',cv',he,_,hvr'⟩:=hvr'
    injection he with e1 e2 e3
    subst e1
    refine(ordKeep1 vars row nf fils b w.heap.size Av Af A' nv cv mf cf row.length c' W hnv hmf rfl (by omega) hzr.1 hlf hzr.2 hzf hvr' hrd (RdEs.later hf h5) (by rw[Lib.cell_of_heap h1];rfl) (by rw[Lib.cell_of_heap h4.1,hnv];rfl) (by rw[Lib.cell_of_heap h4.1];rfl)).mono ?_
    rintro e W' ⟨rfl,hb2⟩
    exact⟨by rw[hrow];rfl,⟨KeepT.below hb2 _ _ _ h1,h4.on hb2,h5.trans (hb2.mono h5.size)⟩,KeepT.below hb2 _ _ _ hU⟩)
   h.1 h.2
  have hko:=kept_filter (b:=λk=>((rows[k]?).map λq=>failsI vars q nf fils).getD false) (l:=rows) (λr => !failsI vars r nf fils) (λk x hx=>by simp[hx]) n (by omega)
  rw[List.take_of_length_le (by omega)]at hko
  change _=keepL vars nf fils rows at hko
  have H:=Lib.hid (And.intro hbb (And.intro hblk1 (And.intro hcm (And.intro hrc (And.intro hbg (And.intro hko (And.intro hn (And.intro hkb hS))))))))
  clear hbb hblk hva hown hB hall hn hz hf hzf hmf hvr hkb hblk1 hal hV hcm hrc hko hxn hS
  go_enter Tryz.func50,Tryz.ntmps50
  go_wp2
  have hz1:(w.alloc (.cells #[.pointer (some ⟨b,0,none⟩)] 90)).heap.size=w.heap.size+1:=by simp
  have HZ:=Lib.hid hz1
  clear hz1
  generalize w.alloc (.cells #[.pointer (some ⟨b,0,none⟩)] 90)=W at *
  refine Rc.p0 (Two b w.heap.size) (two_pre b w.heap.size) [11] _ [(0,[0,1,2,3,4,5]),(1,[6]),(1,[7]),(0,[8,9,10]),(2,[11])] ?_ (λa w h=>h)
  intro wd hbd hwz
  have k1:∀p:Rc.LaterC (Two b w.heap.size) wd,p.W.cell? ⟨w.heap.size,0,none⟩=some (.pointer (some ⟨b,0,none⟩)):=λp=>by
   rw[World.cell?,p.h.2,hbd.block _ (by rw[HZ.out];omega),H.out.2.2.2.2.2.2.2.1];rfl
  have k2:∀p:Rc.LaterC (Two b w.heap.size) wd,p.W.cell? ⟨b,1,none⟩=some (.slice (some ⟨g,0,none⟩) n cap):=λp=>by
   rw[World.cell?,p.h.1,hbd.block _ (by rw[HZ.out];omega),H.out.2.1];rfl
  refine Rc.st_quiet ?_
  iterate 6 go_big_quiet_step (fail)
  refine wpQuiet_nil (Rc.st_one ?_)
  go_wp2
  refine⟨(two_pre _ _).refl _,Rc.st_one ?_⟩
  have hS0:=H.out.2.2.2.2.2.2.2.2 wd (by rw[HZ.out]at hbd;exact hbd)
  have hD0:=hD wd hS0
  have HS0:=Lib.hid hS0
  clear k1 k2 hD hS0 hbd hwz
  go_wp2_with (go_at_call 87;refine hD0.mono ?_;rintro e w9 ⟨rest',rfl,hV',hlen,hS9⟩)
  have hTwo:Two b w.heap.size wd w9:=⟨by rw[hS9.2.1.1,HS0.out.1.2.1.1],by rw[hS9.1,HS0.out.1.1]⟩
  refine⟨hTwo,Rc.st_quiet ?_⟩
  obtain⟨h1,hG,hB9⟩:=hS9
  have c9:w9.cell? ⟨b,1,none⟩=some (.slice (some ⟨g,0,none⟩) n cap):=by simp[World.cell?,hG.1]
  have f9:w9.frozen? ⟨b,1,none⟩=false:=Lib.frozen_of_heap hG.1 1
  have hko:=H.out.2.2.2.2.2.1
  have hn:=H.out.2.2.2.2.2.2.1
  have hall:=hG.2.2.1.kept (b:=λk=>((rows[k]?).map λq=>failsI vars q nf fils).getD false) n (by rw[hn];exact Nat.le_refl _)
  rw[hko]at hall
  generalize keptL (λk=>((rows[k]?).map λq=>failsI vars q nf fils).getD false) xs n=ys at *
  have hyl:=hall.len
  obtain⟨n2,hn2⟩:∃n2,ys.length=n2:=⟨_,rfl⟩
  rw[hn2]at hlen hyl ⊢
  have hrs:OwnRs W0.heap.size w9 (.slice (some ⟨g,0,none⟩) n2 cap) (keepL vars nf fils rows):=⟨ys,by rw[show (keepL vars nf fils rows).length=n2 by omega];exact hV'.own H.out.2.2.2.2.1 hn2 (by have:=H.out.2.2.2.1;omega) H.out.2.2.1,hall⟩
  have HF:Hid (StepR W0 b vars (keepL vars nf fils rows) [q0,q1,q2,q3,.slice Af mf cf,q5,q6,q7] 0 (.returned (.int .i64 0)) (w9.setCell ⟨b,1,none⟩ (.slice (some ⟨g,0,none⟩) n2 cap))):=
   ⟨rfl,wk_rows H.out.1 hG.1 hG.2.1 hrs,hB9.setCell (p:=⟨b,1,none⟩) H.out.1 _⟩
  clear hV' hlen hG hB9 hko hall hyl hrs hn2 hn h1 hTwo hD0
  iterate 3 go_big_quiet_step (fail)
  refine wpQuiet_nil (Rc.st_free ?_)
  go_wp2
  refine Rc.st_done ?_
  go_wp2
  go_ret
  exact HF.out
end Go.Proofs.YtoejnneknpoanaaGreatDoor
