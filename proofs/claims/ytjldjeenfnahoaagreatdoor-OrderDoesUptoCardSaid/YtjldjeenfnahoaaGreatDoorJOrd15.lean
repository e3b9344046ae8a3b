/- The program's package order, walked: (*worker).keep. Parts o -/
import Derived.Test.YtjldjeenfnahoaaGreatDoorJRegion8
import Derived.Test.YtjldjeenfnahoaaGreatDoorJOrd14
set_option maxHeartbeats 8000000
set_option maxRecDepth 100000
namespace Go.Proofs.YtjldjeenfnahoaaGreatDoor
open Go Go.RowKit Fm Tx Om Mp
def Two (b k:Nat) (w w':World):Prop:=w'.heap[b]?=w.heap[b]?/\w'.heap[k]?=w.heap[k]?
theorem ce (b k:Nat):Rc.Pre (Two b k):=⟨λ_=>⟨rfl,rfl⟩,λh h'=>⟨h'.1.trans h.1,h'.2.trans h.2⟩⟩
instance {b k:Nat}:Rc.IsPre (Two b k):=⟨ce b k⟩
theorem yd (vars:List ByteArray) (row:List Tm) (nf:Nat) (fils:List (ExT nf)) (b kb:Nat) (Av Af Ar:Option Addr) (nv cv mf cf nr cr:Nat) (w:World) (hnv:vars.length=nv) (hmf:fils.length=mf) (hnr:row.length=nr) (hlv:nv<=1000000) (hlr:nr<=1000000) (hlf:mf<=1000000) (hzr:∀t∈row,keyTm t) (hzf:∀x∈fils,szE nf x)
  (hv:Rd w Av (vars.map Value.string)) (hr:RdTs w Ar row) (hf:aF nf w Af fils) (hk:w.cell? ⟨kb,0,none⟩=some (.pointer (some ⟨b,0,none⟩))) (h0:w.cell? ⟨b,0,none⟩=some (.slice Av nv cv)) (h6:w.cell? ⟨b,6,none⟩=some (.slice Af mf cf)) :
  Calls Tryz.prog 69 #[.slice Ar nr cr,.pointer (some ⟨kb,0,none⟩)] w λe w'=>e=.returned (.bool (bb vars row nf fils))/\Below w.heap.size w w':=by
 have hK:=λW (h:Below w.heap.size w W)=>zg vars row (by omega) (by omega) (λu hu=>Nat.le_trans (hzr u hu).2.1 (by decide)) nf fils Af Av Ar cf cv cr W (hv.later h) (RdTs.later hr h) (aF.later hf h) (by omega) hzf
 rw[hnv,hmf,hnr]at hK
 generalize bb vars row nf fils=q at *
 have x0:=λd os=>ab hk (below_regrown w d os)
 have x1:=λd os=>ab h0 (below_regrown w d os)
 have x2:=λd os=>ab h6 (below_regrown w d os)
 clear hnv hmf hnr hzr hzf hv hr hf hk h0 h6
 cases q
 ·go_enter Tryz.func69,Tryz.ntmps69
  go_wp2
  refine wrq ?_;(repeat (any_goals (go_big_quiet_step ((go_at_call 70;exact Calls.regrown_of (hK _ (below_regrown _ _ _)))))));all_goals (refine wqn ?_;intro d9 os9)
  have kq:=below_regrown w d9 os9
  go_wp2
  go_ret
  exact⟨rfl,kq⟩
 ·go_enter Tryz.func69,Tryz.ntmps69
  go_wp2
  refine wrq ?_;(repeat (any_goals (go_big_quiet_step ((go_at_call 70;exact Calls.regrown_of (hK _ (below_regrown _ _ _)))))));all_goals (refine wqn ?_;intro d9 os9)
  have kq:=below_regrown w d9 os9
  go_wp2
  go_ret
  exact⟨rfl,kq⟩
def zP (W0:World) (b g kb:Nat) (va vr:Value) (vars:List ByteArray) (qc vs:List Value) (rows:List (List Tm)) (_k:Nat) (W:World):Prop:=
 W.heap[kb]?=some (Obj.cells #[.pointer (some ⟨b,0,none⟩)] 79 (0,0))/\WkG W0.heap.size b g va vr vars qc vs rows W/\Below W0.heap.size W0 W
def bL (vars:List ByteArray) (nf:Nat) (fils:List (ExT nf)) (rows:List (List Tm)):List (List Tm):=rows.filter λr => !bb vars r nf fils
theorem AN (W0:World) (b nf:Nat) (fils:List (ExT nf)) (Af:Option Addr) (cf mf:Nat) (vars:List ByteArray) (rows:List (List Tm)) (q0 q1 q2 q3 q5 q6 q7:Value) (w:World) (hmf:fils.length=mf) (hlf:mf<=1000000) (hlv:vars.length<=1000000) (hzf:∀x∈fils,szE nf x) (hf:aF nf W0 Af fils)
  (hB:Below W0.heap.size W0 w) (hW:dH W0.heap.size w b vars rows [q0,q1,q2,q3,.slice Af mf cf,q5,q6,q7]) (hz:∀r∈rows,ju r) (hl:rows.length<=1000000) :
  Calls Tryz.prog 39 #[.pointer (some ⟨b,0,none⟩)] w (dt W0 b vars (bL vars nf fils rows) [q0,q1,q2,q3,.slice Af mf cf,q5,q6,q7] 0):=by
 have eg:∀args w,(callFunc 69 args).run Tryz.prog w=.ok (.enter 69 args) w:=enters_of Tryz.func69 (by kernel_rfl) rfl
 obtain⟨hbb,va,vr,hblk,hva,xs,hown,hall⟩:=hW
 obtain⟨n,hn⟩:∃n,rows.length=n:=⟨_,rfl⟩
 rw[hn]at hown hl
 obtain⟨nv,hnv⟩:∃n,vars.length=n:=⟨_,rfl⟩
 have hlt:b<w.heap.size:=(Array.getElem?_eq_some_iff.1 hblk).1
 obtain⟨Av,cv,rfl,_,hvr⟩:=own_slice hva
 have hal:Below w.heap.size w (w.alloc (.cells #[.pointer (some ⟨b,0,none⟩)] 79)):=blw
 have hkb:=heap_alloc_new w (.cells #[.pointer (some ⟨b,0,none⟩)] 79)
 have hblk1:=KeepT.below hal _ _ _ hblk
 rcases bI.of_own hown with ⟨rfl,rfl,rfl⟩|⟨g,cap,rest,rfl,hbg,hV,hnc,hcm,hxn,hrc⟩
 ·obtain rfl:rows=[]:=List.eq_nil_of_length_eq_zero hn
  have hD:=λmb W=>ui 69 #[.pointer (some ⟨mb,0,none⟩)] eg W
  have H:=Lib.hid (And.intro hbb (And.intro hblk1 (And.intro (own_keep hva (KeepT.below hal)) (And.intro hkb (hB.trans (hal.mono hB.size))))))
  clear hbb hblk hva hown hB hall hn hz hf hzf hmf hvr hkb hblk1 hal
  go_enter Tryz.func39,Tryz.ntmps39
  go_wp2
  have hz1:(w.alloc (.cells #[.pointer (some ⟨b,0,none⟩)] 79)).heap.size=w.heap.size+1:=by simp
  have HZ:=Lib.hid hz1
  clear hz1
  generalize w.alloc (.cells #[.pointer (some ⟨b,0,none⟩)] 79)=W at *
  refine Rc.p0 (Two b w.heap.size) (ce b w.heap.size) [11] _ [(0,[0,1,2,3,4,5]),(1,[6]),(1,[7]),(0,[8,9,10]),(2,[11])] ?_ (λa w h=>h)
  intro wd hbd hwz
  have k1:∀p:Rc.LaterC (Two b w.heap.size) wd,p.W.cell? ⟨w.heap.size,0,none⟩=some (.pointer (some ⟨b,0,none⟩)):=λp=>by
   rw[World.cell?,p.h.2,hbd.block _ (by rw[HZ.out];omega),H.out.2.2.2.1];rfl
  have k2:∀p:Rc.LaterC (Two b w.heap.size) wd,p.W.cell? ⟨b,1,none⟩=some (.slice none 0 0):=λp=>by
   rw[World.cell?,p.h.1,hbd.block _ (by rw[HZ.out];omega),H.out.2.1];rfl
  refine Rc.st_quiet ?_
  iterate 6 go_big_quiet_step (fail)
  refine wpQuiet_nil (Rc.st_one ?_)
  go_wp2
  refine⟨(ce _ _).refl _,Rc.st_one ?_⟩
  go_wp2_with (go_at_call 68;refine(hD _ _).mono ?_;rintro e w1 ⟨rfl,rfl⟩)
  refine⟨(ce _ _).refl _,Rc.st_quiet ?_⟩
  iterate 3 go_big_quiet_step (fail)
  refine wpQuiet_nil (Rc.st_free ?_)
  have c1:wd.cell? ⟨b,1,none⟩=some (.slice none 0 0):=k2 ⟨wd,(ce _ _).refl _⟩
  have f1:wd.frozen? ⟨b,1,none⟩=false:=Lib.frozen_of_heap (KeepT.below hbd _ _ _ H.out.2.1) 1
  have HBD:=Lib.hid hbd
  clear k1 k2 hbd hwz
  go_wp2
  refine Rc.st_done ?_
  have HF:Hid (dt W0 b vars (bL vars nf fils []) [q0,q1,q2,q3,.slice Af mf cf,q5,q6,q7] 0 (.returned (.int .i64 0)) (wd.setCell ⟨b,1,none⟩ (.slice none 0 0))):=by
   refine⟨rfl,kx H.out.1 (KeepT.below HBD.out _ _ _ H.out.2.1) (own_keep H.out.2.2.1 (KeepT.below HBD.out)) (OwnRs.nil _ _),?_⟩
   exact(H.out.2.2.2.2.trans (HBD.out.mono H.out.2.2.2.2.size)).setCell (p:=⟨b,1,none⟩) H.out.1 _
  go_wp2
  go_ret
  exact HF.out
 ·have hglt:=hV.lt
  have hS:∀wd,Below (w.heap.size+1) (w.alloc (.cells #[.pointer (some ⟨b,0,none⟩)] 79)) wd->zP W0 b g w.heap.size (.slice Av vars.length cv) (.slice (some ⟨g,0,none⟩) n cap) vars [q0,q1,q2,q3,.slice Af mf cf,q5,q6,q7] xs rows 0 wd/\bI g xs rest wd:=by
   intro wd hb
   have hb':Below (w.alloc (.cells #[.pointer (some ⟨b,0,none⟩)] 79)).heap.size (w.alloc (.cells #[.pointer (some ⟨b,0,none⟩)] 79)) wd:=by simpa using hb
   have hbw:=aa hal hb'
   exact⟨⟨KeepT.below hb' _ _ _ hkb,WkG.on ⟨hblk,hva,hall,_,hV⟩ hbw,hB.trans (hbw.mono hB.size)⟩,KeepT.below hbw _ _ _ hV⟩
  have hD:=λ(wd:World) (h:zP W0 b g w.heap.size (.slice Av vars.length cv) (.slice (some ⟨g,0,none⟩) n cap) vars [q0,q1,q2,q3,.slice Af mf cf,q5,q6,q7] xs rows 0 wd/\bI g xs rest wd) =>
   uh 69 #[.pointer (some ⟨w.heap.size,0,none⟩)] eg (λk=>((rows[k]?).map λq=>bb vars q nf fils).getD false) (zP W0 b g w.heap.size (.slice Av vars.length cv) (.slice (some ⟨g,0,none⟩) n cap) vars [q0,q1,q2,q3,.slice Af mf cf,q5,q6,q7] xs rows) rows xs rest g n cap rest.length wd hn hxn rfl (by omega) hnc
   (λk W h=>h.2.1.2.2.1.mono λ_ _ _ x=>x.rd)
   (λk W i v h=>by
    obtain⟨h1,h4,h5⟩:=h
    obtain⟨cur,h6⟩:=h4.2.2.2
    exact⟨KeepT.setCell h6 (by decide) _ _ _ h1,h4.setCell i v,h5.setCell (p:=⟨g,i,none⟩) hbg _⟩)
   (λk W o us h=>by
    obtain⟨h1,h4,h5⟩:=h
    have hne:g≠w.heap.size:=by omega
    exact⟨by rw[bA hne];exact h1,h4.setCells us o,h5.trans (below_setCells hbg us o W)⟩)
   (λk row W A' c' us hrow h hU hle hrd=>by
    obtain⟨h1,h4,h5⟩:=h
    have hzr:=hz row (List.mem_of_getElem? hrow)
    have hvr':=own_slice h4.2.1
    obtain⟨Av',cv',he,_,hvr'⟩:=hvr'
    injection he with e1 e2 e3
    subst e1
    refine(yd vars row nf fils b w.heap.size Av Af A' nv cv mf cf row.length c' W hnv hmf rfl (by omega) hzr.1 hlf hzr.2 hzf hvr' hrd (aF.later hf h5) (by rw[Lib.cell_of_heap h1];rfl) (by rw[Lib.cell_of_heap h4.1,hnv];rfl) (by rw[Lib.cell_of_heap h4.1];rfl)).mono ?_
    rintro e W' ⟨rfl,hb2⟩
    exact⟨by rw[hrow];rfl,⟨KeepT.below hb2 _ _ _ h1,h4.on hb2,h5.trans (hb2.mono h5.size)⟩,KeepT.below hb2 _ _ _ hU⟩)
   h.1 h.2
  have hko:=ke (b:=λk=>((rows[k]?).map λq=>bb vars q nf fils).getD false) (l:=rows) (λr => !bb vars r nf fils) (λk x hx=>by simp[hx]) n (by omega)
  rw[List.take_of_length_le (by omega)]at hko
  change _=bL vars nf fils rows at hko
  have H:=Lib.hid (And.intro hbb (And.intro hblk1 (And.intro hcm (And.intro hrc (And.intro hbg (And.intro hko (And.intro hn (And.intro hkb hS))))))))
  clear hbb hblk hva hown hB hall hn hz hf hzf hmf hvr hkb hblk1 hal hV hcm hrc hko hxn hS
  go_enter Tryz.func39,Tryz.ntmps39
  go_wp2
  have hz1:(w.alloc (.cells #[.pointer (some ⟨b,0,none⟩)] 79)).heap.size=w.heap.size+1:=by simp
  have HZ:=Lib.hid hz1
  clear hz1
  generalize w.alloc (.cells #[.pointer (some ⟨b,0,none⟩)] 79)=W at *
  refine Rc.p0 (Two b w.heap.size) (ce b w.heap.size) [11] _ [(0,[0,1,2,3,4,5]),(1,[6]),(1,[7]),(0,[8,9,10]),(2,[11])] ?_ (λa w h=>h)
  intro wd hbd hwz
  have k1:∀p:Rc.LaterC (Two b w.heap.size) wd,p.W.cell? ⟨w.heap.size,0,none⟩=some (.pointer (some ⟨b,0,none⟩)):=λp=>by
   rw[World.cell?,p.h.2,hbd.block _ (by rw[HZ.out];omega),H.out.2.2.2.2.2.2.2.1];rfl
  have k2:∀p:Rc.LaterC (Two b w.heap.size) wd,p.W.cell? ⟨b,1,none⟩=some (.slice (some ⟨g,0,none⟩) n cap):=λp=>by
   rw[World.cell?,p.h.1,hbd.block _ (by rw[HZ.out];omega),H.out.2.1];rfl
  refine Rc.st_quiet ?_
  iterate 6 go_big_quiet_step (fail)
  refine wpQuiet_nil (Rc.st_one ?_)
  go_wp2
  refine⟨(ce _ _).refl _,Rc.st_one ?_⟩
  have hS0:=H.out.2.2.2.2.2.2.2.2 wd (by rw[HZ.out]at hbd;exact hbd)
  have hD0:=hD wd hS0
  have HS0:=Lib.hid hS0
  clear k1 k2 hD hS0 hbd hwz
  go_wp2_with (go_at_call 68;refine hD0.mono ?_;rintro e w9 ⟨rest',rfl,hV',hlen,hS9⟩)
  have hTwo:Two b w.heap.size wd w9:=⟨by rw[hS9.2.1.1,HS0.out.1.2.1.1],by rw[hS9.1,HS0.out.1.1]⟩
  refine⟨hTwo,Rc.st_quiet ?_⟩
  obtain⟨h1,hG,hB9⟩:=hS9
  have c9:w9.cell? ⟨b,1,none⟩=some (.slice (some ⟨g,0,none⟩) n cap):=by simp[World.cell?,hG.1]
  have f9:w9.frozen? ⟨b,1,none⟩=false:=Lib.frozen_of_heap hG.1 1
  have hko:=H.out.2.2.2.2.2.1
  have hn:=H.out.2.2.2.2.2.2.1
  have hall:=hG.2.2.1.kept (b:=λk=>((rows[k]?).map λq=>bb vars q nf fils).getD false) n (by rw[hn];exact Nat.le_refl _)
  rw[hko]at hall
  generalize aI (λk=>((rows[k]?).map λq=>bb vars q nf fils).getD false) xs n=ys at *
  have hyl:=hall.len
  obtain⟨n2,hn2⟩:∃n2,ys.length=n2:=⟨_,rfl⟩
  rw[hn2]at hlen hyl ⊢
  have hrs:OwnRs W0.heap.size w9 (.slice (some ⟨g,0,none⟩) n2 cap) (bL vars nf fils rows):=⟨ys,by rw[show (bL vars nf fils rows).length=n2 by omega];exact hV'.own H.out.2.2.2.2.1 hn2 (by have:=H.out.2.2.2.1;omega) H.out.2.2.1,hall⟩
  have HF:Hid (dt W0 b vars (bL vars nf fils rows) [q0,q1,q2,q3,.slice Af mf cf,q5,q6,q7] 0 (.returned (.int .i64 0)) (w9.setCell ⟨b,1,none⟩ (.slice (some ⟨g,0,none⟩) n2 cap))):=
   ⟨rfl,kx H.out.1 hG.1 hG.2.1 hrs,hB9.setCell (p:=⟨b,1,none⟩) H.out.1 _⟩
  clear hV' hlen hG hB9 hko hall hyl hrs hn2 hn h1 hTwo hD0
  iterate 3 go_big_quiet_step (fail)
  refine wpQuiet_nil (Rc.st_free ?_)
  go_wp2
  refine Rc.st_done ?_
  go_wp2
  go_ret
  exact HF.out
def oz (sz c q:Nat) (A:Option Addr):Option Addr:=if c=q then A else A.map (·.add (q*sz))
section
variable {P:Program} {T E:TypeId} {sz:Nat}
theorem gx (hT:P.underlying T=some (.slice E)) (hs:∀w,(sizeOf E).run P w=.ok sz w) (A:Option Addr) (c q M:Nat) (hq:q<=M) (W:World) :
  (Instr.slice T (.slice A M c) (some (.int .i64 (q:Int))) none none).run P W=.ok (.slice (oz sz c q A) (M-q) (c-q)) W:=by
 have h1:(0:Int)<=(q:Int)/\(q:Int)<=(M:Int):=by omega
 unfold oz
 simp[Instr.slice,run_underlying hT,Instr.sliceBounds,Instr.sliceBound,asIntOf,h1,hs]
 intro h;omega
theorem ky (hT:P.underlying T=some (.slice E)) (hs:∀w,(sizeOf E).run P w=.ok sz w) (A:Option Addr) (c q M:Nat) (hq:q<=c) (W:World) :
  (Instr.slice T (.slice A M c) none (some (.int .i64 (q:Int))) none).run P W=.ok (.slice A q c) W:=by
 have h1:(0:Int)<=(q:Int)/\(q:Int)<=(c:Int):=by omega
 have hA:A.map (λx=>x.add 0)=A:=by
  cases A with
  | none=>rfl
  | some a=>simp[Addr.add]
 simp[Instr.slice,run_underlying hT,Instr.sliceBounds,Instr.sliceBound,asIntOf,h1,hs,hA]
 intro h;omega
end
theorem Rd.fromG {w:World} {A:Option Addr} {xs:List Value} {sz n c q:Nat} (h:Rd w A xs) (hx:xs.length=n*sz) (hn:n<=c) (hq:q<=n):Rd w (oz sz c q A) (xs.drop (q*sz)):=by
 unfold oz
 split
 ·next he =>
  obtain rfl:q=n:=by omega
  rw[List.drop_of_length_le (by omega)];exact .inl rfl
 ·rcases h with h0|⟨g,o,rfl,hc⟩
  ·subst h0;exact .inl (by simp)
  ·refine .inr ⟨g,o+q*sz,by rw[Option.map_some,Addr.add_mid],λj u hu=>?_⟩
   rw[Nat.add_assoc]
   exact hc _ _ (by rw[List.getElem?_drop]at hu;exact hu)
def cd (base:Nat) (w:World) (v:Value) (rows:List (List Tm)):Prop:=∃A c xs,v=.slice A rows.length c/\rows.length<=c /\
 (xs=[]∨∃g o cur,A=some ⟨g,o,none⟩/\base<=g/\w.heap[g]?=some (Obj.cells cur 69 (0,0))/\∀j u,xs[j]?=some u->cur[o+j]?=some u)/\All 1 (OwnRow base w) xs rows
theorem OwnRs.in_ {base:Nat} {w:World} {v:Value} {rows:List (List Tm)} (h:OwnRs base w v rows):cd base w v rows:=by
 obtain⟨xs,h1,h2⟩:=h
 have hl:=h2.len
 rcases h1.2 with ⟨rfl,h0⟩|⟨g,cap,cur,rfl,hg,hh,hn,hm,hs,ht⟩
 ·have:xs=[]:=List.eq_nil_of_length_eq_zero (by omega)
  exact⟨none,0,xs,by rw[h0],by omega,.inl this,h2⟩
 ·refine⟨_,cap,xs,rfl,hn,.inr ⟨g,0,cur,rfl,hg,hh,λj u hu=>?_⟩,h2⟩
  rw[Nat.zero_add]
  rw[←ht]at hu
  rw[List.getElem?_take]at hu
  split at hu
  ·simpa using hu
  ·cases hu
theorem cd.keep {base:Nat} {w w':World} {v:Value} {rows:List (List Tm)} (h:cd base w v rows) (hk:KeepT 65 w w') (hk2:KeepT 69 w w'):cd base w' v rows:=by
 obtain⟨A,c,xs,h1,h2,h3,h4⟩:=h
 refine⟨A,c,xs,h1,h2,h3.imp id ?_,h4.mono λ_ _ _ x=>x.keep hk⟩
 rintro⟨g,o,cur,e1,e2,e3,e4⟩
 exact⟨g,o,cur,e1,e2,hk2 _ _ _ e3,e4⟩
theorem cd.rd {base:Nat} {w:World} {v:Value} {rows:List (List Tm)} (h:cd base w v rows):∃A c,v=.slice A rows.length c/\rows.length<=c/\RdRs w A rows:=by
 obtain⟨A,c,xs,h1,h2,h3,h4⟩:=h
 refine⟨A,c,h1,h2,xs,h3.imp id ?_,h4.mono λ_ _ _ x=>x.rd⟩
 rintro⟨g,o,cur,e1,e2,e3,e4⟩
 exact⟨g,o,e1,λj u hu=>by rw[Lib.cell_of_heap e3];exact e4 j u hu⟩
theorem cd.from {base:Nat} {w:World} {A:Option Addr} {n c q:Nat} {rows:List (List Tm)} (h:cd base w (.slice A n c) rows) (hq:q<=n):cd base w (.slice (oz 1 c q A) (n-q) (c-q)) (rows.drop q):=by
 obtain⟨A',c',xs,h1,h2,h3,h4⟩:=h
 injection h1 with e1 e2 e3
 subst e1;subst e3
 refine⟨_,_,xs.drop q,by rw[List.length_drop,←e2],by rw[List.length_drop];omega,?_,by have:=h4.drop q;rwa [Nat.mul_one]at this⟩
 have hl:=h4.len
 unfold oz
 split
 ·exact .inl (List.drop_of_length_le (by omega))
 ·rcases h3 with h3|⟨g,o,cur,rfl,hg,hh,hx⟩
  ·subst h3;exact .inl (by simp)
  ·exact .inr ⟨g,o+q,cur,by rw[Option.map_some,Nat.mul_one,Addr.add_mid],hg,hh,λj u hu=>by rw[Nat.add_assoc];exact hx _ _ (by rw[List.getElem?_drop]at hu;exact hu)⟩
theorem cd.to {base:Nat} {w:World} {A:Option Addr} {n c q:Nat} {rows:List (List Tm)} (h:cd base w (.slice A n c) rows) (hq:q<=n):cd base w (.slice A q c) (rows.take q):=by
 obtain⟨A',c',xs,h1,h2,h3,h4⟩:=h
 injection h1 with e1 e2 e3
 subst e1;subst e3
 refine⟨_,_,xs.take q,by rw[List.length_take,←e2,Nat.min_eq_left hq],by rw[List.length_take];omega,?_,by have:=h4.take q;rwa [Nat.mul_one]at this⟩
 rcases h3 with h3|⟨g,o,cur,rfl,hg,hh,hx⟩
 ·subst h3;exact .inl (by simp)
 ·refine .inr ⟨g,o,cur,rfl,hg,hh,λj u hu=>hx j u ?_⟩
  rw[List.getElem?_take]at hu
  split at hu
  ·exact hu
  ·cases hu
def D9 (base:Nat) (w:World) (b:Nat) (vars:List ByteArray) (rows:List (List Tm)) (qc:List Value):Prop:=
 base<=b/\∃va vr,w.heap[b]?=some (Obj.cells (va::vr::qc).toArray 109 (0,0))/\w.ownsRow base 9 1 va vars.length (vars.map Value.string)/\cd base w vr rows
theorem dH.in_ {base:Nat} {w:World} {b:Nat} {vars:List ByteArray} {rows:List (List Tm)} {qc:List Value} (h:dH base w b vars rows qc):D9 base w b vars rows qc:=by
 obtain⟨h0,va,vr,h1,h2,h3⟩:=h
 exact⟨h0,va,vr,h1,h2,h3.in_⟩
theorem pU {base b:Nat} {W:World} {va vr vr':Value} {vars:List ByteArray} {rows:List (List Tm)} {qc:List Value} (hb:base<=b) (h1:W.heap[b]?=some (Obj.cells (va::vr::qc).toArray 109 (0,0))) (h2:W.ownsRow base 9 1 va vars.length (vars.map Value.string)) (h3:cd base W vr' rows) :
  D9 base (W.setCell ⟨b,1,none⟩ vr') b vars rows qc:=by
 have hk:∀e,109≠e->KeepT e W (W.setCell ⟨b,1,none⟩ vr'):=λe he=>KeepT.setCell h1 he
 refine⟨hb,va,vr',?_,own_keep h2 (hk _ (by decide)),h3.keep (hk _ (by decide)) (hk _ (by decide))⟩
 have:=aR h1 1 vr'
 simpa using this
def ms (W0:World) (b:Nat) (vars:List ByteArray) (rows:List (List Tm)) (qc:List Value) (n:Int) (e:Ending) (w':World):Prop:=
 e=.returned (.int .i64 n)/\D9 W0.heap.size w' b vars rows qc/\Below W0.heap.size W0 w'
theorem dt.in_ {W0:World} {b:Nat} {vars:List ByteArray} {rows:List (List Tm)} {qc:List Value} {n:Int} {e:Ending} {w':World} (h:dt W0 b vars rows qc n e w'):ms W0 b vars rows qc n e w':=⟨h.1,h.2.1.in_,h.2.2⟩
def gm (off lim:Int) (rows:List (List Tm)):List (List Tm):=if lim = -1 then rows.drop off.toNat else (rows.drop off.toNat).take lim.toNat
theorem yj (W0:World) (b:Nat) (vars:List ByteArray) (rows:List (List Tm)) (q0 q1 q2 q3 q4 q5:Value) (off lim:Int) (w:World) (hB:Below W0.heap.size W0 w) (hW:dH W0.heap.size w b vars rows [q0,q1,q2,q3,q4,q5,.int .i64 lim,.int .i64 off]) (h:off<0∨lim < -1) :
  Calls Tryz.prog 53 #[.pointer (some ⟨b,0,none⟩)] w (ms W0 b vars rows [q0,q1,q2,q3,q4,q5,.int .i64 lim,.int .i64 off] 6):=by
 have HF:Hid (ms W0 b vars rows [q0,q1,q2,q3,q4,q5,.int .i64 lim,.int .i64 off] 6 (.returned (.int .i64 6)) w):=⟨rfl,hW.in_,hB⟩
 have c8:w.cell? ⟨b,8,none⟩=some (.int .i64 lim):=by obtain⟨_,va,vr,h1,_⟩:=hW;simp[World.cell?,h1]
 have c9:w.cell? ⟨b,9,none⟩=some (.int .i64 off):=by obtain⟨_,va,vr,h1,_⟩:=hW;simp[World.cell?,h1]
 clear hW hB
 by_cases h0:off<0
 ·have hd:decide (off<0)=true:=decide_eq_true h0
  clear h
  go_enter Tryz.func53,Tryz.ntmps53
  go_wp2
  go_ret
  exact HF.out
 ·have hd:decide (off<0)=false:=decide_eq_false h0
  have h1:lim < -1:=by omega
  have hd1:decide (lim < -1)=true:=decide_eq_true h1
  clear h
  go_enter Tryz.func53,Tryz.ntmps53
  go_wp2
  go_ret
  exact HF.out
theorem Cw (W0:World) (b:Nat) (vars:List ByteArray) (rows:List (List Tm)) (q0 q1 q2 q3 q4 q5:Value) (off lim:Int) (w:World) (hB:Below W0.heap.size W0 w) (hW:dH W0.heap.size w b vars rows [q0,q1,q2,q3,q4,q5,.int .i64 lim,.int .i64 off]) (ho:0<=off) (hm : -1<=lim) (hl:rows.length<=1000000) :
  Calls Tryz.prog 53 #[.pointer (some ⟨b,0,none⟩)] w (ms W0 b vars (gm off lim rows) [q0,q1,q2,q3,q4,q5,.int .i64 lim,.int .i64 off] 0):=by
 have hd:decide (off<0)=false:=decide_eq_false (by omega)
 have hd1:decide (lim < -1)=false:=decide_eq_false (by omega)
 obtain⟨hbb,va,vr,hblk,hva,hin⟩:=hW.in_
 obtain⟨A,c,rfl,hnc,hrd⟩:=hin.rd
 obtain⟨n,hn⟩:∃n,rows.length=n:=⟨_,rfl⟩
 rw[hn]at hblk hin hnc hl
 have c8:w.cell? ⟨b,8,none⟩=some (.int .i64 lim):=by simp[World.cell?,hblk]
 have c9:w.cell? ⟨b,9,none⟩=some (.int .i64 off):=by simp[World.cell?,hblk]
 obtain⟨m,hmn,hm1,hmin⟩:∃m:Nat,m<=n/\rows.drop off.toNat=rows.drop m/\min off (n:Int)=(m:Int):=by
  by_cases h:off<=n
  ·exact⟨off.toNat,by omega,rfl,by omega⟩
  ·exact⟨n,Nat.le_refl _,by rw[List.drop_of_length_le (by omega),List.drop_of_length_le (by omega)],by omega⟩
 have hrun:=gx (P:=Tryz.prog) Tryz.underlying23 Tryz.sizeOf69 A c m n hmn
 have hf1:=hin.from (q:=m) hmn
 have hdn:(rows.drop m).length=n-m:=by rw[List.length_drop,hn]
 have hcc:n-m<=c-m:=by omega
 have hll:n-m<=1000000:=by omega
 obtain⟨A2,hA2⟩:∃A2,oz 1 c m A=A2:=⟨_,rfl⟩
 obtain⟨n2,hn2⟩:∃n2,n-m=n2:=⟨_,rfl⟩
 obtain⟨c2,hc2⟩:∃c2,c-m=c2:=⟨_,rfl⟩
 simp only[hA2,hn2,hc2]at hrun hf1 hdn hcc hll
 have H:=Lib.hid (And.intro hbb (And.intro hblk (And.intro hva (And.intro hf1 (And.intro hB (And.intro hm1 hdn))))))
 clear hf1 hdn hA2 hn2 hc2
 clear hW hB hbb hblk hva hin hrd hm1 hn
 go_enter Tryz.func53,Tryz.ntmps53
 go_wp2
 refine Rc.p0 (Two b b) (ce b b) [22] _ [(0,[0,1,2,3,4,5,6,7,8,9,10,11,12,13,14,15,16]),(1,[17]),(0,[18,19,20,21]),(2,[22])] ?_ (λa w h=>h)
 intro wd hbd hwz
 have hbk:=KeepT.below hbd _ _ _ H.out.2.1
 have k1:∀p:Rc.LaterC (Two b b) wd,p.W.cell? ⟨b,1,none⟩=some (.slice A n c):=λp=>by rw[World.cell?,p.h.1,hbk];rfl
 have k2:∀p:Rc.LaterC (Two b b) wd,p.W.cell? ⟨b,8,none⟩=some (.int .i64 lim):=λp=>by rw[World.cell?,p.h.1,hbk];rfl
 have k3:∀p:Rc.LaterC (Two b b) wd,p.W.cell? ⟨b,9,none⟩=some (.int .i64 off):=λp=>by rw[World.cell?,p.h.1,hbk];rfl
 have c1:wd.cell? ⟨b,1,none⟩=some (.slice A n c):=k1 ⟨wd,(ce _ _).refl _⟩
 have f1:wd.frozen? ⟨b,1,none⟩=false:=Lib.frozen_of_heap hbk 1
 have HBD:=Lib.hid hbd
 clear hbk hbd hwz
 refine Rc.st_quiet ?_
 iterate 17 go_big_quiet_step (fail)
 refine wpQuiet_nil (Rc.st_one ?_)
 clear k1 k2 k3
 go_wp2
 refine⟨(ce _ _).refl _,Rc.st_quiet ?_⟩
 iterate 4 go_big_quiet_step (fail)
 refine wpQuiet_nil (Rc.st_free ?_)
 go_wp2
 refine Rc.st_done ?_
 have hW1:=pU (rows:=rows.drop m) H.out.1 (KeepT.below HBD.out _ _ _ H.out.2.1) (own_keep H.out.2.2.1 (KeepT.below HBD.out)) (H.out.2.2.2.1.keep (KeepT.below HBD.out) (KeepT.below HBD.out))
 have hB1:Below W0.heap.size W0 (wd.setCell ⟨b,1,none⟩ (.slice A2 n2 c2)):=(H.out.2.2.2.2.1.trans (HBD.out.mono H.out.2.2.2.2.1.size)).setCell (p:=⟨b,1,none⟩) H.out.1 _
 have hblk1:(wd.setCell ⟨b,1,none⟩ (.slice A2 n2 c2)).heap[b]?=some (Obj.cells (va :: .slice A2 n2 c2::[q0,q1,q2,q3,q4,q5,.int .i64 lim,.int .i64 off]).toArray 109 (0,0)):=by
  have:=aR (KeepT.below HBD.out _ _ _ H.out.2.1) 1 (.slice A2 n2 c2)
  simpa using this
 have d8:(wd.setCell ⟨b,1,none⟩ (.slice A2 n2 c2)).cell? ⟨b,8,none⟩=some (.int .i64 lim):=by simp[World.cell?,hblk1]
 have hva1:(wd.setCell ⟨b,1,none⟩ (.slice A2 n2 c2)).ownsRow W0.heap.size 9 1 va vars.length (vars.map Value.string):=own_keep (own_keep H.out.2.2.1 (KeepT.below HBD.out)) (KeepT.setCell (KeepT.below HBD.out _ _ _ H.out.2.1) (by decide))
 have hin1:cd W0.heap.size (wd.setCell ⟨b,1,none⟩ (.slice A2 n2 c2)) (.slice A2 n2 c2) (rows.drop m):=(H.out.2.2.2.1.keep (KeepT.below HBD.out) (KeepT.below HBD.out)).keep (KeepT.setCell (KeepT.below HBD.out _ _ _ H.out.2.1) (by decide)) (KeepT.setCell (KeepT.below HBD.out _ _ _ H.out.2.1) (by decide))
 have hbb:=H.out.1
 have H1:=Lib.hid (And.intro hW1 (And.intro hB1 (And.intro hblk1 (And.intro hva1 (And.intro hin1 (And.intro hbb (And.intro H.out.2.2.2.2.2.1 H.out.2.2.2.2.2.2)))))))
 clear hW1 hB1 hblk1 hva1 hin1 hbb c8 c9 c1 f1 HBD H hrun hmin
 generalize wd.setCell ⟨b,1,none⟩ (.slice A2 n2 c2)=w2 at *
 by_cases hlim:lim = -1
 ·have hq:(lim != -1)=false:=by simp[hlim]
  have HF:Hid (ms W0 b vars (gm off lim rows) [q0,q1,q2,q3,q4,q5,.int .i64 lim,.int .i64 off] 0 (.returned (.int .i64 0)) w2):=by
   refine⟨rfl,?_,H1.out.2.1⟩
   unfold gm
   rw[if_pos hlim,H1.out.2.2.2.2.2.2.1]
   exact H1.out.1
  clear hlim
  go_wp2
  go_ret
  exact HF.out
 ·have hq:(lim != -1)=true:=by simp[hlim]
  have hl0:0<=lim:=by omega
  obtain⟨m2,hm2,hm3,hmin2⟩:∃m2:Nat,m2<=n2/\(rows.drop m).take lim.toNat=(rows.drop m).take m2/\min lim (n2:Int)=(m2:Int):=by
   have hdn:=H1.out.2.2.2.2.2.2.2
   by_cases h:lim<=n2
   ·exact⟨lim.toNat,by omega,rfl,by omega⟩
   ·exact⟨n2,Nat.le_refl _,by rw[List.take_of_length_le (by omega),List.take_of_length_le (by omega)],by omega⟩
  have hrun2:=ky (P:=Tryz.prog) Tryz.underlying23 Tryz.sizeOf69 A2 c2 m2 n2 (by omega)
  have hcut:Hid (gm off lim rows=(rows.drop m).take m2):=by
   show _=_
   unfold gm
   rw[if_neg hlim,H1.out.2.2.2.2.2.2.1,hm3]
  have c8:=d8
  clear hlim hm3 d8
  go_wp2
  refine Rc.p0 (Two b b) (ce b b) [22] _ [(0,[0,1,2,3,4,5,6,7,8,9,10,11,12,13,14,15,16]),(1,[17]),(0,[18,19,20,21]),(2,[22])] ?_ (λa w h=>h)
  intro wd hbd hwz
  have hbk:=KeepT.below hbd _ _ _ H1.out.2.2.1
  have k1:∀p:Rc.LaterC (Two b b) wd,p.W.cell? ⟨b,1,none⟩=some (.slice A2 n2 c2):=λp=>by rw[World.cell?,p.h.1,hbk];rfl
  have k2:∀p:Rc.LaterC (Two b b) wd,p.W.cell? ⟨b,8,none⟩=some (.int .i64 lim):=λp=>by rw[World.cell?,p.h.1,hbk];rfl
  have k3:∀p:Rc.LaterC (Two b b) wd,p.W.cell? ⟨b,9,none⟩=some (.int .i64 off):=λp=>by rw[World.cell?,p.h.1,hbk];rfl
  have c1:wd.cell? ⟨b,1,none⟩=some (.slice A2 n2 c2):=k1 ⟨wd,(ce _ _).refl _⟩
  have f1:wd.frozen? ⟨b,1,none⟩=false:=Lib.frozen_of_heap hbk 1
  have HBD:=Lib.hid hbd
  clear hbk hbd hwz
  refine Rc.st_quiet ?_
  iterate 17 go_big_quiet_step (fail)
  refine wpQuiet_nil (Rc.st_one ?_)
  clear k1 k2 k3
  go_wp2
  refine⟨(ce _ _).refl _,Rc.st_quiet ?_⟩
  iterate 4 go_big_quiet_step (fail)
  refine wpQuiet_nil (Rc.st_free ?_)
  go_wp2
  refine Rc.st_done ?_
  have HF:Hid (ms W0 b vars (gm off lim rows) [q0,q1,q2,q3,q4,q5,.int .i64 lim,.int .i64 off] 0 (.returned (.int .i64 0)) (wd.setCell ⟨b,1,none⟩ (.slice A2 m2 c2))):=by
   refine⟨rfl,?_,(H1.out.2.1.trans (HBD.out.mono H1.out.2.1.size)).setCell (p:=⟨b,1,none⟩) H1.out.2.2.2.2.2.1 _⟩
   rw[hcut.out]
   exact pU H1.out.2.2.2.2.2.1 (KeepT.below HBD.out _ _ _ H1.out.2.2.1) (own_keep H1.out.2.2.2.1 (KeepT.below HBD.out)) ((H1.out.2.2.2.2.1.to hm2).keep (KeepT.below HBD.out) (KeepT.below HBD.out))
  clear c1 f1 HBD
  generalize wd.setCell ⟨b,1,none⟩ (.slice A2 m2 c2)=w3 at *
  go_wp2
  go_ret
  exact HF.out
theorem AM (vars:List ByteArray) (rows:List (List Tm)) (A B:Option Addr) (n c m d:Nat) (w:World) (hn:vars.length=n) (hm:rows.length=m) (hln:n<=1000000) (hlm:m<=1000000) (hnc:n<=c) (hv:Rd w A (vars.map Value.string)) (hr:RdRs w B rows) (hR:aw vars rows=false) :
  Calls Tryz.prog 67 #[.agg #[.slice A n c,.slice B m d]] w λe w'=>e=.returned (.tuple #[.pointer none,.int .i64 2])/\Below w.heap.size w w':=by
 have hb:Below w.heap.size w (w.alloc (.cells #[.slice A n c,.slice B m d] 25)):=blw
 have hRt:=lE vars rows A B n c m d _ hn hm (by omega) (by omega) hnc (hv.later hb) (hr.later hb)
 rw[hR]at hRt
 have HB:=Lib.hid hb
 clear hn hm hv hr hR hb
 go_enter Tryz.func67,Tryz.ntmps67
 go_wp2_with fail
 refine hRt.mono ?_
 rintro e w1 ⟨rfl,hb1⟩
 have HF:=Lib.hid (aa HB.out hb1)
 clear hb1 hRt
 go_wp2
 first
  | (go_ret2;exact⟨rfl,HF.out⟩)
  | (go_ret2;exact HF.out)
end Go.Proofs.YtjldjeenfnahoaaGreatDoor
