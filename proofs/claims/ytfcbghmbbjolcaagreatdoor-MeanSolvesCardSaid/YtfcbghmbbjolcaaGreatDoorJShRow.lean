/- The program's package mean, walked: from (the search, patter -/
import Derived.Test.YtfcbghmbbjolcaaGreatDoorJMn5
import Derived.Shelf.SlSortCmp.NoneTotal
set_option maxHeartbeats 16000000
set_option maxRecDepth 100000
namespace Go.Proofs.YtfcbghmbbjolcaaGreatDoor
open Go Go.RowKit Go.Maps Go.ChangeMaps Go.Shelf Um Fm Mt Tx Om Mv Mn
def oh (set:List Tp) (p:Pat) (ps:List Pat) (β:Bd) (ts:List Tp):List Bd:=ts.flatMap λt=>match b3 β p t with
 | none=>[]
 | some β'=>dfs set ps β'
theorem An {set:List Tp} {p:Pat} {ps:List Pat} {β:Bd} {i:Nat} {t:Tp} (h:set[i]?=some t):oh set p ps β (set.take (i+1))=oh set p ps β (set.take i)++(match b3 β p t with
  | none=>[]
  | some β'=>dfs set ps β'):=by
 unfold oh
 rw[ah h,List.flatMap_append,List.flatMap_cons,List.flatMap_nil,List.append_nil]
theorem pq {α β:Type} (f:α->List β) (l:List α) (i:Nat):((l.take i).flatMap f).length<=(l.flatMap f).length:=by
 conv=>rhs;rw[←List.take_append_drop i l]
 rw[List.flatMap_append,List.length_append];omega
theorem FQ {set:List Tp} {p:Pat} {ps:List Pat} {β:Bd} (i:Nat):(oh set p ps β (set.take i)).length<=(dfs set (p::ps) β).length:=by
 rw[dfs]
 unfold oh
 exact pq _ _ _
def GB {base B:Nat} (O:List (List Tm)->World->Prop) (K:World->Prop) (r:Nat) (β:Bd) (vars:List ByteArray) (pre:List (Yl base B)) (L:List Bd) (W:World) (e:Ending) (Y:World):Prop:=
 e=.returned (.bool true)/\∃xs:List (Yl base B),xs.map (·.row)=L.map (ej vars)/\O ((pre++xs).map (·.row)) Y/\K Y/\aY Y r (cg β)/\Sw base W Y
def JQ {base B:Nat} (O:List (List Tm)->World->Prop) (K:World->Prop) (r:Nat) (β:Bd) (vars:List ByteArray) (pre:List (Yl base B)) (L:Nat->List Bd) (ns:Nat) (W:World) (i:Value) (wr:World):Prop:=
 ∃(k:Nat) (xs:List (Yl base B)),k<=ns/\i=.int .i64 k/\xs.map (·.row)=(L k).map (ej vars)/\O ((pre++xs).map (·.row)) wr/\K wr/\aY wr r (cg β)/\Sw base W wr
section
variable {base B ab r b1 b2 b3' l m N:Nat} {As Ap Av:Option Addr} {ns cs np cp nv cv:Nat} {set:List Tp} {pats:List Pat} {vars:List ByteArray} {O:List (List Tm)->World->Prop} {K:World->Prop}
theorem Gr
  (hO:∀rows X Y,O rows X->X.grownBy Y (some r)->(∃f,aY Y r f)->O rows Y) (hK:∀X Y,K X->bO r X Y->K Y)
  (hY:∀pre x X,rU (base:=base) (B:=B) O N pre x X->K X->YieldAt Fence.wide m Tryz.prog l #[x.v] X λe Y=>e=.returned (.bool true)/\oH O pre x Y/\K Y)
  (hrB:r<B) (hnv:vars.length=nv) (hln:nv<=1000) (hns:set.length=ns) (hls:ns<=1000000) (hnp:pats.length=np) (hlp:np<=1000000) :
  ∀(ps:List Pat) (k:Nat),pats.drop k=ps->k<=np->∀(β:Bd) (W:World) (pre:List (Yl base B)),uU base ab r b1 b2 As Ap Av ns cs np cp nv cv set pats vars W->W.heap[b3']?=some (.cells #[.func (.yield l) #[] #[]] 84 (0,0)) ->
  aY W r (cg β)->pre.length+(dfs set ps β).length<=N->base<=W.heap.size->O (pre.map (·.row)) W->K W ->
  Calls Tryz.prog 101 #[.pointer (some ⟨ab,0,none⟩),.int .i64 k,.func (.func 102) #[] #[.pointer (some ⟨b1,0,none⟩),.pointer (some ⟨b2,0,none⟩),.pointer (some ⟨b3',0,none⟩)]] W (GB O K r β vars pre (dfs set ps β) W)
 | [],k,hd,hk,β,W,pre,E,h3,hM,hN,hbs,ho,hkk=>by
  obtain rfl:k=np:=by
   have:=List.drop_eq_nil_iff.1 hd
   omega
  have hcall:=I6 hO hK hY hrB hnv hln β W E h3 hM pre (by simp[dfs]at hN;omega) hbs ho hkk
  have a2:W.cell? ⟨ab,2,none⟩=some (.slice Ap k cp):=by rw[World.cell?,E.ask];rfl
  clear E h3 hM ho hkk
  go_enter Tryz.func101,Tryz.ntmps101
  go_wp2_with (go_at_call 102;refine hcall.mono ?_;rintro e Y ⟨rfl,x,hx,h1,h2,h3,h4⟩)
  go_ret
  exact⟨rfl,[x],by simp[dfs,hx],h1,h2,h3,h4⟩
 | p::ps,k,hd,hk,β,W,pre,E,h3,hM,hN,hbs,ho,hkk=>by
  have hlt:k<np:=by
   rcases Nat.lt_or_ge k np with h|h
   ·exact h
   ·rw[List.drop_eq_nil_of_le (by omega)]at hd;cases hd
  have hpk:pats[k]?=some p:=by
   have:=congrArg (λx=>x[0]?) hd
   simpa using this
  have hd2:pats.drop (k+1)=ps:=by rw[ai hpk]at hd;injection hd
  have ih:=Gr hO hK hY hrB hnv hln hns hls hnp hlp ps (k+1) hd2 (by omega)
  have hne:((k:Int) == (np:Int))=false:=by simp;omega
  have a2:W.cell? ⟨ab,2,none⟩=some (.slice Ap np cp):=by rw[World.cell?,E.ask];rfl
  have a1:W.cell? ⟨ab,1,none⟩=some (.slice As ns cs):=by rw[World.cell?,E.ask];rfl
  have H:=Lib.hid (And.intro E (And.intro h3 (And.intro hM (And.intro ho (And.intro hkk (And.intro hpk ih))))))
  clear E h3 hM ho hkk hpk ih hd hd2
  go_enter Tryz.func101,Tryz.ntmps101
  go_wp2
  go_loopw [8,9,10,11,26] (λ_ _ _ _ i wr=>JQ O K r β vars pre (λk=>oh set p ps β (set.take k)) ns W i wr) (λ_ _ _ _ i _=>ns-(intOf i).toNat)
  case atStart=>exact⟨0,[],by omega,rfl,by simp[oh],by simpa using H.out.2.2.2.1,H.out.2.2.2.2.1,H.out.2.2.1,Sw.refl _ _⟩
  case round =>
   obtain⟨i,xs,hi,rfl,hxs,ho,hkk,hM,hw⟩:=hrel
   replace hxs:xs.map (·.row)=(oh set p ps β (set.take i)).map (ej vars):=hxs
   by_cases hlt2:i<ns
   ·obtain⟨t,ht⟩:∃t,set[i]?=some t:=⟨_,List.getElem?_eq_getElem (by omega)⟩
    obtain⟨E,h3,hM0,_,_,hpk,ih⟩:=H.out
    have Ew:=E.keep hw
    have h3w:=hw.at_ h3 (by decide) (by decide)
    obtain⟨g,o,rfl,c0,c1,c2,c3,c4,c5,c6,c7,c8,c9,c10,c11⟩:=f7 Ew.set.of_wo ht
    obtain⟨g2,o2,cs2,rfl,_,rfl,hx⟩:=(RdL.cm Ew.pats (λ_ _ x=>(aV.1 x).1) (λ_ _ _ h=>h)).at_ (by omega) hpk
    obtain⟨W4,hW4⟩:∃V:World,wr.alloc (.cells #[.int .i64 t.s.k,.string t.s.x,.string t.s.l,.string t.s.y,.int .i64 t.p.k,.string t.p.x,.string t.p.l,.string t.p.y,.int .i64 t.o.k,.string t.o.x,.string t.o.l,.string t.o.y] 64)=V:=⟨_,rfl⟩
    have hb4:Below wr.heap.size wr W4:=by rw[←hW4];exact blw
    have hk4:W4.heap[wr.heap.size]?=some (.cells #[.int .i64 t.s.k,.string t.s.x,.string t.s.l,.string t.s.y,.int .i64 t.p.k,.string t.p.x,.string t.p.l,.string t.p.y,.int .i64 t.o.k,.string t.o.x,.string t.o.l,.string t.o.y] 64 (0,0)):=by rw[←hW4];exact heap_alloc_new _ _
    have s0:∀(j:Nat) (v:Value),#[Value.int .i64 t.s.k,.string t.s.x,.string t.s.l,.string t.s.y,.int .i64 t.p.k,.string t.p.x,.string t.p.l,.string t.p.y,.int .i64 t.o.k,.string t.o.x,.string t.o.l,.string t.o.y][j]?=some v->W4.cell? ⟨wr.heap.size,j,none⟩=some v:=λj v h=>by rw[World.cell?,hk4];simpa using h
    have e2:W4.cell? ⟨ab,2,none⟩=some (.slice (some ⟨g2,o2,none⟩) np cp):=ac (by rw[World.cell?,Ew.ask];rfl) hb4
    have e0:W4.cell? ⟨ab,0,none⟩=some (.map (some r)):=ac (by rw[World.cell?,Ew.ask];rfl) hb4
    have hM4:=hM.on hb4
    have hcall:∀wd,Below W4.heap.size W4 wd->Calls Tryz.prog 151 _ wd (yl r β p t wd):=λwd h=>Fs ab r β p t wd (hM4.on h) (ac e0 h)
    have hstep:=An (p:=p) (ps:=ps) (β:=β) ht
    have hle:=FQ (set:=set) (p:=p) (ps:=ps) (β:=β) (i+1)
    have HX:=Lib.hid (And.intro hxs (And.intro ho (And.intro hkk (And.intro hM (And.intro hw (And.intro Ew (And.intro h3w (And.intro hb4 (And.intro ih (And.intro hstep (And.intro hle hM4)))))))))))
    have hp:∀(j:Nat) (u:Value),(cPat p)[j]?=some u->W4.cell? ⟨g2,o2+k*15+j,none⟩=some u:=λj u h=>ac (hx j u h) hb4
    clear hxs ho hkk hM hw Ew h3w hb4 ih hstep hle hM4 E h3 hM0 hpk hk4 hx ht
    go_wp2
    clear c0 c1 c2 c3 c4 c5 c6 c7 c8 c9 c10 c11
    refine Rs.p0 W4.heap.size [9] _ [(3,[0,1,5]),(0,[2,3,4,6,7,8]),(2,[9]),(3,[10,11,12,13,14])] ?_ (λa w h=>h)
    intro wd hbd hwz
    have y0:=cellL e2 hbd
    have z0:=cellL (s0 0 _ rfl) hbd
    have z1:=cellL (s0 1 _ rfl) hbd
    have z2:=cellL (s0 2 _ rfl) hbd
    have z3:=cellL (s0 3 _ rfl) hbd
    have z4:=cellL (s0 4 _ rfl) hbd
    have z5:=cellL (s0 5 _ rfl) hbd
    have z6:=cellL (s0 6 _ rfl) hbd
    have z7:=cellL (s0 7 _ rfl) hbd
    have z8:=cellL (s0 8 _ rfl) hbd
    have z9:=cellL (s0 9 _ rfl) hbd
    have z10:=cellL (s0 10 _ rfl) hbd
    have z11:=cellL (s0 11 _ rfl) hbd
    have q0:W4.cell? ⟨g2,o2+k*15,none⟩=some (.string p.s.v):=hp 0 _ rfl
    have p0:=cellL q0 hbd
    have p1:=cellL (hp 1 _ rfl) hbd
    have p2:=cellL (hp 2 _ rfl) hbd
    have p3:=cellL (hp 3 _ rfl) hbd
    have p4:=cellL (hp 4 _ rfl) hbd
    have p5:=cellL (hp 5 _ rfl) hbd
    have p6:=cellL (hp 6 _ rfl) hbd
    have p7:=cellL (hp 7 _ rfl) hbd
    have p8:=cellL (hp 8 _ rfl) hbd
    have p9:=cellL (hp 9 _ rfl) hbd
    have p10:=cellL (hp 10 _ rfl) hbd
    have p11:=cellL (hp 11 _ rfl) hbd
    have p12:=cellL (hp 12 _ rfl) hbd
    have p13:=cellL (hp 13 _ rfl) hbd
    have p14:=cellL (hp 14 _ rfl) hbd
    have HBD:=Lib.hid hbd
    clear hwz e2 s0 hp hbd hW4 q0
    refine Rs.st_pure ?_
    iterate 3 go_big_quiet_step (fail)
    refine wpQuiet_nil (Rs.st_quiet ?_)
    iterate 6 go_big_quiet_step (fail)
    refine wpQuiet_nil (Rs.st_free ?_)
    clear y0 z0 z1 z2 z3 z4 z5 z6 z7 z8 z9 z10 z11 p0 p1 p2 p3 p4 p5 p6 p7 p8 p9 p10 p11 p12 p13 p14
    go_wp2_with (go_at_call 151;refine(hcall wd HBD.out).mono ?_;rintro e w5 ⟨v,fr,γ,rfl,own,hM5,hg5,hu,hfr,heq⟩)
    obtain⟨A5,c5,rfl,_,hrd5⟩:=own_slice own
    refine⟨⟨hg5.os,hg5.tape,hg5.output,hg5.size,λ_ h=>absurd h (Nat.not_lt_zero _)⟩,Rs.st_pure ?_⟩
    iterate 5 go_big_quiet_step (fail)
    refine wpQuiet_nil (Rs.st_done ?_)
    have hgt:wr.grownBy w5 (some r):=bo (aC (aa HX.out.2.2.2.2.2.2.2.1 HBD.out)) hg5
    have hfl:fr.length<=1000000:=by omega
    obtain⟨hxs,ho,hkk,hM,hw,Ew,h3w,hb4,ih,hstep,hle,hM4⟩:=HX.out
    have e5:w5.cell? ⟨ab,0,none⟩=some (.map (some r)):=dR hM (by rw[World.cell?,Ew.ask];rfl) hgt
    cases hb:b3 β p t with
    | none =>
     simp only[Option.isSome_none]
     rw[hb]at hstep
     have hloose:=CP r γ fr A5 c5 fr.length w5 rfl hfl hM5 hrd5
     have HZ:=Lib.hid (And.intro hxs (And.intro ho (And.intro hkk (And.intro hM (And.intro hw (And.intro hgt (And.intro hu hstep)))))))
     clear hxs ho hkk hM hw Ew h3w hb4 ih hstep hle hM4 hgt hu heq hb own hrd5 hM5 hg5 hcall e0
     go_wp2_with (go_at_call 152;refine hloose.mono ?_;rintro e w6 ⟨⟨v6,rfl⟩,hM6,hg6⟩)
     go_roundw
     case rel =>
      obtain⟨hxs,ho,hkk,hM,hw,hgt,hu,hstep⟩:=HZ.out
      have hg:=bo hgt hg6
      exact⟨i+1,xs,by omega,by go_num,by show _=(oh set p ps β (set.take (i+1))).map (ej vars);rw[hstep,List.append_nil];exact hxs,hO _ _ _ ho hg ⟨_,hM6⟩,hK _ _ hkk (bO.grown hg),by rw[show ji γ fr=β from hu]at hM6;exact hM6,hw.trans (Sw.grown hM hg)⟩
     case measure=>simp[intOf];omega
    | some γ' =>
     obtain rfl:=heq γ' hb
     simp only[Option.isSome_some]
     rw[hb]at hstep
     simp only at hstep
     have hsw5:Sw base wr w5:=Sw.grown hM hgt
     have hN2:(pre++xs).length+(dfs set ps γ).length<=N:=by
      have h1:xs.length=(oh set p ps β (set.take i)).length:=by simpa using congrArg List.length hxs
      rw[hstep,List.length_append]at hle
      rw[List.length_append];omega
     have hrec:=ih γ w5 (pre++xs) (Ew.keep hsw5) (hsw5.at_ h3w (by decide) (by decide)) hM5 hN2 (Nat.le_trans hbs (hw.trans hsw5).1) (hO _ _ _ ho hgt ⟨_,hM5⟩) (hK _ _ hkk (bO.grown hgt))
     have HA:Hid (w5.heap[ab]?=_):=hsw5.at_ Ew.ask (by decide) (by decide)
     have HZ:=Lib.hid (And.intro hxs (And.intro (hw.trans hsw5) (And.intro hu hstep)))
     have HW:=Lib.hid own
     clear hxs ho hkk hM hw Ew h3w hb4 ih hstep hle hM4 hgt hu heq hb own hrd5 hM5 hg5 hcall e0 hN2 hsw5
     go_wp2_with (first
      | (go_at_call 101;refine hrec.mono ?_;rintro e w6 ⟨rfl,ys,hys,ho6,hk6,hM6,hw6⟩;have a6:=hw6.at_ HA.out (by decide) (by decide);have e6:w6.cell? ⟨ab,0,none⟩=some (.map (some r)):=(by rw[World.cell?,a6];rfl);clear a6;have own6:=own_keep HW.out (hw6.keepT (by decide) (by decide));obtain⟨A6,c6,ea,_,hrd6⟩:=own_slice own6;injection ea with ea1 ea2 ea3;subst ea1;subst ea3;have hloose:=CP r γ fr A5 c5 fr.length w6 rfl hfl hM6 hrd6;clear own6 hrd6 ea2)
      | (go_at_call 152;refine hloose.mono ?_;rintro e w7 ⟨⟨v7,rfl⟩,hM7,hg7⟩))
     go_roundw
     case rel =>
      obtain⟨hxs,hw,hu,hstep⟩:=HZ.out
      exact⟨i+1,xs++ys,by omega,by go_num,by show _=(oh set p ps β (set.take (i+1))).map (ej vars);rw[hstep,List.map_append,List.map_append,hxs,hys],by rw[←List.append_assoc];exact hO _ _ _ ho6 hg7 ⟨_,hM7⟩,hK _ _ hk6 (bO.grown hg7),by rw[show ji γ fr=β from hu]at hM7;exact hM7,(hw.trans hw6).trans (Sw.grown hM6 hg7)⟩
     case measure=>simp[intOf];omega
   ·obtain rfl:i=ns:=by omega
    have hfull:set.take i=set:=List.take_of_length_le (by omega)
    rw[hfull]at hxs
    have HR:Hid (GB O K r β vars pre (dfs set (p::ps) β) W (.returned (.bool true)) wr):=⟨rfl,xs,hxs,ho,hkk,hM,hw⟩
    clear hxs ho hkk hM hw H
    go_wp2
    go_ret
    exact HR.out
end
theorem Jj {base B ab r b1 b2 l m N:Nat} {As Ap Av:Option Addr} {ns cs np cp nv cv:Nat} {set:List Tp} {pats:List Pat} {vars:List ByteArray} {O:List (List Tm)->World->Prop} {K:World->Prop}
  (hO:∀rows X Y,O rows X->X.grownBy Y (some r)->(∃f,aY Y r f)->O rows Y) (hK:∀X Y,K X->bO r X Y->K Y)
  (hY:∀pre x X,rU (base:=base) (B:=B) O N pre x X->K X->YieldAt Fence.wide m Tryz.prog l #[x.v] X λe Y=>e=.returned (.bool true)/\oH O pre x Y/\K Y)
  (hrB:r<B) (hnv:vars.length=nv) (hln:nv<=1000) (hns:set.length=ns) (hls:ns<=1000000) (hnp:pats.length=np) (hlp:np<=1000000) (hN:(dfs set pats noB).length<=N)
  (W:World) (E:uU base ab r b1 b2 As Ap Av ns cs np cp nv cv set pats vars W) (hM:aY W r (cg noB)) (hbs:base<=W.heap.size) (ho:O [] W) (hk:K W) :
  Calls Tryz.prog 100 #[.func (.yield l) #[] #[],.pointer (some ⟨b2,0,none⟩),.pointer (some ⟨b1,0,none⟩)] W λe Y =>
   (∃v,e=.returned v)/\∃xs:List (Yl base B),xs.map (·.row)=(dfs set pats noB).map (ej vars)/\O (xs.map (·.row)) Y/\K Y/\aY Y r (cg noB)/\Sw base W Y:=by
 obtain⟨V,hV⟩:∃V:World,W.alloc (.cells #[.func (.yield l) #[] #[]] 84)=V:=⟨_,rfl⟩
 have hb:Below W.heap.size W V:=by rw[←hV];exact blw
 have hcall:=Gr (b3':=W.heap.size) hO hK hY hrB hnv hln hns hls hnp hlp pats 0 rfl (by omega) noB V [] (E.keep (Sw.below hb)) (by rw[←hV];exact heap_alloc_new _ _) (hM.on hb) (by simpa using hN) (Nat.le_trans hbs hb.size) (hO _ _ _ ho (aC hb) ⟨_,hM.on hb⟩) (hK _ _ hk (bO.grown (aC hb)))
 have a2:W.cell? ⟨b2,0,none⟩=some (.pointer (some ⟨ab,0,none⟩)):=by rw[World.cell?,E.bx2];rfl
 have hlt:=ag a2
 simp only at hlt
 have HS:Hid (Sw base W V):=Sw.below hb
 clear E hM ho hk hb
 subst hV
 go_enter Tryz.func100,Tryz.ntmps100
 go_wp2_with (go_at_call 101;refine hcall.mono ?_;rintro e Y ⟨rfl,xs,hxs,ho,hk,hM,hs⟩)
 go_end0
 exact⟨⟨_,rfl⟩,xs,hxs,by simpa using ho,hk,hM,HS.out.trans hs⟩
def m9 (w:World) (r:Nat) (rows:List (List Tm)) (X:World):Prop:=
 (∃v,X.heap[w.heap.size]?=some (.cells #[v] 35 (0,0))/\OwnRs w.heap.size X v rows)/\Below w.heap.size w X/\∃f,aY X r f
theorem m9.on {w:World} {r:Nat} {rows:List (List Tm)} {X Y:World} (h:m9 w r rows X) (hr:w.heap.size<=r) (hg:X.grownBy Y (some r)) (hf:∃f,aY Y r f):m9 w r rows Y:=by
 obtain⟨⟨v,h1,h2⟩,h3,f,hM⟩:=h
 exact⟨⟨v,KeepT.grownM hM hg _ _ _ _ h1,h2.keep (KeepT.grownM hM hg _) (KeepT.grownM hM hg _)⟩,h3.grown hg h3.size (λk e=>by injection e with e;omega),hf⟩
theorem fJ {B:Nat} {X Y:World} {row:Option Nat} (hg:X.grownBy Y row) (hr:∀q,row=some q->B<=q/\∃o:Obj,X.heap[q]?=some o/\o.isCells=false):(∀base,Sv base B X Y)/\∀e,KeepT e X Y:=by
 refine⟨λbase=>⟨hg.size,λk o hk _ hor=>?_⟩,λe k cur fr hk=>?_⟩
 ·rw[hg.block k (Array.getElem?_eq_some_iff.1 hk).1 (λe=>?_)];exact hk
  obtain⟨h1,o',h2,h3⟩:=hr k e.symm
  rcases hor with h|h
  ·omega
  ·rw[hk]at h2;injection h2 with h2;subst h2;rw[h]at h3;cases h3
 ·rw[hg.block k (Array.getElem?_eq_some_iff.1 hk).1 (λe=>?_)];exact hk
  obtain⟨_,o',h2,h3⟩:=hr k e.symm
  rw[hk]at h2;injection h2 with h2;subst h2;cases h3
theorem m9.far {w:World} {r B:Nat} {rows:List (List Tm)} {X Y:World} {row:Option Nat} (h:m9 w r rows X) (hrB:r<B) (hB:w.heap.size<=B) (hg:X.grownBy Y row) (hr:∀q,row=some q->B<=q/\∃o:Obj,X.heap[q]?=some o/\o.isCells=false):m9 w r rows Y:=by
 obtain⟨⟨v,h1,h2⟩,h3,f,hM⟩:=h
 obtain⟨hs,hk⟩:=fJ hg hr
 exact⟨⟨v,hk _ _ _ _ h1,h2.keep (hk _) (hk _)⟩,h3.grown hg h3.size (λk e=>by have:=(hr k e).1;omega),f,(hs 0).fd hM hrB⟩
end Go.Proofs.YtfcbghmbbjolcaaGreatDoor
namespace Go.Proofs
open Go.Shelf
def iE:Go.Shelf.Ren:=⟨fun|6=>51|15=>104|14=>103|28=>161|29=>162|20=>153|21=>154|22=>155|23=>156|24=>157|25=>158|26=>159|27=>160|46=>215|47=>216|48=>217|49=>218|50=>219|57=>258|n=>n,fun|22=>35|24=>58|25=>102|3=>3|39=>161|0=>0|53=>210|55=>212|4=>4|46=>203|45=>202|50=>207|5=>5|9=>9|66=>255|70=>259|76=>288|77=>289|n=>n,fun|n=>n⟩
theorem gi:Go.Proofs.SlLaysF.n6 Tryz.prog iE:={
 mixed:=by kernel_rfl
 f6:=⟨Tryz.f51.name,by decide,Tryz.func51.trans (congrArg some (by kernel_rfl))⟩
 f14:=⟨Tryz.f103.name,by decide,Tryz.func103.trans (congrArg some (by kernel_rfl))⟩
 f15:=Tryz.func104.trans (congrArg some (by kernel_rfl))
 f20:=⟨Tryz.f153.name,by decide,Tryz.func153.trans (congrArg some (by kernel_rfl))⟩
 f21:=⟨Tryz.f154.name,by decide,Tryz.func154.trans (congrArg some (by kernel_rfl))⟩
 f22:=⟨Tryz.f155.name,by decide,Tryz.func155.trans (congrArg some (by kernel_rfl))⟩
 f23:=⟨Tryz.f156.name,by decide,Tryz.func156.trans (congrArg some (by kernel_rfl))⟩
 f24:=⟨Tryz.f157.name,by decide,Tryz.func157.trans (congrArg some (by kernel_rfl))⟩
 f25:=⟨Tryz.f158.name,by decide,Tryz.func158.trans (congrArg some (by kernel_rfl))⟩
 f26:=⟨Tryz.f159.name,by decide,Tryz.func159.trans (congrArg some (by kernel_rfl))⟩
 f27:=⟨Tryz.f160.name,by decide,Tryz.func160.trans (congrArg some (by kernel_rfl))⟩
 f28:=Tryz.func161.trans (congrArg some (by kernel_rfl))
 f29:=Tryz.func162.trans (congrArg some (by kernel_rfl))
 f46:=⟨Tryz.f215.name,by decide,Tryz.func215.trans (congrArg some (by kernel_rfl))⟩
 f47:=Tryz.func216.trans (congrArg some (by kernel_rfl))
 f48:=Tryz.func217.trans (congrArg some (by kernel_rfl))
 f49:=⟨Tryz.f218.name,by decide,Tryz.func218.trans (congrArg some (by kernel_rfl))⟩
 f50:=⟨Tryz.f219.name,by decide,Tryz.func219.trans (congrArg some (by kernel_rfl))⟩
 f57:=⟨Tryz.f258.name,by decide,Tryz.func258.trans (congrArg some (by kernel_rfl))⟩
 t0:=Tryz.underlying0
 a0:=Tryz.isAgg0
 z0:=Tryz.sizeOf0
 v0:=Tryz.zeroValue0
 t3:=Tryz.underlying3
 a3:=Tryz.isAgg3
 z3:=Tryz.sizeOf3
 v3:=Tryz.zeroValue3
 t4:=Tryz.underlying4
 a4:=Tryz.isAgg4
 z4:=Tryz.sizeOf4
 v4:=Tryz.zeroValue4
 t5:=Tryz.underlying5
 a5:=Tryz.isAgg5
 z5:=Tryz.sizeOf5
 v5:=Tryz.zeroValue5
 t9:=Tryz.underlying9
 a9:=Tryz.isAgg9
 z9:=Tryz.sizeOf9
 v9:=Tryz.zeroValue9
 t22:=Tryz.underlying35
 a22:=Tryz.isAgg35
 z22:=Tryz.sizeOf35
 v22:=Tryz.zeroValue35
 a24:=Tryz.isAgg58
 z24:=Tryz.sizeOf58
 t25:=Tryz.underlying102
 a25:=Tryz.isAgg102
 z25:=Tryz.sizeOf102
 v25:=Tryz.zeroValue102
 t39:=Tryz.underlying161
 a39:=Tryz.isAgg161
 z39:=Tryz.sizeOf161
 v39:=Tryz.zeroValue161
 t45:=Tryz.underlying202
 a45:=Tryz.isAgg202
 z45:=Tryz.sizeOf202
 v45:=Tryz.zeroValue202
 t46:=Tryz.underlying203
 a46:=Tryz.isAgg203
 z46:=Tryz.sizeOf203
 v46:=Tryz.zeroValue203
 t50:=Tryz.underlying207
 a50:=Tryz.isAgg207
 z50:=Tryz.sizeOf207
 v50:=Tryz.zeroValue207
 t53:=Tryz.underlying210
 a53:=Tryz.isAgg210
 z53:=Tryz.sizeOf210
 v53:=Tryz.zeroValue210
 t55:=Tryz.underlying212
 a55:=Tryz.isAgg212
 z55:=Tryz.sizeOf212
 v55:=Tryz.zeroValue212
 t66:=Tryz.underlying255
 a66:=Tryz.isAgg255
 z66:=Tryz.sizeOf255
 v66:=Tryz.zeroValue255
 t70:=Tryz.underlying259
 a70:=Tryz.isAgg259
 z70:=Tryz.sizeOf259
 v70:=Tryz.zeroValue259
 t76:=Tryz.underlying288
 a76:=Tryz.isAgg288
 z76:=Tryz.sizeOf288
 v76:=Tryz.zeroValue288
 t77:=Tryz.underlying289
 a77:=Tryz.isAgg289
 z77:=Tryz.sizeOf289
 v77:=Tryz.zeroValue289}
end Go.Proofs
namespace Go.Proofs.YtfcbghmbbjolcaaGreatDoor
open Go Go.RowKit Um Fm Mt Tx Om Mp
theorem zo {α:Type} [Inhabited α] {enc:α->Value} {w w':World} {g off:Nat} {D:Array α} {cur:Array Value} {T:TypeId} {fr:Nat × Nat} (h:w.heap[g]?=some (.cells cur T fr)) (S:SW enc w g off D w'):KeepsOthers w w':=by
 obtain⟨n,os,rfl⟩:=S
 refine⟨by unfold sortWorld Sort.grow Sort.putRow Sort.mapBlock Sort.ahead;simp,λk o x hc=>?_⟩
 have hk:k<w.heap.size:=(Array.getElem?_eq_some_iff.1 x).1
 unfold sortWorld Sort.grow Sort.putRow Sort.mapBlock Sort.ahead
 simp only[Array.getElem?_append,Array.size_modify]
 rw[if_pos hk,Array.getElem?_modify]
 split
 ·rename_i e1
  subst e1
  rw[h]at x
  injection x with x
  subst x;cases hc
 ·exact x
theorem I2 (W0:World) (hC:cD W0) (nv n:Nat) (v:Value) (rows:List (List Tm)) (w:World) (hB:Below W0.heap.size W0 w) (hO:OwnRs W0.heap.size w v rows) (hn:rows.length=n) (hl:n<=1000000) (hz:∀r∈rows,aN r) (hw:∀r∈rows,r.length=nv) :
  Calls Tryz.prog 51 #[v,.func (.func 52) #[] #[]] w λe w'=>e=.returned (.tuple #[])/\Below W0.heap.size W0 w'/\(∀e,58≠e->KeepT e w w')/\OwnRs W0.heap.size w' v (fB [] rows)/\KeepsOthers w w':=by
 have eg:∀args w,(callFunc 52 args).run Tryz.prog w=.ok (.enter 52 args) w:=enters_of Tryz.func52 (by kernel_rfl) rfl
 obtain⟨xs,own,hA⟩:=hO
 by_cases h0:0<n
 ·rw[hn]at own
  rcases eM.of_own own with ⟨_,e2,_⟩|⟨g,cap,rest,rfl,hg,hV,hc1,hc2,hc3,hc4⟩
  ·omega
  obtain⟨d,rfl,rfl⟩:=vu hA hz hw
  have hdn:d.length=n:=by simpa using hn
  have hne:0<d.length:=by omega
  letI:Inhabited (SR W0.heap.size w nv):=⟨d[0]⟩
  have hV':eM g (d.toArray.toList.map encR) rest w:=hV
  have hO:OneCell (encR (base:=W0.heap.size) (w:=w) (nv:=nv)):=λx=>by
   obtain⟨v,h1,h2⟩:=x.2.1
   injection h1 with h1
   obtain⟨A,c,rfl,_⟩:=own_slice h2
   show x.1.1.oneCell'=true
   rw[h1];rfl
  have hcmp:CmpLays1 Tryz.prog 52 #[] encR (cfR (base:=W0.heap.size) (w:=w) (nv:=nv) []) g 0 d.toArray.size w:=by
   intro m os dk hs x y
   have S:SW encR w g 0 dk (sortWorld encR w g 0 m dk os):=⟨m,os,rfl⟩
   generalize sortWorld encR w g 0 m dk os=W at S ⊢
   have hb:Below W0.heap.size W0 W:=hB.trans (jZ hg hB.size S)
   have hk:∀e,58≠e->KeepT e w W:=λe he=>ml hV S he
   obtain⟨A,c,e1,_,hx⟩:=(x.2.1.keep (hk _ (by decide))).rd
   obtain⟨B,c2,e2,_,hy⟩:=(y.2.1.keep (hk _ (by decide))).rd
   injection e1 with e1 _
   injection e2 with e2 _
   show Calls _ _ (#[x.1.1,y.1.1]++_) W _
   rw[e1,e2]
   exact jm (qm x.1.2 y.1.2 A B c c2 _ _ W rfl rfl (hC.step hb) hx hy x.2.2.1 y.2.2.1)
  have hT:=Any.slices_SortFunc (P:=Tryz.prog) gi encR hO (cfR (base:=W0.heap.size) (w:=w) (nv:=nv) []) (J2 _) 52 #[] g 0 cap d.toArray w eg hcmp hV'.holds hV.lt (by simp;omega)
  have hsz:d.toArray.size=n:=by simpa using hdn
  rw[hsz]at hT
  refine hT.mono ?_
  rintro e w' ⟨rfl,D,m,os,hp,hs,hw'⟩
  have S:SW encR w g 0 D w':=⟨m,os,hw'⟩
  have hk:∀e,58≠e->KeepT e w w':=λe he=>ml hV S he
  rw[←hdn]at hp hs
  have hDn:(D.toList.map λx=>x.1.1).length=n:=by have:=hp.1;simp at this ⊢;omega
  refine⟨rfl,hB.trans (jZ hg hB.size S),hk,⟨D.toList.map (·.1.1),?_,?_⟩,zo hV S⟩
  ·rw[←i7 _ d D hp hs,List.length_map]
   have hDl:D.toList.length=n:=by simpa using hDn
   rw[hDl]
   exact eM.own (hV'.sw hp.1 S) hg hDn hc4 hc2
  ·rw[←i7 _ d D hp hs]
   exact(xe D.toList).mono λ_ _ _ h=>h.keep (hk _ (by decide))
 ·have hr:rows=[]:=List.eq_nil_of_length_eq_zero (by omega)
  subst hr
  obtain⟨A,c,rfl,_,_⟩:=own_slice own
  refine(AnyF.slices_SortFunc_none (P:=Tryz.prog) {gi with} A c _ w).mono ?_
  rintro e w' ⟨rfl,rfl⟩
  have hs:fB [] ([]:List (List Tm))=[]:=by simp[fB]
  rw[hs]
  exact⟨rfl,hB,λ_ _ _ _ _ h=>h,⟨xs,own,hA⟩,KeepsOthers.refl _⟩
theorem kv {base:Nat} {w V w6:World} {v v' x:Value} {xs:List Value} {rows:List (List Tm)} {row:List Tm} (own:w.ownsRow base 58 1 v rows.length xs) (hall:All 1 (OwnRow base w) xs rows) (hb:Below w.heap.size w V) (hrow:OwnRow base V [x] row) (own6:w6.ownsRow base 58 1 v' (rows.length+1) (xs++[x])) (hg6:V.grownBy w6 v.ownBlock):OwnRs base w6 v' (rows++[row]):=by
 have own2:=own_below own hb (Nat.le_refl _)
 have k5:∀e,58≠e->KeepT e V w6:=λe he=>KeepT.grown hg6 (own_blockR own2) he
 exact⟨xs++[x],by rw[List.length_append];exact own6,(hall.mono λ_ _ _ h=>(h.keep (KeepT.below hb)).keep (k5 _ (by decide))).append (All.one rfl (hrow.keep (k5 _ (by decide))))⟩
theorem CB (W0:World) (hC:cD W0) (vars:List ByteArray) (keys:List Ky) (tb qb nv cv no co n:Nat) (Av Ao:Option Addr) (v:Value) (rows:List (List Tm)) (cq:Array Value) (w:World) (hB:Below W0.heap.size W0 w) (hO:OwnRs W0.heap.size w v rows) (hn:rows.length=n) (hl:n<=1000000) (hz:∀r∈rows,aN r) (hw:∀r∈rows,r.length=nv) (hnv:vars.length=nv) (hks:keys.length=no) (hlo:no<=1000000) (hlv:nv<=1000000)
  (hpl:∀p∈ax vars (keys.map (·.v)),0<=p/\p<nv) (hv:Rd W0 Av (vars.map Value.string)) (hky:eN W0 Ao keys) (htb:w.heap[tb]?=some (Obj.cells #[.slice Av nv cv] 138 (0,0))) (hqb:w.heap[qb]?=some (Obj.cells cq 28 (0,0))) (h5:cq[5]?=some (.slice Ao no co)) :
  Calls Tryz.prog 76 #[v,.func (.func 77) #[] #[.pointer (some ⟨tb,0,none⟩),.pointer (some ⟨qb,0,none⟩)]] w λe w'=>e=.returned (.tuple #[])/\Below W0.heap.size W0 w'/\(∀e,58≠e->KeepT e w w')/\OwnRs W0.heap.size w' v (fB (cY (ax vars (keys.map (·.v))) keys) rows):=by
 have eg:∀args w,(callFunc 77 args).run Tryz.prog w=.ok (.enter 77 args) w:=enters_of Tryz.func77 (by kernel_rfl) rfl
 obtain⟨xs,own,hA⟩:=hO
 by_cases h0:0<n
 ·rw[hn]at own
  rcases eM.of_own own with ⟨_,e2,_⟩|⟨g,cap,rest,rfl,hg,hV,hc1,hc2,hc3,hc4⟩
  ·omega
  obtain⟨d,rfl,rfl⟩:=vu hA hz hw
  have hdn:d.length=n:=by simpa using hn
  have hne:0<d.length:=by omega
  letI:Inhabited (SR W0.heap.size w nv):=⟨d[0]⟩
  have hV':eM g (d.toArray.toList.map encR) rest w:=hV
  have hO:OneCell (encR (base:=W0.heap.size) (w:=w) (nv:=nv)):=λx=>by
   obtain⟨v,h1,h2⟩:=x.2.1
   injection h1 with h1
   obtain⟨A,c,rfl,_⟩:=own_slice h2
   show x.1.1.oneCell'=true
   rw[h1];rfl
  have hcmp:CmpLays1 Tryz.prog 77 #[.pointer (some ⟨tb,0,none⟩),.pointer (some ⟨qb,0,none⟩)] encR (cfR (base:=W0.heap.size) (w:=w) (nv:=nv) (cY (ax vars (keys.map (·.v))) keys)) g 0 d.toArray.size w:=by
   intro m os dk hs x y
   have S:SW encR w g 0 dk (sortWorld encR w g 0 m dk os):=⟨m,os,rfl⟩
   generalize sortWorld encR w g 0 m dk os=W at S ⊢
   have hb:Below W0.heap.size W0 W:=hB.trans (jZ hg hB.size S)
   have hk:∀e,58≠e->KeepT e w W:=λe he=>ml hV S he
   obtain⟨A,c,e1,_,hx⟩:=(x.2.1.keep (hk _ (by decide))).rd
   obtain⟨B,c2,e2,_,hy⟩:=(y.2.1.keep (hk _ (by decide))).rd
   injection e1 with e1 _
   injection e2 with e2 _
   have hxn:=x.2.2.2
   have hyn:=y.2.2.2
   rw[hxn]at e1
   rw[hyn]at e2
   show Calls _ _ (#[x.1.1,y.1.1]++_) W _
   rw[e1,e2]
   have k1:=hk _ (by decide) _ _ _ htb
   have k2:=hk _ (by decide) _ _ _ hqb
   exact jm (zC x.1.2 y.1.2 vars keys nv c nv cv c2 no co tb qb A B Av Ao W hnv hxn hyn hks hlo hlv hpl (hC.step hb) hx hy x.2.2.1 y.2.2.1 (hv.later hb) (RdL.mono hky hb (λ_ _ _ h=>h)) (by rw[World.cell?,k1];rfl) (by rw[World.cell?,k2];exact h5))
  have H:so encR (cfR (base:=W0.heap.size) (w:=w) (nv:=nv) (cY (ax vars (keys.map (·.v))) keys)) 77 #[.pointer (some ⟨tb,0,none⟩),.pointer (some ⟨qb,0,none⟩)] g 0 d.toArray w:=
   {hO:=J2 _,eg:=eg,hcmp:=hcmp,R:=⟨hO,hV'.holds,hV.lt⟩,hsz:=by simp;omega}
  refine(vA encR _ _ _ g 0 cap n d.toArray w H (by simpa using hdn)).mono ?_
  rintro e w' ⟨rfl,D,S,hp,hs⟩
  have hk:∀e,58≠e->KeepT e w w':=λe he=>ml hV S he
  rw[←hdn]at hp hs
  have hDn:(D.toList.map λx=>x.1.1).length=n:=by have:=hp.1;simp at this ⊢;omega
  refine⟨rfl,hB.trans (jZ hg hB.size S),hk,D.toList.map (·.1.1),?_,?_⟩
  ·rw[←i7 _ d D hp hs,List.length_map]
   have hDl:D.toList.length=n:=by simpa using hDn
   rw[hDl]
   exact eM.own (hV'.sw hp.1 S) hg hDn hc4 hc2
  ·rw[←i7 _ d D hp hs]
   exact(xe D.toList).mono λ_ _ _ h=>h.keep (hk _ (by decide))
 ·have hr:rows=[]:=List.eq_nil_of_length_eq_zero (by omega)
  subst hr
  obtain⟨A,c,rfl,_,_⟩:=own_slice own
  refine(mH A c _ w).mono ?_
  rintro e w' ⟨rfl,rfl⟩
  have hs:fB (cY (ax vars (keys.map (·.v))) keys) []=[]:=by simp[fB]
  rw[hs]
  exact⟨rfl,hB,λ_ _ _ _ _ h=>h,xs,own,hA⟩
open Lx
abbrev STp:={t:Tp // cQ t}
instance:Inhabited STp:=⟨⟨zTp,⟨qM,qM,qM⟩⟩⟩
def gO (x:STp):List Value:=tpL x.1
def cfS (x y:STp):Int:=cmpTp x.1 y.1
theorem kU (x:STp):(gO x).length=12:=rfl
theorem Ai (x:STp):∀v∈gO x,v.oneCell'=true:=mb x.1
theorem ltS (x y:STp):ltOf cfS x y=iz x.1 y.1:=rfl
theorem JW:Sort.SWO (ltOf cfS) where
 irrefl:=λx=>by rw[ltS];unfold iz;rw[ma];rfl
 trans:=λx y z h1 h2=>by
  rw[ltS]at h1 h2 ⊢
  unfold iz at h1 h2 ⊢
  rw[decide_eq_true_iff]at h1 h2 ⊢
  exact aW.tr _ _ _ h1 h2
 ntrans:=λx y z h1 h2=>by
  rw[ltS]at h1 h2 ⊢
  unfold iz at h1 h2 ⊢
  rw[decide_eq_false_iff_not]at h1 h2 ⊢
  have n1:=aW.neg x.1 y.1;have n2:=aW.neg y.1 z.1;have n3:=aW.neg x.1 z.1
  have:=aW.le (a:=z.1) (b:=y.1) (c:=x.1) (by omega) (by omega)
  omega
theorem JV (x y:STp) (h1:ltOf cfS x y=false) (h2:ltOf cfS y x=false):x=y:=by
 rw[ltS]at h1 h2
 unfold iz at h1 h2
 rw[decide_eq_false_iff_not]at h1 h2
 rcases mz x.1 y.1 with h|h|h
 ·exact absurd h h1
 ·exact Subtype.ext h
 ·exact absurd h h2
theorem oC {base:Nat} {w:World} {blk off m:Nat} {dk:Array STp} {os:Array Obj} (hb:base<=blk) (hw:base<=w.heap.size):Below base w (sortWorldK gO 12 w blk off m dk os):=by
 unfold sortWorldK Go.Sort.putRowK Sort.grow Sort.putRow Sort.mapBlock Sort.ahead
 refine⟨rfl,rfl,rfl,by simp,λk hk=>?_⟩
 have hne:blk≠k:=by omega
 simp only[Array.getElem?_append,Array.size_modify]
 rw[if_pos (by omega),Array.getElem?_modify,if_neg hne]
theorem yQ (d:List STp):(d.mergeSort λx y => !ltOf cfS y x).map (·.1)=(d.map (·.1)).mergeSort λx y => !iz y x:=by
 rw[List.map_mergeSort]
 intro a _ b _
 rw[ltS]
theorem Dk {l:List Tp} {i:Nat} {x:Tp} (h:i<l.length):(l.set i x).flatMap tpL=(l.take i).flatMap tpL++(tpL x++(l.drop (i+1)).flatMap tpL):=by
 rw[List.set_eq_take_append_cons_drop,if_pos h,List.flatMap_append,List.flatMap_cons]
theorem wl {l:List Tp} {i:Nat} {y:Tp} (h:l[i]?=some y):l.flatMap tpL=(l.take i).flatMap tpL++(tpL y++(l.drop (i+1)).flatMap tpL):=by
 conv=>lhs;rw[←List.take_append_drop i l,ai h]
 rw[List.flatMap_append,List.flatMap_cons]
theorem pI (l:List Tp) (k:Nat):(l.flatMap tpL).take (k*12)=(l.take k).flatMap tpL:=by
 have e:l.flatMap tpL=(l.take k).flatMap tpL++(l.drop k).flatMap tpL:=by rw[←List.flatMap_append,List.take_append_drop]
 by_cases h:k<=l.length
 ·rw[e,List.take_left' (by rw[bS,List.length_take,Nat.min_eq_left h])]
 ·rw[List.take_of_length_le (by rw[bS];omega),List.take_of_length_le (by omega)]
theorem zi {l:List Tp} {rest:List Value} {i:Nat} {x:Tp} (h:i<l.length):putAt (l.flatMap tpL++rest).toArray (i*12) (tpL x)=((l.set i x).flatMap tpL++rest).toArray:=by
 have hy:l[i]?=some l[i]:=List.getElem?_eq_getElem h
 have hp:=kw (tpL x) ((l.take i).flatMap tpL) (tpL l[i]) ((l.drop (i+1)).flatMap tpL++rest) rfl
 rw[bS,List.length_take,Nat.min_eq_left (by omega)]at hp
 rw[wl hy,Dk h]
 simpa only[List.append_assoc] using hp
def aQ (g:Nat) (l:List Tp) (rest:List Value) (w:World):Prop:=w.heap[g]?=some (.cells (l.flatMap tpL++rest).toArray 64 (0,0))
theorem aQ.store {g:Nat} {l:List Tp} {rest:List Value} {w:World} (h:aQ g l rest w) {i:Nat} (hi:i<l.length) (x:Tp):aQ g (l.set i x) rest (w.setCells g (i*12) (tpL x)):=by
 have:=cO g _ _ (tpL x) (i*12) w _ h
 rw[zi hi]at this
 exact this
theorem aQ.rd {g:Nat} {l:List Tp} {rest:List Value} {w:World} (h:aQ g l rest w):Rd w (some ⟨g,0,none⟩) (l.flatMap tpL):=by
 refine .inr ⟨g,0,rfl,λj u hu=>?_⟩
 rw[Lib.cell_of_heap h,Nat.zero_add,List.getElem?_toArray,List.getElem?_append_left (List.getElem?_eq_some_iff.1 hu).1]
 exact hu
theorem aQ.lt {g:Nat} {l:List Tp} {rest:List Value} {w:World} (h:aQ g l rest w):g<w.heap.size:=(Array.getElem?_eq_some_iff.1 h).1
theorem aQ.frozen {g:Nat} {l:List Tp} {rest:List Value} {w:World} (h:aQ g l rest w) (i:Nat):w.frozen? ⟨g,i,none⟩=false:=Lib.frozen_of_heap h i
theorem aQ.there {g:Nat} {l:List Tp} {rest:List Value} {w:World} (h:aQ g l rest w) {o n:Nat} (hn:o+n<=l.length*12):w.there g o n:=λj hj=>by
 refine⟨?_,h.frozen _⟩
 rw[Lib.cell_of_heap h,List.getElem?_toArray,List.getElem?_eq_getElem (by rw[List.length_append,bS];omega)]
 rfl
theorem aQ.at12 {g:Nat} {l:List Tp} {rest:List Value} {w:World} (h:aQ g l rest w) {i:Nat} {t:Tp} (ht:l[i]?=some t) :
  w.cell? ⟨g,i*12,none⟩=some (.int .i64 t.s.k)/\w.cell? ⟨g,i*12+1,none⟩=some (.string t.s.x)/\w.cell? ⟨g,i*12+2,none⟩=some (.string t.s.l)/\w.cell? ⟨g,i*12+3,none⟩=some (.string t.s.y)/\w.cell? ⟨g,i*12+4,none⟩=some (.int .i64 t.p.k)/\w.cell? ⟨g,i*12+5,none⟩=some (.string t.p.x)/\w.cell? ⟨g,i*12+6,none⟩=some (.string t.p.l)/\w.cell? ⟨g,i*12+7,none⟩=some (.string t.p.y)/\w.cell? ⟨g,i*12+8,none⟩=some (.int .i64 t.o.k)/\w.cell? ⟨g,i*12+9,none⟩=some (.string t.o.x)/\w.cell? ⟨g,i*12+10,none⟩=some (.string t.o.l)/\w.cell? ⟨g,i*12+11,none⟩=some (.string t.o.y):=by
 obtain⟨g',o,he,h⟩:=f7 h.rd ht
 injection he with he;injection he with h5 h6;subst h5;subst h6
 simpa only[Nat.zero_add] using h
theorem aQ.of_own {w:World} {base n:Nat} {v:Value} {l:List Tp} (h:w.ownsRow base 64 12 v n (l.flatMap tpL)):(v=.slice none 0 0/\l=[])∨∃g cap rest,v=.slice (some ⟨g,0,none⟩) n cap/\base<=g/\aQ g l rest w/\n<=cap/\cap<=maxLen/\l.length=n/\rest.length=(cap-n)*12:=by
 have hl:=h.1
 rw[bS]at hl
 rcases h.2 with ⟨rfl,h0⟩|⟨g,cap,cur,rfl,hg,hh,hn,hm,hs,ht⟩
 ·subst h0
  exact .inl ⟨rfl,List.eq_nil_of_length_eq_zero (by omega)⟩
 ·refine .inr ⟨g,cap,cur.toList.drop (n*12),rfl,hg,?_,hn,hm,by omega,by simp[hs];omega⟩
  unfold aQ
  rw[←ht,List.take_append_drop,Array.toArray_toList]
  exact hh
theorem aQ.own {w:World} {base g cap k:Nat} {l:List Tp} {rest:List Value} (h:aQ g l rest w) (hb:base<=g) (hk:k<=l.length) (hc:(l.length*12+rest.length)=cap*12) (hm:cap<=maxLen) :
  w.ownsRow base 64 12 (.slice (some ⟨g,0,none⟩) k cap) k ((l.take k).flatMap tpL):=by
 refine⟨by rw[bS,List.length_take,Nat.min_eq_left hk],.inr ⟨g,cap,_,rfl,hb,h,by omega,hm,by simp only[List.size_toArray,List.length_append,bS];omega,?_⟩⟩
 rw[List.take_append_of_le_length (by rw[bS];omega),pI]
theorem aQ.cleared {w:World} {base g cap k:Nat} {l:List Tp} {rest vs:List Value} (h:aQ g l rest w) (hb:base<=g) (hk:k<=l.length) (hc:(l.length*12+rest.length)=cap*12) (hm:cap<=maxLen) :
  (w.setCells g (k*12) vs).ownsRow base 64 12 (.slice (some ⟨g,0,none⟩) k cap) k ((l.take k).flatMap tpL):=by
 refine⟨by rw[bS,List.length_take,Nat.min_eq_left hk],.inr ⟨g,cap,_,rfl,hb,cO g _ _ vs (k*12) w _ h,by omega,hm,by rw[fP];simp only[List.size_toArray,List.length_append,bS];omega,?_⟩⟩
 rw[pV _ _ _ _ (Nat.le_refl _),List.take_append_of_le_length (by rw[bS];omega),pI]
def JE (p:Prop):Prop:=p
theorem stay {p:Prop} (h:JE p):p:=h
theorem Eu:(Tryz.prog.info? 64).map (·.size)=some 12:=by kernel_rfl
theorem Ev (t:Tp):(tpC t).all (·.oneCell')=true:=all_oneCell_toArray (mb t)
theorem lO {w:World} {ops:Array Oper} {rest:List Oper} {op:Oper} {a:Act} {Q:Exit->Act->World->Prop} (hgd:op.guard=none) (x y:Operand) (ho:op.op=.store 64 x y)
  (g k:Nat) (t:Tp) (hx:a.eval x=.pointer (some ⟨g,k*12,none⟩)) (hy:a.eval y=tpA t) (ht:w.there g (k*12) 12)
  (h:wpList Tryz.prog ops Q rest (a.put op.dst undef) (w.setCells g (k*12) (tpL t))):wpList Tryz.prog ops Q (op::rest) a w:=
 wpList_store_mid hgd 64 x y ho g (k*12) (tpC t) hx hy ht Eu (Ev t) h
end Go.Proofs.YtfcbghmbbjolcaaGreatDoor
