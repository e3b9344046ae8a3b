/- Labels and tags, in plain Lean: what a text's longest label, -/
import Derived.Test.YtoaemihcbmlkgaaGreatDoorJUtfMath
namespace Go.Proofs.YtoaemihcbmlkgaaGreatDoor.Um
open Go.Lib
theorem span_iff (p:Int->Bool):∀(l:List UInt8) (k:Nat),span p l=k↔(k<=l.length/\(∀i,i<k->p (l.getD i 0).toNat=true)/\(k<l.length->p (l.getD k 0).toNat=false))
 | [],k=>by
  simp[span]
  constructor
  ·intro h;subst h;simp
  ·intro h;omega
 | c::l,k=>by
  unfold span
  split
  ·rename_i hc
   have ih:=span_iff p l (k-1)
   constructor
   ·intro h
    obtain⟨h1,h2,h3⟩:=ih.1 (by omega)
    obtain⟨j,rfl⟩:∃j,k=j+1:=⟨k-1,by omega⟩
    refine⟨by simp at h1 ⊢;omega,?_,?_⟩
    ·intro i hi
     cases i with
     | zero=>simpa using hc
     | succ i=>simpa using h2 i (by omega)
    ·intro hj
     simpa using h3 (by simp at hj ⊢;omega)
   ·rintro⟨h1,h2,h3⟩
    have hk:k≠0:=by
     intro hk;subst hk
     have:=h3 (by simp)
     simp at this
     rw[hc]at this;cases this
    obtain⟨j,rfl⟩:∃j,k=j+1:=⟨k-1,by omega⟩
    have:=ih.2 ⟨by simp at h1 ⊢;omega,λi hi=>by simpa using h2 (i+1) (by omega),λhj=>by simpa using h3 (by simp at hj ⊢;omega)⟩
    simp at this
    omega
  ·rename_i hc
   constructor
   ·intro h
    subst h
    refine⟨by omega,λi hi=>by omega,λ_=>by simpa using hc⟩
   ·rintro⟨h1,h2,h3⟩
    rcases Nat.eq_zero_or_pos k with h|h
    ·exact h.symm
    ·have:=h2 0 h
     simp at this
     exact absurd this hc
theorem span_get (p:Int->Bool) (l:List UInt8) (i:Nat) (h:i<span p l):p (l.getD i 0).toNat=true:=((span_iff p l (span p l)).1 rfl).2.1 i h
theorem getD_drop (l:List UInt8) (k i:Nat):(l.drop k).getD i 0=l.getD (k+i) 0:=by simp[List.getD_eq_getElem?_getD,List.getElem?_drop]
inductive TReach (l:List UInt8):Nat->Prop
 | start:TReach l (span alphaB l)
 | step {n:Nat}:TReach l n->0<n/\n<l.length/\(l.getD n 0).toNat=45/\span alnumB (l.drop (n+1))≠0->TReach l (n+1+span alnumB (l.drop (n+1)))
theorem TReach.rest {l:List UInt8} {n:Nat} (h:TReach l n):tagRest l n:=by
 induction h with
 | start=>rfl
 | step _ ht ih=>exact tagRest_go ih ht
theorem TReach.all {l:List UInt8}:∀(m n:Nat),l.length-n<=m->TReach l n->TReach l (tag l):=by
 intro m
 induction m with
 | zero =>
  intro n hm h
  rw[tagRest_out h.rest (by omega)];exact h
 | succ m ih =>
  intro n hm h
  by_cases ht:0<n/\n<l.length/\(l.getD n 0).toNat=45/\span alnumB (l.drop (n+1))≠0
  ·exact ih _ (by omega) (.step h ht)
  ·rw[tagRest_out h.rest ht];exact h
theorem tag_reach (l:List UInt8):TReach l (tag l):=TReach.all l.length _ (by omega) .start
theorem TReach.bytes {l:List UInt8} {n:Nat} (h:TReach l n):∀i,i<n->alnumB (l.getD i 0).toNat=true∨(l.getD i 0).toNat=45:=by
 induction h with
 | start=>intro i hi;exact .inl (by unfold alnumB;rw[span_get _ _ _ hi];rfl)
 | @step n h ht ih =>
  intro i hi
  rcases Nat.lt_or_ge i n with h1|h1
  ·exact ih i h1
  ·rcases Nat.eq_or_lt_of_le h1 with h2|h2
   ·subst h2;exact .inr ht.2.2.1
   ·left
    have:=span_get alnumB (l.drop (n+1)) (i-(n+1)) (by omega)
    rwa [getD_drop,show n+1+(i-(n+1))=i by omega]at this
end Go.Proofs.YtoaemihcbmlkgaaGreatDoor.Um
namespace Go.Proofs.YtoaemihcbmlkgaaGreatDoor
open Go Go.Proofs Go.Shelf Go.RowKit Go.Lib
def MapAtA (P:Program) (g:Nat) (f:Int->Int) (w:World):Prop:=
 ∀(W:World) (x:Nat),x<128->Below w.heap.size w W->FnGives P g #[] #[.int .i32 (x:Int)] (.int .i32 (f x)) W
theorem encode_plain {M:Int} (h0:0<=M) (h1:M<128):Lib.runeCells M=[.int .u8 M]:=by
 unfold Lib.runeCells
 rw[Lib.encodeRuneZ_one h0 (by omega)]
 rfl
theorem encode_len {M:Int} (h0:0<=M) (h1:M<128):(Lib.encodeRune M).length=1:=by
 unfold Lib.encodeRune
 rw[Lib.encodeRuneZ_one h0 (by omega)]
 rfl
set_option maxHeartbeats 4000000 in
set_option maxRecDepth 1000000 in
theorem mapPlain {P:Program} {ρ:Ren} (L:Lays.n230 P ρ) (X:Builder.Extra P ρ) (g:Nat) (eg:∀args w,(callFunc g args).run P w=.ok (.enter g args) w) (f:Int->Int) (s:ByteArray) (w:World) (hs:s.size<=140737488355320)
  (hA:∀(i:Nat) (h:i<s.size),(s[i]'h).toNat<128) (hf:MapAtA P g f w) (hnn:∀x:Nat,x<128->0<=f x/\f x<128) :
  Calls P (ρ.f 230) #[.func (.func g) #[] #[],.string s] w λe w'=>e=.returned (.string ⟨(Lib.mapD f s.data.toList).toArray⟩)/\Below w.heap.size w w':=by
 have t0:=L.t0;have a0:=L.a0;have z0:=L.z0;have v0:=L.v0;have t3:=L.t3;have a3:=L.a3;have z3:=L.z3;have v3:=L.v3;have t4:=L.t4;have a4:=L.a4;have z4:=L.z4;have v4:=L.v4;have t5:=L.t5;have a5:=L.a5;have z5:=L.z5;have v5:=L.v5
 have t9:=L.t9;have a9:=L.a9;have z9:=L.z9;have v9:=L.v9;have t20:=L.t20;have a20:=L.a20;have z20:=L.z20;have v20:=L.v20;have t21:=L.t21;have a21:=L.a21;have z21:=L.z21;have v21:=L.v21;have t37:=L.t37;have a37:=L.a37;have z37:=L.z37;have v37:=L.v37
 have t46:=L.t46;have a46:=L.a46;have z46:=L.z46;have v46:=L.v46;have t51:=L.t51;have a51:=L.a51;have z51:=L.z51;have v51:=L.v51;have t70:=L.t70;have a70:=L.a70;have z70:=L.z70;have v70:=L.v70;have t72:=L.t72;have a72:=L.a72;have z72:=L.z72;have v72:=L.v72
 have t75:=L.t75;have a75:=L.a75;have z75:=L.z75;have v75:=L.v75;have t76:=L.t76;have a76:=L.a76;have z76:=L.z76;have v76:=L.v76;have t105:=L.t105;have a105:=L.a105;have z105:=L.z105;have v105:=L.v105;have t107:=L.t107;have a107:=L.a107;have z107:=L.z107;have v107:=L.v107
 have t119:=L.t119;have a119:=L.a119;have z119:=L.z119;have t127:=L.t127;have a127:=L.a127;have z127:=L.z127;have v127:=L.v127;have t138:=L.t138;have a138:=L.a138;have z138:=L.z138;have v138:=L.v138;have t139:=L.t139;have a139:=L.a139;have z139:=L.z139;have v139:=L.v139
 have t164:=L.t164;have a164:=L.a164;have z164:=L.z164;have v164:=L.v164
 have mixed:=L.mixed
 have e118:∀args w,(callFunc (ρ.f 118) args).run P w=.ok (.enter (ρ.f 118) args) w:=enters_of L.f118 (by kernel_rfl) rfl
 have e165:∀args w,(callFunc (ρ.f 165) args).run P w=.ok (.enter (ρ.f 165) args) w:=enters_of L.f165 (by kernel_rfl) rfl
 have e166:∀args w,(callFunc (ρ.f 166) args).run P w=.ok (.enter (ρ.f 166) args) w:=enters_of L.f166 (by kernel_rfl) rfl
 have e167:∀args w,(callFunc (ρ.f 167) args).run P w=.ok (.enter (ρ.f 167) args) w:=enters_of L.f167 (by kernel_rfl) rfl
 have e168:∀args w,(callFunc (ρ.f 168) args).run P w=.ok (.enter (ρ.f 168) args) w:=enters_of L.f168 (by kernel_rfl) rfl
 have e169:∀args w,(callFunc (ρ.f 169) args).run P w=.ok (.enter (ρ.f 169) args) w:=enters_of L.f169 (by kernel_rfl) rfl
 have e197:∀args w,(callFunc (ρ.f 197) args).run P w=.ok (.enter (ρ.f 197) args) w:=enters_of L.f197 (by kernel_rfl) rfl
 have e270:∀args w,(callFunc (ρ.f 270) args).run P w=.ok (.enter (ρ.f 270) args) w:=enters_of L.f270 (by kernel_rfl) rfl
 obtain⟨ANS,hANS⟩:∃ANS,Lib.mapD f s.data.toList=ANS:=⟨_,rfl⟩
 rw[hANS]
 have hlen:s.data.toList.length=s.size:=(Lib.size_eq s).symm
 have hpl:∀(p:Nat) (h:p<s.size),Lib.mapD f (s.data.toList.drop p)=Lib.encodeRune (f ((s[p]'h).toNat:Int))++Lib.mapD f (s.data.toList.drop (p+1))/\(f ((s[p]'h).toNat:Int)=((s[p]'h).toNat:Int)->s.data.toList.take p++Lib.mapD f (s.data.toList.drop p)=s.data.toList.take (p+1)++Lib.mapD f (s.data.toList.drop (p+1))):=by
  intro p h
  have hd:Utf8.decode s p=((s[p]'h).toNat,1):=decode_ascii s p h (hA p h)
  have hne:s.data.toList.drop p≠[]:=by
   intro h0
   have:=congrArg List.length h0
   rw[List.length_drop,hlen]at this
   simp at this
   omega
  have h1:=Lib.mapD_step f _ hne
  have h2:=Lib.mapD_same f _ hne
  rw[Lib.decodeL_drop,hd,List.drop_drop]at h1 h2
  simp only at h1 h2
  have h3:=(hnn _ (hA p h)).1
  rw[if_pos h3]at h1
  refine⟨h1,λh4=>?_⟩
  have:=hA p h
  rw[h2 h4 (by omega),←List.append_assoc,←List.take_add]
 go_enter L.f230,Body.n230_ntmps ρ
 go_wp2
 go_loopg [1] s.size (λgk s1 wx=>s1=.string s/\∃pos:Nat,wx.heap[w.heap.size]?=some (.cells #[.pointer none,.slice none 0 0] (ρ.t 72) (0,0))/\wx.heap[w.heap.size+1]?=some (.stringIter s pos)/\Below w.heap.size w wx /\
  s.data.toList.take pos++Lib.mapD f (s.data.toList.drop pos)=ANS/\s.size<=pos+gk/\pos<=s.size)
 case atStart =>
  refine⟨rfl,0,?_,?_,((Below.refl _ w).alloc (Nat.le_refl _) _).alloc (by simp) _,by simpa using hANS,by omega,by omega⟩
  ·have h1:=heap_alloc_new w (.cells #[.pointer none,.slice none 0 0] (ρ.t 72))
   exact(Below.heap_alloc _ _ _ (by simp)).trans h1
  ·have:=World.iter_heap (w.alloc (.cells #[.pointer none,.slice none 0 0] (ρ.t 72))) s 0
   simpa using this
 case round =>
  obtain⟨rfl,pos,hfr,hit,hbw,hsp,hfu,hps⟩:=hrel
  by_cases hlt:pos<s.size
  ·obtain⟨g',rfl⟩:∃g',gk=g'+1:=⟨gk-1,by omega⟩
   have hnx:∀ty,(Instr.next (.pointer (some ⟨w.heap.size+1,0,none⟩)) true ty).run P wr=_:=λty=>Lib.run_next_ascii_at wr (w.heap.size+1) s pos ty hit hlt (hA pos hlt)
   obtain⟨hp1,hp2⟩:=hpl pos hlt
   have hR:=hA pos hlt
   obtain⟨R,hRd⟩:∃R,(s[pos]'hlt).toNat=R:=⟨_,rfl⟩
   rw[hRd]at hnx hp1 hp2 hR
   have hit2:=Lib.iterAt_heap wr (w.heap.size+1) s pos (pos+1) hit
   have hbw2:=Lib.below_iterAt hbw (k:=w.heap.size+1) (by omega) s (pos+1)
   have hfr2:(wr.iterAt (w.heap.size+1) s (pos+1)).heap[w.heap.size]?=_:=(Lib.iterAt_other wr (w.heap.size+1) w.heap.size s (pos+1) (by omega)).trans hfr
   obtain⟨W,hWd⟩:∃W,wr.iterAt (w.heap.size+1) s (pos+1)=W:=⟨_,rfl⟩
   rw[hWd]at hnx hit2 hbw2 hfr2
   have cS:Calls P g (#[.int .i32 (R:Int)]++#[]) W _:=hf W R hR hbw2
   obtain⟨hM0,hM1⟩:=hnn R hR
   obtain⟨M,hM⟩:∃M,f (R:Int)=M:=⟨_,rfl⟩
   rw[hM]at cS hM0 hM1 hp1 hp2
   have hR5:¬ ((R:Int)=65533):=by omega
   clear hit hbw hfr hWd hRd
   by_cases hc:M=(R:Int)
   ·subst hc
    have HS:Aside (s.data.toList.take (pos+1)++Lib.mapD f (s.data.toList.drop (pos+1))=ANS):=by
     show _=_
     rw[←hsp,hp2 rfl]
    clear hp1 hp2 hsp hpl
    go_wp2_with (go_at_fn g;go_must (refine cS.mono ?_;rintro e W' ⟨rfl,q,rfl⟩))
    go_roundg g'
    case measure=>omega
    case rel=>exact⟨rfl,pos+1,hfr2,hit2,below_drewN' hbw2 q,HS.out,by omega,by omega⟩
   ·have HS:Aside (s.data.toList.take pos++(Lib.encodeRune M++Lib.mapD f (s.data.toList.drop (pos+1)))=ANS):=by
     show _=_
     rw[←hsp,hp1]
    have hcb:(M == (R:Int))=false:=by simpa using hc
    have HPL:=Lib.hid hpl
    clear hp1 hp2 hsp hpl
    have hszW:w.heap.size+1<W.heap.size:=(Array.getElem?_eq_some_iff.1 hit2).1
    have hrl:Lib.runeLen (R:Int)=1:=by
     unfold Lib.runeLen
     simp only[show ¬ ((R:Int)<0) by omega,if_false]
     rw[if_pos (by omega)]
    have hxs:(s.extract 0 pos).size=pos:=by rw[Lib.size_eq,Lib.extract_data,List.length_take,List.length_drop,hlen];omega
    have hxd:(s.extract 0 pos).data.toList=s.data.toList.take pos:=by rw[Lib.extract_data];simp
    have hM0':¬ (M<0):=by omega
    go_wp2_with (go_at_fn g;go_must (refine cS.mono ?_;rintro e W' ⟨rfl,q,rfl⟩))
    have hbq:=below_drewN' hbw2 q
    have hfrC:(W.drewN q).heap[w.heap.size]?=some (.cells #[.pointer none,.slice none 0 0] (ρ.t 72) (0,0)):=hfr2
    clear hit2 hfr2 hbw2 hszW hnx cS
    generalize W.drewN q=Wq at *
    have cR:=Any.utf8_RuneLen {L with} (R:Int) Wq
    rw[hrl]at cR
    have cG:=Any.Builder_Grow_fresh {L with} X w.heap.size w.heap.size (s.size+4) Wq (Nat.le_refl _) hfrC hbq.size (by omega)
    go_wp2_with (first|(go_at_fn (ρ.f 118);go_must (refine cR.mono ?_;rintro e W3 ⟨rfl,rfl⟩))|(go_at_fn (ρ.f 165);go_must (go_fit cG;rintro e W4 ⟨rfl,h4,b4⟩)))
    refine(Any.Builder_WriteString_k {L with} X w.heap.size w.heap.size [] (s.extract 0 pos) W4 (Lib.IsBuilderF.of (Or.inr h4)) (by rw[hxs];simp;omega) (Nat.le_trans hbq.size b4.size)).mono ?_
    rintro e W5 ⟨rfl,h5w,b5,-⟩
    go_wp2
    have hl5:([]++Lib.strCells (s.extract 0 pos)).length=pos:=by simp[Lib.strCells_length,hxs]
    refine(Any.Builder_WriteRune_k {L with} X w.heap.size w.heap.size _ M (by omega) (by omega) W5 (Or.inr h5w) (by rw[hl5];omega) (Nat.le_trans hbq.size (Nat.le_trans b4.size b5.size))).mono ?_
    rintro e W6 ⟨rfl,h6w,b6,-⟩
    have hb6:Below w.heap.size w W6:=((hbq.trans b4).trans b5).trans b6
    have hcells:[]++Lib.strCells (s.extract 0 pos)++Lib.runeCells M=Lib.byteCells (s.data.toList.take pos++Lib.encodeRune M):=by
     rw[List.nil_append,Lib.strCells_eq,hxd,Lib.byteCells_append,Lib.byteCells_encodeRune]
    rw[hcells]at h6w
    have hr1:=encode_len hM0 hM1
    obtain⟨g6,cap6,hc6,hcap6⟩:∃g6 cap6,W6.cell? ⟨w.heap.size,1,none⟩=some (.slice (some ⟨g6,0,none⟩) (Lib.byteCells (s.data.toList.take pos++Lib.encodeRune M)).length cap6)/\1<=cap6:=by
     obtain⟨_,v6,hv6,hown6,_⟩:=h6w
     have hln:1<=(Lib.byteCells (s.data.toList.take pos++Lib.encodeRune M)).length:=by rw[Lib.byteCells_length,List.length_append];omega
     rcases hown6.2 with ⟨_,h0⟩|⟨g6,cap6,_,_,rfl,_,_,_,hnc,_⟩
     ·omega
     ·exact⟨g6,cap6,by rw[Lib.cell_of_heap hv6];rfl,by omega⟩
    have hcapz:¬ ((cap6:Int)=0):=by omega
    have hcapb:((cap6:Int) == 0)=false:=by simp;omega
    go_wp2
    refine(Any.Builder_Cap_cell {L with} w.heap.size _ _ cap6 W6 hc6).mono ?_
    rintro e W6' ⟨rfl,rfl⟩
    obtain⟨s2,hs2⟩:∃s2,s.extract (pos+1) s.size=s2:=⟨_,rfl⟩
    have hl2:s2.data.toList=s.data.toList.drop (pos+1):=by
     rw[←hs2,Lib.extract_data,List.take_of_length_le (by rw[List.length_drop,hlen];omega)]
    have hz2:s2.size=s.size-(pos+1):=by rw[Lib.size_eq,hl2,List.length_drop,hlen]
    have hA2:∀(i:Nat) (h:i<s2.size),(s2[i]'h).toNat<128:=by
     intro i h
     have h1:s.data.toList[pos+1+i]?=some (s2[i]'h):=by
      rw[←List.getElem?_drop,←hl2]
      rw[List.getElem?_eq_getElem (by rw[←Lib.size_eq];exact h)]
      rfl
     have h2:s.data.toList[pos+1+i]?=some (s[pos+1+i]'(by omega)):=by
      rw[List.getElem?_eq_getElem (by rw[hlen];omega)]
      rfl
     rw[h2]at h1
     have:=hA (pos+1+i) (by omega)
     rw[Option.some.inj h1]at this
     exact this
    have hpl2:∀(p:Nat) (h:p<s2.size),Lib.mapD f (s2.data.toList.drop p)=Lib.encodeRune (f ((s2[p]'h).toNat:Int))++Lib.mapD f (s2.data.toList.drop (p+1)):=by
     intro p h
     have h1:=HPL.out (pos+1+p) (by omega)
     have h3:s[pos+1+p]'(by omega)=s2[p]'h:=by
      have e1:s.data.toList[pos+1+p]?=some (s2[p]'h):=by
       rw[←List.getElem?_drop,←hl2]
       rw[List.getElem?_eq_getElem (by rw[←Lib.size_eq];exact h)]
       rfl
      have e2:s.data.toList[pos+1+p]?=some (s[pos+1+p]'(by omega)):=by
       rw[List.getElem?_eq_getElem (by rw[hlen];omega)]
       rfl
      rw[e2]at e1
      exact Option.some.inj e1
     have h2:=h1.1
     rw[h3]at h2
     rw[hl2,List.drop_drop,List.drop_drop]
     exact h2
    have HPL2:=Lib.hid hpl2
    have HA2:=Lib.hid hA2
    have Hl2:=Lib.hid hl2
    have hpk:((pos:Int)+1).toNat=pos+1:=by omega
    clear hpl2 hA2
    go_wp2
    go_loopg [] s2.size (λgk wx=>∃(p2:Nat) (acc:List UInt8),Lib.IsBuilderF (ρ.t 72) (ρ.t 5) w.heap.size w.heap.size (Lib.byteCells acc) wx/\wx.heap[W6'.heap.size]?=some (.stringIter s2 p2)/\Below w.heap.size w wx /\
     acc++Lib.mapD f (s2.data.toList.drop p2)=ANS/\s2.size<=p2+gk/\p2<=s2.size/\acc.length<=pos+1+p2)
    case atStart =>
     refine⟨0,s.data.toList.take pos++Lib.encodeRune M,Lib.IsBuilderF.alloc (Or.inr h6w) _,World.iter_heap W6' s2 0,hb6.alloc hb6.size _,?_,by omega,by omega,?_⟩
     ·rw[List.drop_zero,Hl2.out,List.append_assoc];exact HS.out
     ·rw[List.length_append,List.length_take,hlen];omega
    case round =>
     obtain⟨p2,acc,hI,hit,hbw,hacc,hfu2,hp2,hal⟩:=hrel
     have hszI:W6'.heap.size<wr.heap.size:=(Array.getElem?_eq_some_iff.1 hit).1
     have hBI:w.heap.size<=W6'.heap.size:=hb6.size
     have hBlt:w.heap.size<W6'.heap.size:=h6w.lt
     by_cases hlt2:p2<s2.size
     ·obtain⟨g2,rfl⟩:∃g2,gk=g2+1:=⟨gk-1,by omega⟩
      have hnx:∀ty,(Instr.next (.pointer (some ⟨W6'.heap.size,0,none⟩)) true ty).run P wr=_:=λty=>Lib.run_next_ascii_at wr W6'.heap.size s2 p2 ty hit hlt2 (HA2.out p2 hlt2)
      have hstep2:=HPL2.out p2 hlt2
      have hR2:=HA2.out p2 hlt2
      obtain⟨R2,hRd⟩:∃R2,(s2[p2]'hlt2).toNat=R2:=⟨_,rfl⟩
      rw[hRd]at hnx hstep2 hR2
      have hI2:=hI.iterAt hit (p2+1)
      have hit2:=Lib.iterAt_heap wr W6'.heap.size s2 p2 (p2+1) hit
      have hbw2:=Lib.below_iterAt hbw (k:=W6'.heap.size) hBI s2 (p2+1)
      have hsz2:w.heap.size<=(wr.iterAt W6'.heap.size s2 (p2+1)).heap.size:=by rw[Lib.iterAt_size];omega
      obtain⟨Wa,hWa⟩:∃Wa,wr.iterAt W6'.heap.size s2 (p2+1)=Wa:=⟨_,rfl⟩
      rw[hWa]at hnx hI2 hit2 hbw2 hsz2
      have cS2:Calls P g (#[.int .i32 (R2:Int)]++#[]) Wa _:=hf Wa R2 hR2 hbw2
      obtain⟨hN0,hN1⟩:=hnn R2 hR2
      obtain⟨M2,hM2⟩:∃M2,f (R2:Int)=M2:=⟨_,rfl⟩
      rw[hM2]at cS2 hN0 hN1 hstep2
      have HS2:Aside ((acc++Lib.encodeRune M2)++Lib.mapD f (s2.data.toList.drop (p2+1))=ANS):=by
       show _=_
       rw[←hacc,hstep2,List.append_assoc]
      have hq1:=encode_len hN0 hN1
      have hN0':¬ (M2<0):=by omega
      clear hit hbw hI hWa hstep2 hacc HS hRd
      go_wp2_with (go_at_fn g;go_must (refine cS2.mono ?_;rintro e W' ⟨rfl,q2,rfl⟩))
      refine(Any.Builder_WriteByte_k {L with} X w.heap.size w.heap.size _ M2 (Wa.drewN q2) hI2 (by rw[Lib.byteCells_length];omega) hsz2).mono ?_
      rintro e W7 ⟨rfl,h7,b7,k7⟩
      go_wp2
      go_roundg g2
      case measure=>omega
      case rel =>
       refine⟨p2+1,acc++Lib.encodeRune M2,Or.inr ?_,k7.iter hit2 (by omega),(below_drewN' hbw2 q2).trans b7,HS2.out,by omega,by omega,by rw[List.length_append];omega⟩
       rw[Lib.byteCells_append,Lib.byteCells_encodeRune,encode_plain hN0 hN1]
       exact h7
     ·obtain rfl:p2=s2.size:=by omega
      have hnx:∀ty,(Instr.next (.pointer (some ⟨W6'.heap.size,0,none⟩)) true ty).run P wr=_:=λty=>Lib.run_next_end_at wr W6'.heap.size s2 s2.size ty hit hlt2
      go_wp2
      refine(Any.Builder_String_any_f {L with} X w.heap.size w.heap.size acc wr hI (by omega)).mono ?_
      rintro e W8 ⟨rfl,_,b8⟩
      go_wp2
      go_ret
      refine⟨?_,hbw.trans b8⟩
      rw[Lib.size_eq,List.drop_length,Lib.mapD_nil,List.append_nil]at hacc
      subst hacc
      rfl
  ·obtain rfl:pos=s.size:=by omega
   have hnx:∀ty,(Instr.next (.pointer (some ⟨w.heap.size+1,0,none⟩)) true ty).run P wr=_:=λty=>Lib.run_next_end_at wr (w.heap.size+1) s s.size ty hit hlt
   have cC:=Any.Builder_Cap_cell {L with} w.heap.size none 0 0 wr (by rw[Lib.cell_of_heap hfr];rfl)
   go_wp2_with (go_at_fn (ρ.f 270);go_must (refine cC.mono ?_;rintro e W' ⟨rfl,rfl⟩))
   go_ret
   refine⟨?_,hbw⟩
   rw[←hsp,←hlen,List.drop_length,List.take_length,Lib.mapD_nil,List.append_nil]
   rfl
end Go.Proofs.YtoaemihcbmlkgaaGreatDoor
