/- Labels and tags, in plain Lean: what a text's longest label, -/
import Derived.Test.YtfcbghmbbjolcaaGreatDoorJUtfProg5
import Derived.Test.YtfcbghmbbjolcaaGreatDoorJOpen2m
import Derived.Test.YtfcbghmbbjolcaaGreatDoorShelf2
set_option maxHeartbeats 4000000
set_option maxRecDepth 1000000
namespace Go.Proofs.YtfcbghmbbjolcaaGreatDoor.Um
open Go.Lib
theorem sJ (p:Int->Bool):∀(l:List UInt8) (k:Nat),span p l=k↔(k<=l.length/\(∀i,i<k->p (l.getD i 0).toNat=true)/\(k<l.length->p (l.getD k 0).toNat=false))
 | [],k=>by
  simp[span]
  constructor
  ·intro h;subst h;simp
  ·intro h;omega
 | c::l,k=>by
  unfold span
  split
  ·rename_i hc
   have ih:=sJ p l (k-1)
   constructor
   ·intro h
    obtain⟨h1,h2,h3⟩:=ih.1 (by omega)
    obtain⟨j,rfl⟩:∃j,k=j+1:=⟨k-1,by omega⟩
    refine⟨by simp at h1 ⊢;omega,?_,?_⟩
    ·intro i hi
     cases i with
     | zero=>simpa using hc
     | succ i=>simpa using h2 i (by omega)
    ·intro hj
     simpa using h3 (by simp at hj ⊢;omega)
   ·rintro⟨h1,h2,h3⟩
    have hk:k≠0:=by
     intro hk;subst hk
     have:=h3 (by simp)
     simp at this
     rw[hc]at this;cases this
    obtain⟨j,rfl⟩:∃j,k=j+1:=⟨k-1,by omega⟩
    have:=ih.2 ⟨by simp at h1 ⊢;omega,λi hi=>by simpa using h2 (i+1) (by omega),λhj=>by simpa using h3 (by simp at hj ⊢;omega)⟩
    simp at this
    omega
  ·rename_i hc
   constructor
   ·intro h
    subst h
    refine⟨by omega,λi hi=>by omega,λ_=>by simpa using hc⟩
   ·rintro⟨h1,h2,h3⟩
    rcases Nat.eq_zero_or_pos k with h|h
    ·exact h.symm
    ·have:=h2 0 h
     simp at this
     exact absurd this hc
theorem sK (p:Int->Bool) (l:List UInt8) (i:Nat) (h:i<span p l):p (l.getD i 0).toNat=true:=((sJ p l (span p l)).1 rfl).2.1 i h
theorem getD_drop (l:List UInt8) (k i:Nat):(l.drop k).getD i 0=l.getD (k+i) 0:=by simp[List.getD_eq_getElem?_getD,List.getElem?_drop]
inductive dY (l:List UInt8):Nat->Prop
 | start:dY l (span aM l)
 | step {n:Nat}:dY l n->0<n/\n<l.length/\(l.getD n 0).toNat=45/\span aO (l.drop (n+1))≠0->dY l (n+1+span aO (l.drop (n+1)))
theorem dY.rest {l:List UInt8} {n:Nat} (h:dY l n):di l n:=by
 induction h with
 | start=>rfl
 | step _ ht ih=>exact iV ih ht
theorem dY.all {l:List UInt8}:∀(m n:Nat),l.length-n<=m->dY l n->dY l (tag l):=by
 intro m
 induction m with
 | zero =>
  intro n hm h
  rw[eX h.rest (by omega)];exact h
 | succ m ih =>
  intro n hm h
  by_cases ht:0<n/\n<l.length/\(l.getD n 0).toNat=45/\span aO (l.drop (n+1))≠0
  ·exact ih _ (by omega) (.step h ht)
  ·rw[eX h.rest ht];exact h
theorem yJ (l:List UInt8):dY l (tag l):=dY.all l.length _ (by omega) .start
theorem dY.bytes {l:List UInt8} {n:Nat} (h:dY l n):∀i,i<n->aO (l.getD i 0).toNat=true∨(l.getD i 0).toNat=45:=by
 induction h with
 | start=>intro i hi;exact .inl (by unfold aO;rw[sK _ _ _ hi];rfl)
 | @step n h ht ih =>
  intro i hi
  rcases Nat.lt_or_ge i n with h1|h1
  ·exact ih i h1
  ·rcases Nat.eq_or_lt_of_le h1 with h2|h2
   ·subst h2;exact .inr ht.2.2.1
   ·left
    have:=sK aO (l.drop (n+1)) (i-(n+1)) (by omega)
    rwa [getD_drop,show n+1+(i-(n+1))=i by omega]at this
end Go.Proofs.YtfcbghmbbjolcaaGreatDoor.Um
namespace Go.Proofs.YtfcbghmbbjolcaaGreatDoor
open Go Go.Proofs Go.Shelf Go.RowKit Go.Lib
def IT (P:Program) (g:Nat) (f:Int->Int) (w:World):Prop:=
 ∀(W:World) (x:Nat),x<128->Below w.heap.size w W->FnGives P g #[] #[.int .i32 (x:Int)] (.int .i32 (f x)) W
theorem rI {M:Int} (h0:0<=M) (h1:M<128):Lib.runeCells M=[.int .u8 M]:=by
 unfold Lib.runeCells
 rw[Lib.encodeRuneZ_one h0 (by omega)]
 rfl
theorem encode_len {M:Int} (h0:0<=M) (h1:M<128):(Lib.encodeRune M).length=1:=by
 unfold Lib.encodeRune
 rw[Lib.encodeRuneZ_one h0 (by omega)]
 rfl
theorem CL {P:Program} {ρ:Ren} (L:Lays.n230 P ρ) (X:Builder.Extra P ρ) (g:Nat) (eg:∀args w,(callFunc g args).run P w=.ok (.enter g args) w) (f:Int->Int) (s:ByteArray) (w:World) (hs:s.size<=140737488355320)
  (hA:∀(i:Nat) (h:i<s.size),(s[i]'h).toNat<128) (hf:IT P g f w) (hnn:∀x:Nat,x<128->0<=f x/\f x<128) :
  Calls P (ρ.f 230) #[.func (.func g) #[] #[],.string s] w λe w'=>e=.returned (.string ⟨(Lib.mapD f s.data.toList).toArray⟩)/\Below w.heap.size w w':=by
 have t0:=L.t0;have a0:=L.a0;have z0:=L.z0;have v0:=L.v0;have t3:=L.t3;have a3:=L.a3;have z3:=L.z3;have v3:=L.v3;have t4:=L.t4;have a4:=L.a4;have z4:=L.z4;have v4:=L.v4;have t5:=L.t5;have a5:=L.a5;have z5:=L.z5;have v5:=L.v5
 have t9:=L.t9;have a9:=L.a9;have z9:=L.z9;have v9:=L.v9;have t20:=L.t20;have a20:=L.a20;have z20:=L.z20;have v20:=L.v20;have t21:=L.t21;have a21:=L.a21;have z21:=L.z21;have v21:=L.v21;have t37:=L.t37;have a37:=L.a37;have z37:=L.z37;have v37:=L.v37
 have t46:=L.t46;have a46:=L.a46;have z46:=L.z46;have v46:=L.v46;have t51:=L.t51;have a51:=L.a51;have z51:=L.z51;have v51:=L.v51;have t70:=L.t70;have a70:=L.a70;have z70:=L.z70;have v70:=L.v70;have t72:=L.t72;have a72:=L.a72;have z72:=L.z72;have v72:=L.v72
 have t75:=L.t75;have a75:=L.a75;have z75:=L.z75;have v75:=L.v75;have t76:=L.t76;have a76:=L.a76;have z76:=L.z76;have v76:=L.v76;have t105:=L.t105;have a105:=L.a105;have z105:=L.z105;have v105:=L.v105;have t107:=L.t107;have a107:=L.a107;have z107:=L.z107;have v107:=L.v107
 have t119:=L.t119;have a119:=L.a119;have z119:=L.z119;have t127:=L.t127;have a127:=L.a127;have z127:=L.z127;have v127:=L.v127;have t138:=L.t138;have a138:=L.a138;have z138:=L.z138;have v138:=L.v138;have t139:=L.t139;have a139:=L.a139;have z139:=L.z139;have v139:=L.v139
 have t164:=L.t164;have a164:=L.a164;have z164:=L.z164;have v164:=L.v164
 have mixed:=L.mixed
 have e118:∀args w,(callFunc (ρ.f 118) args).run P w=.ok (.enter (ρ.f 118) args) w:=enters_of L.f118 (by kernel_rfl) rfl
 have e165:∀args w,(callFunc (ρ.f 165) args).run P w=.ok (.enter (ρ.f 165) args) w:=enters_of L.f165 (by kernel_rfl) rfl
 have e166:∀args w,(callFunc (ρ.f 166) args).run P w=.ok (.enter (ρ.f 166) args) w:=enters_of L.f166 (by kernel_rfl) rfl
 have e167:∀args w,(callFunc (ρ.f 167) args).run P w=.ok (.enter (ρ.f 167) args) w:=enters_of L.f167 (by kernel_rfl) rfl
 have e168:∀args w,(callFunc (ρ.f 168) args).run P w=.ok (.enter (ρ.f 168) args) w:=enters_of L.f168 (by kernel_rfl) rfl
 have e169:∀args w,(callFunc (ρ.f 169) args).run P w=.ok (.enter (ρ.f 169) args) w:=enters_of L.f169 (by kernel_rfl) rfl
 have e197:∀args w,(callFunc (ρ.f 197) args).run P w=.ok (.enter (ρ.f 197) args) w:=enters_of L.f197 (by kernel_rfl) rfl
 have e270:∀args w,(callFunc (ρ.f 270) args).run P w=.ok (.enter (ρ.f 270) args) w:=enters_of L.f270 (by kernel_rfl) rfl
 obtain⟨ANS,hANS⟩:∃ANS,Lib.mapD f s.data.toList=ANS:=⟨_,rfl⟩
 rw[hANS]
 have hlen:s.data.toList.length=s.size:=(Lib.size_eq s).symm
 have hpl:∀(p:Nat) (h:p<s.size),Lib.mapD f (s.data.toList.drop p)=Lib.encodeRune (f ((s[p]'h).toNat:Int))++Lib.mapD f (s.data.toList.drop (p+1))/\(f ((s[p]'h).toNat:Int)=((s[p]'h).toNat:Int)->s.data.toList.take p++Lib.mapD f (s.data.toList.drop p)=s.data.toList.take (p+1)++Lib.mapD f (s.data.toList.drop (p+1))):=by
  intro p h
  have hd:Utf8.decode s p=((s[p]'h).toNat,1):=decode_ascii s p h (hA p h)
  have hne:s.data.toList.drop p≠[]:=by
   intro h0
   have:=congrArg List.length h0
   rw[List.length_drop,hlen]at this
   simp at this
   omega
  have h1:=Lib.mapD_step f _ hne
  have h2:=Lib.mapD_same f _ hne
  rw[Lib.decodeL_drop,hd,List.drop_drop]at h1 h2
  simp only at h1 h2
  have h3:=(hnn _ (hA p h)).1
  rw[if_pos h3]at h1
  refine⟨h1,λh4=>?_⟩
  have:=hA p h
  rw[h2 h4 (by omega),←List.append_assoc,←List.take_add]
 go_enter L.f230,Body.n230_ntmps ρ
 go_wp2
 go_loopg [1] s.size (λgk s1 wx=>s1=.string s/\∃pos:Nat,wx.heap[w.heap.size]?=some (.cells #[.pointer none,.slice none 0 0] (ρ.t 72) (0,0))/\wx.heap[w.heap.size+1]?=some (.stringIter s pos)/\Below w.heap.size w wx /\
  s.data.toList.take pos++Lib.mapD f (s.data.toList.drop pos)=ANS/\s.size<=pos+gk/\pos<=s.size)
 case atStart =>
  refine⟨rfl,0,?_,?_,((Below.refl _ w).alloc (Nat.le_refl _) _).alloc (by simp) _,by simpa using hANS,by omega,by omega⟩
  ·have h1:=heap_alloc_new w (.cells #[.pointer none,.slice none 0 0] (ρ.t 72))
   exact(Below.heap_alloc _ _ _ (by simp)).trans h1
  ·have:=World.iter_heap (w.alloc (.cells #[.pointer none,.slice none 0 0] (ρ.t 72))) s 0
   simpa using this
 case round =>
  obtain⟨rfl,pos,hfr,hit,hbw,hsp,hfu,hps⟩:=hrel
  by_cases hlt:pos<s.size
  ·obtain⟨g',rfl⟩:∃g',gk=g'+1:=⟨gk-1,by omega⟩
   have hnx:∀ty,(Instr.next (.pointer (some ⟨w.heap.size+1,0,none⟩)) true ty).run P wr=_:=λty=>Lib.run_next_ascii_at wr (w.heap.size+1) s pos ty hit hlt (hA pos hlt)
   obtain⟨hp1,hp2⟩:=hpl pos hlt
   have hR:=hA pos hlt
   obtain⟨R,hRd⟩:∃R,(s[pos]'hlt).toNat=R:=⟨_,rfl⟩
   rw[hRd]at hnx hp1 hp2 hR
   have hit2:=Lib.iterAt_heap wr (w.heap.size+1) s pos (pos+1) hit
   have hbw2:=Lib.below_iterAt hbw (k:=w.heap.size+1) (by omega) s (pos+1)
   have hfr2:(wr.iterAt (w.heap.size+1) s (pos+1)).heap[w.heap.size]?=_:=(Lib.iterAt_other wr (w.heap.size+1) w.heap.size s (pos+1) (by omega)).trans hfr
   obtain⟨W,hWd⟩:∃W,wr.iterAt (w.heap.size+1) s (pos+1)=W:=⟨_,rfl⟩
   rw[hWd]at hnx hit2 hbw2 hfr2
   have cS:Calls P g (#[.int .i32 (R:Int)]++#[]) W _:=hf W R hR hbw2
   obtain⟨hM0,hM1⟩:=hnn R hR
   obtain⟨M,hM⟩:∃M,f (R:Int)=M:=⟨_,rfl⟩
   rw[hM]at cS hM0 hM1 hp1 hp2
   have hR5:¬ ((R:Int)=65533):=by omega
   clear hit hbw hfr hWd hRd
   by_cases hc:M=(R:Int)
   ·subst hc
    have HS:Aside (s.data.toList.take (pos+1)++Lib.mapD f (s.data.toList.drop (pos+1))=ANS):=by
     show _=_
     rw[←hsp,hp2 rfl]
    clear hp1 hp2 hsp hpl
    go_wp2_with (go_at_fn g;go_must (refine cS.mono ?_;rintro e W' ⟨rfl,q,rfl⟩))
    go_roundg g'
    case measure=>omega
    case rel=>exact⟨rfl,pos+1,hfr2,hit2,below_drewN' hbw2 q,HS.out,by omega,by omega⟩
   ·have HS:Aside (s.data.toList.take pos++(Lib.encodeRune M++Lib.mapD f (s.data.toList.drop (pos+1)))=ANS):=by
     show _=_
     rw[←hsp,hp1]
    have hcb:(M == (R:Int))=false:=by simpa using hc
    have HPL:=Lib.hid hpl
    clear hp1 hp2 hsp hpl
    have hszW:w.heap.size+1<W.heap.size:=(Array.getElem?_eq_some_iff.1 hit2).1
    have hrl:Lib.runeLen (R:Int)=1:=by
     unfold Lib.runeLen
     simp only[show ¬ ((R:Int)<0) by omega,if_false]
     rw[if_pos (by omega)]
    have hxs:(s.extract 0 pos).size=pos:=by rw[Lib.size_eq,Lib.extract_data,List.length_take,List.length_drop,hlen];omega
    have hxd:(s.extract 0 pos).data.toList=s.data.toList.take pos:=by rw[Lib.extract_data];simp
    have hM0':¬ (M<0):=by omega
    go_wp2_with (go_at_fn g;go_must (refine cS.mono ?_;rintro e W' ⟨rfl,q,rfl⟩))
    have hbq:=below_drewN' hbw2 q
    have hfrC:(W.drewN q).heap[w.heap.size]?=some (.cells #[.pointer none,.slice none 0 0] (ρ.t 72) (0,0)):=hfr2
    clear hit2 hfr2 hbw2 hszW hnx cS
    generalize W.drewN q=Wq at *
    have cR:=Any.utf8_RuneLen {L with} (R:Int) Wq
    rw[hrl]at cR
    have cG:=Any.Builder_Grow_fresh {L with} X w.heap.size w.heap.size (s.size+4) Wq (Nat.le_refl _) hfrC hbq.size (by omega)
    go_wp2_with (first|(go_at_fn (ρ.f 118);go_must (refine cR.mono ?_;rintro e W3 ⟨rfl,rfl⟩))|(go_at_fn (ρ.f 165);go_must (go_fit cG;rintro e W4 ⟨rfl,h4,b4⟩)))
    refine(Any.Builder_WriteString_k {L with} X w.heap.size w.heap.size [] (s.extract 0 pos) W4 (Lib.IsBuilderF.of (Or.inr h4)) (by rw[hxs];simp;omega) (Nat.le_trans hbq.size b4.size)).mono ?_
    rintro e W5 ⟨rfl,h5w,b5,-⟩
    go_wp2
    have hl5:([]++Lib.strCells (s.extract 0 pos)).length=pos:=by simp[Lib.strCells_length,hxs]
    refine(Any.Builder_WriteRune_k {L with} X w.heap.size w.heap.size _ M (by omega) (by omega) W5 (Or.inr h5w) (by rw[hl5];omega) (Nat.le_trans hbq.size (Nat.le_trans b4.size b5.size))).mono ?_
    rintro e W6 ⟨rfl,h6w,b6,-⟩
    have hb6:Below w.heap.size w W6:=((hbq.trans b4).trans b5).trans b6
    have hcells:[]++Lib.strCells (s.extract 0 pos)++Lib.runeCells M=Lib.byteCells (s.data.toList.take pos++Lib.encodeRune M):=by
     rw[List.nil_append,Lib.strCells_eq,hxd,Lib.byteCells_append,Lib.byteCells_encodeRune]
    rw[hcells]at h6w
    have hr1:=encode_len hM0 hM1
    obtain⟨g6,cap6,hc6,hcap6⟩:∃g6 cap6,W6.cell? ⟨w.heap.size,1,none⟩=some (.slice (some ⟨g6,0,none⟩) (Lib.byteCells (s.data.toList.take pos++Lib.encodeRune M)).length cap6)/\1<=cap6:=by
     obtain⟨_,v6,hv6,hown6,_⟩:=h6w
     have hln:1<=(Lib.byteCells (s.data.toList.take pos++Lib.encodeRune M)).length:=by rw[Lib.byteCells_length,List.length_append];omega
     rcases hown6.2 with ⟨_,h0⟩|⟨g6,cap6,_,_,rfl,_,_,_,hnc,_⟩
     ·omega
     ·exact⟨g6,cap6,by rw[Lib.cell_of_heap hv6];rfl,by omega⟩
    have hcapz:¬ ((cap6:Int)=0):=by omega
    have hcapb:((cap6:Int) == 0)=false:=by simp;omega
    go_wp2
    refine(Any.Builder_Cap_cell {L with} w.heap.size _ _ cap6 W6 hc6).mono ?_
    rintro e W6' ⟨rfl,rfl⟩
    obtain⟨s2,hs2⟩:∃s2,s.extract (pos+1) s.size=s2:=⟨_,rfl⟩
    have hl2:s2.data.toList=s.data.toList.drop (pos+1):=by
     rw[←hs2,Lib.extract_data,List.take_of_length_le (by rw[List.length_drop,hlen];omega)]
    have hz2:s2.size=s.size-(pos+1):=by rw[Lib.size_eq,hl2,List.length_drop,hlen]
    have hA2:∀(i:Nat) (h:i<s2.size),(s2[i]'h).toNat<128:=by
     intro i h
     have h1:s.data.toList[pos+1+i]?=some (s2[i]'h):=by
      rw[←List.getElem?_drop,←hl2]
      rw[List.getElem?_eq_getElem (by rw[←Lib.size_eq];exact h)]
      rfl
     have h2:s.data.toList[pos+1+i]?=some (s[pos+1+i]'(by omega)):=by
      rw[List.getElem?_eq_getElem (by rw[hlen];omega)]
      rfl
     rw[h2]at h1
     have:=hA (pos+1+i) (by omega)
     rw[Option.some.inj h1]at this
     exact this
    have hpl2:∀(p:Nat) (h:p<s2.size),Lib.mapD f (s2.data.toList.drop p)=Lib.encodeRune (f ((s2[p]'h).toNat:Int))++Lib.mapD f (s2.data.toList.drop (p+1)):=by
     intro p h
     have h1:=HPL.out (pos+1+p) (by omega)
     have h3:s[pos+1+p]'(by omega)=s2[p]'h:=by
      have e1:s.data.toList[pos+1+p]?=some (s2[p]'h):=by
       rw[←List.getElem?_drop,←hl2]
       rw[List.getElem?_eq_getElem (by rw[←Lib.size_eq];exact h)]
       rfl
      have e2:s.data.toList[pos+1+p]?=some (s[pos+1+p]'(by omega)):=by
       rw[List.getElem?_eq_getElem (by rw[hlen];omega)]
       rfl
      rw[e2]at e1
      exact Option.some.inj e1
     have h2:=h1.1
     rw[h3]at h2
     rw[hl2,List.drop_drop,List.drop_drop]
     exact h2
    have HPL2:=Lib.hid hpl2
    have HA2:=Lib.hid hA2
    have Hl2:=Lib.hid hl2
    have hpk:((pos:Int)+1).toNat=pos+1:=by omega
    clear hpl2 hA2
    go_wp2
    go_loopg [] s2.size (λgk wx=>∃(p2:Nat) (acc:List UInt8),Lib.IsBuilderF (ρ.t 72) (ρ.t 5) w.heap.size w.heap.size (Lib.byteCells acc) wx/\wx.heap[W6'.heap.size]?=some (.stringIter s2 p2)/\Below w.heap.size w wx /\
     acc++Lib.mapD f (s2.data.toList.drop p2)=ANS/\s2.size<=p2+gk/\p2<=s2.size/\acc.length<=pos+1+p2)
    case atStart =>
     refine⟨0,s.data.toList.take pos++Lib.encodeRune M,Lib.IsBuilderF.alloc (Or.inr h6w) _,World.iter_heap W6' s2 0,hb6.alloc hb6.size _,?_,by omega,by omega,?_⟩
     ·rw[List.drop_zero,Hl2.out,List.append_assoc];exact HS.out
     ·rw[List.length_append,List.length_take,hlen];omega
    case round =>
     obtain⟨p2,acc,hI,hit,hbw,hacc,hfu2,hp2,hal⟩:=hrel
     have hszI:W6'.heap.size<wr.heap.size:=(Array.getElem?_eq_some_iff.1 hit).1
     have hBI:w.heap.size<=W6'.heap.size:=hb6.size
     have hBlt:w.heap.size<W6'.heap.size:=h6w.lt
     by_cases hlt2:p2<s2.size
     ·obtain⟨g2,rfl⟩:∃g2,gk=g2+1:=⟨gk-1,by omega⟩
      have hnx:∀ty,(Instr.next (.pointer (some ⟨W6'.heap.size,0,none⟩)) true ty).run P wr=_:=λty=>Lib.run_next_ascii_at wr W6'.heap.size s2 p2 ty hit hlt2 (HA2.out p2 hlt2)
      have hstep2:=HPL2.out p2 hlt2
      have hR2:=HA2.out p2 hlt2
      obtain⟨R2,hRd⟩:∃R2,(s2[p2]'hlt2).toNat=R2:=⟨_,rfl⟩
      rw[hRd]at hnx hstep2 hR2
      have hI2:=hI.iterAt hit (p2+1)
      have hit2:=Lib.iterAt_heap wr W6'.heap.size s2 p2 (p2+1) hit
      have hbw2:=Lib.below_iterAt hbw (k:=W6'.heap.size) hBI s2 (p2+1)
      have hsz2:w.heap.size<=(wr.iterAt W6'.heap.size s2 (p2+1)).heap.size:=by rw[Lib.iterAt_size];omega
      obtain⟨Wa,hWa⟩:∃Wa,wr.iterAt W6'.heap.size s2 (p2+1)=Wa:=⟨_,rfl⟩
      rw[hWa]at hnx hI2 hit2 hbw2 hsz2
      have cS2:Calls P g (#[.int .i32 (R2:Int)]++#[]) Wa _:=hf Wa R2 hR2 hbw2
      obtain⟨hN0,hN1⟩:=hnn R2 hR2
      obtain⟨M2,hM2⟩:∃M2,f (R2:Int)=M2:=⟨_,rfl⟩
      rw[hM2]at cS2 hN0 hN1 hstep2
      have HS2:Aside ((acc++Lib.encodeRune M2)++Lib.mapD f (s2.data.toList.drop (p2+1))=ANS):=by
       show _=_
       rw[←hacc,hstep2,List.append_assoc]
      have hq1:=encode_len hN0 hN1
      have hN0':¬ (M2<0):=by omega
      clear hit hbw hI hWa hstep2 hacc HS hRd
      go_wp2_with (go_at_fn g;go_must (refine cS2.mono ?_;rintro e W' ⟨rfl,q2,rfl⟩))
      refine(Any.Builder_WriteByte_k {L with} X w.heap.size w.heap.size _ M2 (Wa.drewN q2) hI2 (by rw[Lib.byteCells_length];omega) hsz2).mono ?_
      rintro e W7 ⟨rfl,h7,b7,k7⟩
      go_wp2
      go_roundg g2
      case measure=>omega
      case rel =>
       refine⟨p2+1,acc++Lib.encodeRune M2,Or.inr ?_,k7.iter hit2 (by omega),(below_drewN' hbw2 q2).trans b7,HS2.out,by omega,by omega,by rw[List.length_append];omega⟩
       rw[Lib.byteCells_append,Lib.byteCells_encodeRune,rI hN0 hN1]
       exact h7
     ·obtain rfl:p2=s2.size:=by omega
      have hnx:∀ty,(Instr.next (.pointer (some ⟨W6'.heap.size,0,none⟩)) true ty).run P wr=_:=λty=>Lib.run_next_end_at wr W6'.heap.size s2 s2.size ty hit hlt2
      go_wp2
      refine(Any.Builder_String_any_f {L with} X w.heap.size w.heap.size acc wr hI (by omega)).mono ?_
      rintro e W8 ⟨rfl,_,b8⟩
      go_wp2
      go_ret
      refine⟨?_,hbw.trans b8⟩
      rw[Lib.size_eq,List.drop_length,Lib.mapD_nil,List.append_nil]at hacc
      subst hacc
      rfl
  ·obtain rfl:pos=s.size:=by omega
   have hnx:∀ty,(Instr.next (.pointer (some ⟨w.heap.size+1,0,none⟩)) true ty).run P wr=_:=λty=>Lib.run_next_end_at wr (w.heap.size+1) s s.size ty hit hlt
   have cC:=Any.Builder_Cap_cell {L with} w.heap.size none 0 0 wr (by rw[Lib.cell_of_heap hfr];rfl)
   go_wp2_with (go_at_fn (ρ.f 270);go_must (refine cC.mono ?_;rintro e W' ⟨rfl,rfl⟩))
   go_ret
   refine⟨?_,hbw⟩
   rw[←hsp,←hlen,List.drop_length,List.take_length,Lib.mapD_nil,List.append_nil]
   rfl
open Um Fm
def iA (r:Int):Int:=if 65<=r/\r<=90 then r+32 else r
def aG (s:ByteArray):Bool:=Lib.validD s.data.toList
def kL (s:ByteArray):Bool:=!s.toList.isEmpty && ((jS s.data.toList:Int) == s.size)
def vp (s:ByteArray):Bool:=((tag s.data.toList:Int) == s.size) && ((⟨(Lib.mapD iA s.data.toList).toArray⟩:ByteArray).toList == s.toList)
def En:List UInt8:=[104,116,116,112,58,47,47,119,119,119,46,119,51,46,111,114,103,47,50,48,48,49,47,88,77,76,83,99,104,101,109,97,35,115,116,114,105,110,103]
theorem yG (r:Int) (w:World) (h0:0<=r) (h1:r<=1114111):Calls Tryz.prog 263 #[.int .i32 r] w λe w'=>e=.returned (.int .i32 (iA r))/\w=w':=by
 unfold iA
 by_cases ha:65<=r
 ·by_cases hb:r<=90
  ·have hr:(65<=r/\r<=90):=⟨ha,hb⟩
   rw[if_pos hr]
   clear hr
   go_enter Tryz.func263,Tryz.ntmps263
   go_wp2
   go_ret
   exact⟨rfl,rfl⟩
  ·rw[if_neg (by omega)]
   go_enter Tryz.func263,Tryz.ntmps263
   go_wp2
   go_ret
   exact⟨rfl,rfl⟩
 ·rw[if_neg (by omega)]
  go_enter Tryz.func263,Tryz.ntmps263
  go_wp2
  go_ret
  exact⟨rfl,rfl⟩
theorem pF (l:List ByteArray) (A:Option Addr) (c:Nat) (w:World) (hl:l.length<=1000) (hC:Ctx w) (hr:Rd w A (l.map Value.string)) (hz:∀s∈l,s.size<=281474976710656) :
  Calls Tryz.prog 220 #[.slice A l.length c] w λe w'=>e=.returned (.bool (l.all aG))/\Below w.heap.size w w':=by
 go_enter Tryz.func220,Tryz.ntmps220
 go_wp2
 go_loopw [7] (λi wr=>∃k:Nat,k<=l.length/\i=.int .i64 k/\Hid (l.all aG=(l.drop k).all aG)/\Below w.heap.size w wr) (λi _=>l.length-(intOf i).toNat)
 case atStart=>exact⟨0,by omega,rfl,rfl,Below.refl _ _⟩
 case round =>
  obtain⟨k,hk,rfl,H,hB⟩:=hrel
  by_cases hlt:k<l.length
  ·obtain⟨y,hx⟩:∃x,l[k]?=some x:=⟨_,List.getElem?_eq_getElem hlt⟩
   obtain⟨g,o,rfl,hcx⟩:=(hr.later hB).at_ (j:=k) (u:=.string y) (by simp[hx])
   have hd:=ai hx
   have H2:Hid (l.all aG=(aG y && (l.drop (k+1)).all aG)):=by show _=_;rw[H.out,hd,List.all_cons]
   have hV:=gm y wr (by have:=hz y (List.mem_of_getElem? hx);omega) (hC.step hB).tabs
   rw[show Lib.validD y.data.toList=aG y from rfl]at hV
   clear hx hd H hr hz hC
   generalize aG y=q at *
   cases q
   ·go_wp2_with (refine hV.mono ?_;rintro e w2 ⟨rfl,hb2⟩)
    go_ret
    exact⟨by rw[H2.out];rfl,aa hB hb2⟩
   ·go_wp2_with (refine hV.mono ?_;rintro e w2 ⟨rfl,hb2⟩)
    go_roundw
    case rel=>exact⟨k+1,by omega,by go_num,by show _=_;rw[H2.out];rfl,aa hB hb2⟩
    case measure=>simp[intOf];omega
  ·have H2:Hid (l.all aG=true):=by show _=_;rw[H.out,List.drop_eq_nil_of_le (by omega)];rfl
   clear H hr hz
   go_wp2
   go_ret
   exact⟨by rw[H2.out];rfl,hB⟩
theorem yH (s:ByteArray) (w:World) (hC:Ctx w) (hs:s.size<=281474976710656):Calls Tryz.prog 221 #[.string s] w λe w'=>e=.returned (.bool (kL s))/\Below w.heap.size w w':=by
 have hL:=AV s w hC hs
 unfold kL
 generalize jS s.data.toList=n at *
 cases he:s.toList.isEmpty
 ·cases hq:((n:Int) == s.size)
  all_goals
   go_enter Tryz.func221,Tryz.ntmps221
   go_wp2_with (refine hL.mono ?_;rintro e w2 ⟨rfl,hb2⟩)
   go_ret
   exact⟨rfl,hb2⟩
 ·go_enter Tryz.func221,Tryz.ntmps221
  go_wp2
  go_ret
  exact⟨rfl,Below.refl _ _⟩
theorem pJ {s:ByteArray} (h:((tag s.data.toList:Int) == s.size)=true):∀(i:Nat) (hi:i<s.size),(s[i]'hi).toNat<128:=by
 have h1:tag s.data.toList=s.size:=by have:=eq_of_beq h;omega
 intro i hi
 have h2:=(yJ s.data.toList).bytes i (by rw[h1];exact hi)
 have h3:s.data.toList.getD i 0=s[i]'hi:=by
  rw[List.getD_eq_getElem?_getD,List.getElem?_eq_getElem (by rw[←Lib.size_eq];exact hi)]
  rfl
 rw[h3]at h2
 generalize (s[i]'hi).toNat=n at *
 simp[aO,aM,dt,inB]at h2
 omega
theorem EC (s:ByteArray) (w:World) (_hC:Ctx w) (hs:s.size<=140737488351232):Calls Tryz.prog 222 #[.string s] w λe w'=>e=.returned (.bool (vp s))/\Below w.heap.size w w':=by
 have hT:=GF s w (by omega)
 have eg:∀args W,(callFunc 263 args).run Tryz.prog W=.ok (.enter 263 args) W:=enters_of Tryz.func263 (by kernel_rfl) rfl
 have hM:=λ(hp:∀(i:Nat) (hi:i<s.size),(s[i]'hi).toNat<128) W (_:Below w.heap.size w W)=>CL rY fY 263 eg iA s W (by omega) hp
  (λW' x hx _=>(yG x W' (by omega) (by omega)).mono λe w' ⟨h1,h2⟩=>⟨h1,0,by rw[←h2];rfl⟩) (λx hx=>by unfold iA;split<;>omega)
 have hP:=pJ (s:=s)
 unfold vp
 generalize (⟨(Lib.mapD iA s.data.toList).toArray⟩:ByteArray)=m at *
 generalize tag s.data.toList=n at *
 clear eg
 cases hq:((n:Int) == s.size)
 ·clear hM hP
  go_enter Tryz.func222,Tryz.ntmps222
  go_wp2_with (refine hT.mono ?_;rintro e w2 ⟨rfl,hb2⟩)
  go_ret
  exact⟨rfl,hb2⟩
 ·have hM1:=hM (hP hq)
  clear hM hP
  go_enter Tryz.func222,Tryz.ntmps222
  go_wp2_with fail
  refine hT.mono ?_
  rintro e w2 ⟨rfl,hb2⟩
  have hM2:=hM1 _ hb2
  clear hM1
  cases hq2:(m.toList == s.toList)
  all_goals
   go_wp2_with (refine hM2.mono ?_;rintro e w3 ⟨rfl,hb3⟩)
   go_ret
   exact⟨by rw[hq2];rfl,aa hb2 hb3⟩
def ci (s:ByteArray):Bool:=s.toList.isEmpty
def aB (t:Tm):Bool:=
 if t.k=1 then ci (t.l++t.y) && aG t.x
 else if t.k=2 then ci (t.l++t.y) && kL t.x
 else if t.k=3 then ci t.y && aG t.x && vp t.l
 else if t.k=4 then ci t.l && !(t.y.toList == En) && (aG t.x && aG t.y)
 else false
theorem pH (t:Tm) (w:World) (hC:Ctx w) (hx:t.x.size<=281474976710656) (hl:t.l.size<=140737488351232) (hy:t.y.size<=281474976710656) :
  Calls Tryz.prog 163 #[.agg #[.int .i64 t.k,.string t.x,.string t.l,.string t.y]] w λe w'=>e=.returned (.bool (aB t))/\Below w.heap.size w w':=by
 obtain⟨k,x,l,y⟩:=t
 simp only at hx hl hy ⊢
 have hB0:Below w.heap.size w (w.alloc (.cells #[.int .i64 k,.string x,.string l,.string y] 62)):=blw
 have hC1:=hC.step hB0
 have hV:∀W,Below w.heap.size w W->Calls Tryz.prog 220 #[.slice (some ⟨W.heap.size,0,none⟩) 1 1] (W.alloc (.cells #[.string x] 9)) λe w'=>e=.returned (.bool (aG x))/\Below w.heap.size w w'/\Below W.heap.size W w':=by
  intro W hb
  have hb2:Below W.heap.size W (W.alloc (.cells #[.string x] 9)):=blw
  refine(pF [x] (some ⟨W.heap.size,0,none⟩) 1 _ (by simp) (hC.step (aa hb hb2)) (Rd.of_block (heap_alloc_new _ _) rfl) (by intro s hs;simp at hs;rw[hs];exact hx)).mono ?_
  rintro e w' ⟨rfl,hb3⟩
  exact⟨by simp,aa (aa hb hb2) hb3,aa hb2 hb3⟩
 have hV2:∀W,Below w.heap.size w W->Calls Tryz.prog 220 #[.slice (some ⟨W.heap.size,0,none⟩) 2 2] (W.alloc (.cells #[.string x,.string y] 9)) λe w'=>e=.returned (.bool (aG x && aG y))/\Below w.heap.size w w':=by
  intro W hb
  have hb2:Below W.heap.size W (W.alloc (.cells #[.string x,.string y] 9)):=blw
  refine(pF [x,y] (some ⟨W.heap.size,0,none⟩) 2 _ (by simp) (hC.step (aa hb hb2)) (Rd.of_block (heap_alloc_new _ _) rfl) (by intro s hs;simp at hs;rcases hs with rfl|rfl;exact hx;exact hy)).mono ?_
  rintro e w' ⟨rfl,hb3⟩
  exact⟨by simp,aa (aa hb hb2) hb3⟩
 have hL:=yH x _ hC1 hx
 have hT:=λW hb=>EC l W (hC.step hb) hl
 have hV1:=hV _ hB0
 have hV3:=hV2 _ hB0
 simp only[World.size_alloc]at hV1 hV3
 clear hV hV2
 have HB:=Lib.hid hB0
 unfold aB ci En
 simp only
 generalize aG x=v at *
 generalize aG y=v2 at *
 generalize kL x=lb at *
 generalize vp l=tg at *
 by_cases h1:k=1
 ·subst h1
  rw[if_pos rfl]
  cases he:(l++y).toList.isEmpty
  ·go_enter Tryz.func163,Tryz.ntmps163
   go_wp2
   go_ret
   exact⟨rfl,hB0⟩
  ·go_enter Tryz.func163,Tryz.ntmps163
   go_wp2_with (refine hV1.mono ?_;rintro e w2 ⟨rfl,hb2,hb2'⟩)
   go_ret
   exact⟨rfl,hb2⟩
 rw[if_neg h1]
 by_cases h2:k=2
 ·subst h2
  rw[if_pos rfl]
  clear h1
  cases he:(l++y).toList.isEmpty
  ·go_enter Tryz.func163,Tryz.ntmps163
   go_wp2
   go_ret
   exact⟨rfl,hB0⟩
  ·go_enter Tryz.func163,Tryz.ntmps163
   go_wp2_with (refine hL.mono ?_;rintro e w2 ⟨rfl,hb2⟩)
   go_ret
   exact⟨rfl,aa HB.out hb2⟩
 rw[if_neg h2]
 by_cases h3:k=3
 ·subst h3
  rw[if_pos rfl]
  clear h1 h2
  cases he:y.toList.isEmpty
  ·go_enter Tryz.func163,Tryz.ntmps163
   go_wp2
   go_ret
   exact⟨rfl,hB0⟩
  ·cases v
   ·go_enter Tryz.func163,Tryz.ntmps163
    go_wp2_with (refine hV1.mono ?_;rintro e w2 ⟨rfl,hb2,hb2'⟩)
    go_ret
    exact⟨rfl,hb2⟩
   ·go_enter Tryz.func163,Tryz.ntmps163
    go_wp2_with fail
    refine hV1.mono ?_
    rintro e w2 ⟨rfl,hb2,hb2'⟩
    have hT2:=hT w2 hb2
    have e2:w2.cell? ⟨w.heap.size,2,none⟩=some (.string l):=by
     rw[hb2'.cell (p:=⟨w.heap.size,2,none⟩) (by simp),World.cell?,heap_alloc_new];rfl
    clear hT hV1 hV3 hL
    go_wp2_with (refine hT2.mono ?_;rintro e w3 ⟨rfl,hb3⟩)
    go_ret
    exact⟨rfl,aa hb2 hb3⟩
 rw[if_neg h3]
 by_cases h4:k=4
 ·subst h4
  rw[if_pos rfl]
  clear h1 h2 h3
  cases he:l.toList.isEmpty
  ·go_enter Tryz.func163,Tryz.ntmps163
   go_wp2
   go_ret
   exact⟨rfl,hB0⟩
  ·cases hq:(y.toList == [104,116,116,112,58,47,47,119,119,119,46,119,51,46,111,114,103,47,50,48,48,49,47,88,77,76,83,99,104,101,109,97,35,115,116,114,105,110,103])
   ·have hqn:(y.toList != [104,116,116,112,58,47,47,119,119,119,46,119,51,46,111,114,103,47,50,48,48,49,47,88,77,76,83,99,104,101,109,97,35,115,116,114,105,110,103])=true:=by rw[bne,hq];rfl
    go_enter Tryz.func163,Tryz.ntmps163
    go_wp2_with (refine hV3.mono ?_;rintro e w2 ⟨rfl,hb2⟩)
    go_ret
    exact⟨rfl,hb2⟩
   ·have hqn:(y.toList != [104,116,116,112,58,47,47,119,119,119,46,119,51,46,111,114,103,47,50,48,48,49,47,88,77,76,83,99,104,101,109,97,35,115,116,114,105,110,103])=false:=by rw[bne,hq];rfl
    go_enter Tryz.func163,Tryz.ntmps163
    go_wp2
    go_ret
    exact⟨rfl,hB0⟩
 rw[if_neg h4]
 have k1:(k == 1)=false:=by simpa using h1
 have k2:(k == 2)=false:=by simpa using h2
 have k3:(k == 3)=false:=by simpa using h3
 have k4:(k == 4)=false:=by simpa using h4
 clear h1 h2 h3 h4
 go_enter Tryz.func163,Tryz.ntmps163
 go_wp2
 go_ret
 exact⟨rfl,hB0⟩
def gF (r:Int):Bool:=!(decide (97<=r) && decide (r<=122) || decide (65<=r) && decide (r<=90) || decide (48<=r) && decide (r<=57) || r == 95)
theorem dI {r:Int} (h:¬ (97<=r/\r<=122)/\¬ (65<=r/\r<=90)/\¬ (48<=r/\r<=57)/\¬ r=95):gF r=true:=by
 have:gF r=decide (¬ (97<=r/\r<=122)/\¬ (65<=r/\r<=90)/\¬ (48<=r/\r<=57)/\¬ r=95):=by
  rw[Bool.eq_iff_iff];simp[gF];omega
 rw[this];exact decide_eq_true h
theorem eI {r:Int} (h:(97<=r/\r<=122)∨(65<=r/\r<=90)∨(48<=r/\r<=57)∨r=95):gF r=false:=by
 have:gF r = !decide ((97<=r/\r<=122)∨(65<=r/\r<=90)∨(48<=r/\r<=57)∨r=95):=by
  rw[Bool.eq_iff_iff];simp[gF];omega
 rw[this,decide_eq_true h];rfl
def dO (s:ByteArray):Bool:=!s.toList.isEmpty && decide (s.size<=40) && decide (Lib.idxFunc (λx=>gF x) true s<0)
theorem GW (r:Int) (w:World) (h0:0<=r) (h1:r<=1114111):Calls Tryz.prog 167 #[.int .i32 r] w λe w'=>e=.returned (.bool (gF r))/\w=w':=by
 obtain⟨v,hv⟩:∃v,gF r=v:=⟨_,rfl⟩
 rw[hv]
 have Hv:=Lib.hid hv
 clear hv
 by_cases a1:r<48
 ·have a9:(r != 95)=true:=by simp;omega
  go_enter Tryz.func167,Tryz.ntmps167
  go_wp2
  go_ret
  exact⟨by first|(rw[←Hv.out,dI (by omega)];rfl)|(rw[←Hv.out,eI (by omega)];rfl),rfl⟩
 by_cases a2:r<=57
 ·go_enter Tryz.func167,Tryz.ntmps167
  go_wp2
  go_ret
  exact⟨by first|(rw[←Hv.out,dI (by omega)];rfl)|(rw[←Hv.out,eI (by omega)];rfl),rfl⟩
 by_cases a3:r<65
 ·have a9:(r != 95)=true:=by simp;omega
  go_enter Tryz.func167,Tryz.ntmps167
  go_wp2
  go_ret
  exact⟨by first|(rw[←Hv.out,dI (by omega)];rfl)|(rw[←Hv.out,eI (by omega)];rfl),rfl⟩
 by_cases a4:r<=90
 ·go_enter Tryz.func167,Tryz.ntmps167
  go_wp2
  go_ret
  exact⟨by first|(rw[←Hv.out,dI (by omega)];rfl)|(rw[←Hv.out,eI (by omega)];rfl),rfl⟩
 by_cases a5:r=95
 ·subst a5
  go_enter Tryz.func167,Tryz.ntmps167
  go_wp2
  go_ret
  exact⟨by rw[←Hv.out];rfl,rfl⟩
 have a5':(r != 95)=true:=by simpa using a5
 by_cases a6:r<97
 ·go_enter Tryz.func167,Tryz.ntmps167
  go_wp2
  go_ret
  exact⟨by first|(rw[←Hv.out,dI (by omega)];rfl)|(rw[←Hv.out,eI (by omega)];rfl),rfl⟩
 by_cases a7:r<=122
 ·go_enter Tryz.func167,Tryz.ntmps167
  go_wp2
  go_ret
  exact⟨by first|(rw[←Hv.out,dI (by omega)];rfl)|(rw[←Hv.out,eI (by omega)];rfl),rfl⟩
 ·go_enter Tryz.func167,Tryz.ntmps167
  go_wp2
  go_ret
  exact⟨by first|(rw[←Hv.out,dI (by omega)];rfl)|(rw[←Hv.out,eI (by omega)];rfl),rfl⟩
theorem xu (s:ByteArray) (w:World) (hs:s.size<=281474976710656):Calls Tryz.prog 112 #[.string s] w λe w'=>e=.returned (.bool (dO s))/\Below w.heap.size w w':=by
 have eg:∀args W,(callFunc 167 args).run Tryz.prog W=.ok (.enter 167 args) W:=enters_of Tryz.func167 (by kernel_rfl) rfl
 have hI:=dW 167 #[] eg (λx=>gF x) s w (λW x hx _=>(GW x W (by omega) (by omega)).mono λe w' ⟨h1,h2⟩=>⟨h1,0,by rw[←h2];rfl⟩)
 unfold dO
 generalize Lib.idxFunc (λx=>gF x) true s=i at *
 have hz:(s.size:Int)<=281474976710656:=by omega
 clear eg
 cases he:s.toList.isEmpty
 ·by_cases hq:(s.size:Int)<=40
  ·have hq2:decide (s.size<=40)=true:=by simp;omega
   rw[hq2]
   by_cases hi:i<0
   ·have hi2:decide (i<0)=true:=by simpa using hi
    go_enter Tryz.func112,Tryz.ntmps112
    go_wp2_with (refine hI.mono ?_;rintro e w2 ⟨rfl,hb2⟩)
    go_ret
    exact⟨by rw[hi2];rfl,hb2⟩
   ·have hi2:decide (i<0)=false:=by simpa using hi
    go_enter Tryz.func112,Tryz.ntmps112
    go_wp2_with (refine hI.mono ?_;rintro e w2 ⟨rfl,hb2⟩)
    go_ret
    exact⟨by rw[hi2];rfl,hb2⟩
  ·have hq2:decide (s.size<=40)=false:=by simp;omega
   rw[hq2]
   go_enter Tryz.func112,Tryz.ntmps112
   go_wp2
   go_ret
   exact⟨rfl,Below.refl _ _⟩
 ·go_enter Tryz.func112,Tryz.ntmps112
  go_wp2
  go_ret
  exact⟨rfl,Below.refl _ _⟩
def mA (t:Tm):Bool:=!(t.k == 2) && aB t
def szT (t:Tm):Prop:=t.x.size<=281474976710656/\t.l.size<=140737488351232/\t.y.size<=281474976710656
theorem Gm (t:Tm) (w:World) (hC:Ctx w) (hz:szT t):Calls Tryz.prog 232 #[.agg #[.int .i64 t.k,.string t.x,.string t.l,.string t.y]] w λe w'=>e=.returned (.bool (mA t))/\Below w.heap.size w w':=by
 have hB0:Below w.heap.size w (w.alloc (.cells #[.int .i64 t.k,.string t.x,.string t.l,.string t.y] 62)):=blw
 have hR:=pH t _ (hC.step hB0) hz.1 hz.2.1 hz.2.2
 have HB:=Lib.hid hB0
 clear hB0 hC hz
 unfold mA
 generalize aB t=q at *
 by_cases h2:t.k=2
 ·have h2':(t.k == 2)=true:=by simpa using h2
  have h3':(t.k != 2)=false:=by simpa using h2
  rw[h2']
  clear h2 h2'
  go_enter Tryz.func232,Tryz.ntmps232
  go_wp2
  go_ret
  exact⟨rfl,HB.out⟩
 ·have h2':(t.k == 2)=false:=by simpa using h2
  have h3':(t.k != 2)=true:=by simpa using h2
  rw[h2']
  clear h2 h2'
  go_enter Tryz.func232,Tryz.ntmps232
  go_wp2_with (refine hR.mono ?_;rintro e w2 ⟨rfl,hb2⟩)
  go_ret
  exact⟨rfl,aa HB.out hb2⟩
structure Sl where
 v:ByteArray
 t:Tm
def slC (s:Sl):List Value:=[.string s.v,.int .i64 s.t.k,.string s.t.x,.string s.t.l,.string s.t.y]
def lm (t:Tm):Bool:=t.k == 0 && t.x.toList.isEmpty && t.l.toList.isEmpty && t.y.toList.isEmpty
def eY (s:Sl):Bool:=if s.v.toList.isEmpty then mA s.t else dO s.v && lm s.t
def szS (s:Sl):Prop:=s.v.size<=281474976710656/\szT s.t
theorem C6 (s:Sl) (w:World) (hC:Ctx w) (hz:szS s):Calls Tryz.prog 171 #[.agg #[.string s.v,.int .i64 s.t.k,.string s.t.x,.string s.t.l,.string s.t.y]] w λe w'=>e=.returned (.bool (eY s))/\Below w.heap.size w w':=by
 obtain⟨v,t⟩:=s
 obtain⟨hv,hzt⟩:=hz
 simp only at hv hzt ⊢
 have hB0:Below w.heap.size w (w.alloc (.cells #[.string v,.int .i64 t.k,.string t.x,.string t.l,.string t.y] 70)):=blw
 have hT:=Gm t _ (hC.step hB0) hzt
 have hN:=xu v (w.alloc (.cells #[.string v,.int .i64 t.k,.string t.x,.string t.l,.string t.y] 70)) hv
 have HB:=Lib.hid hB0
 obtain⟨k,x,l,y⟩:=t
 unfold eY lm
 simp only at hT hN HB ⊢
 clear hB0 hC hv hzt
 generalize mA ⟨k,x,l,y⟩=q1 at *
 generalize dO v=q2 at *
 cases he:v.toList.isEmpty
 ·cases q2
  ·go_enter Tryz.func171,Tryz.ntmps171
   go_wp2_with (refine hN.mono ?_;rintro e w2 ⟨rfl,hb2⟩)
   go_ret
   exact⟨by simp,aa HB.out hb2⟩
  ·go_enter Tryz.func171,Tryz.ntmps171
   go_wp2_with fail
   refine hN.mono ?_
   rintro e w2 ⟨rfl,hb2⟩
   obtain⟨hc,hf⟩:=bD hb2
   have HBB:=Lib.hid (aa HB.out hb2)
   clear hT hN HB hb2
   go_wp2
   all_goals (go_ret;exact⟨by simp_all,HBB.out⟩)
 ·go_enter Tryz.func171,Tryz.ntmps171
  go_wp2_with (refine hT.mono ?_;rintro e w2 ⟨rfl,hb2⟩)
  go_ret
  exact⟨by simp,aa HB.out hb2⟩
structure Pat where
 s:Sl
 p:Sl
 o:Sl
def zl (p:Pat):Bool:=eY p.s && eY p.p && eY p.o && (!p.p.v.toList.isEmpty || p.p.t.k == 1)
def szP (p:Pat):Prop:=szS p.s/\szS p.p/\szS p.o
theorem C7 (p:Pat) (w:World) (hC:Ctx w) (hz:szP p):Calls Tryz.prog 115 #[.agg #[.string p.s.v,.int .i64 p.s.t.k,.string p.s.t.x,.string p.s.t.l,.string p.s.t.y,.string p.p.v,.int .i64 p.p.t.k,.string p.p.t.x,.string p.p.t.l,.string p.p.t.y,.string p.o.v,.int .i64 p.o.t.k,.string p.o.t.x,.string p.o.t.l,.string p.o.t.y]] w λe w'=>e=.returned (.bool (zl p))/\Below w.heap.size w w':=by
 obtain⟨⟨sv,sk,sx,sl,sy⟩,⟨pv,pk,px,pl,py⟩,⟨ov,ok,ox,ol,oy⟩⟩:=p
 obtain⟨res,hres⟩:∃r,zl ⟨⟨sv,sk,sx,sl,sy⟩,⟨pv,pk,px,pl,py⟩,⟨ov,ok,ox,ol,oy⟩⟩=r:=⟨_,rfl⟩
 rw[hres]
 have Hres:Hid (res=(eY ⟨sv,sk,sx,sl,sy⟩ && eY ⟨pv,pk,px,pl,py⟩ && eY ⟨ov,ok,ox,ol,oy⟩ && (!pv.toList.isEmpty || pk == 1))):=by show _=_;rw[←hres];rfl
 have hS:∀W,Below w.heap.size w W->Calls Tryz.prog 171 #[.agg #[.string sv,.int .i64 sk,.string sx,.string sl,.string sy]] W λe w'=>e=.returned (.bool (eY ⟨sv,sk,sx,sl,sy⟩))/\Below W.heap.size W w':=λW hb=>C6 ⟨sv,sk,sx,sl,sy⟩ W (hC.step hb) hz.1
 have hP:∀W,Below w.heap.size w W->Calls Tryz.prog 171 #[.agg #[.string pv,.int .i64 pk,.string px,.string pl,.string py]] W λe w'=>e=.returned (.bool (eY ⟨pv,pk,px,pl,py⟩))/\Below W.heap.size W w':=λW hb=>C6 ⟨pv,pk,px,pl,py⟩ W (hC.step hb) hz.2.1
 have hO:∀W,Below w.heap.size w W->Calls Tryz.prog 171 #[.agg #[.string ov,.int .i64 ok,.string ox,.string ol,.string oy]] W λe w'=>e=.returned (.bool (eY ⟨ov,ok,ox,ol,oy⟩))/\Below W.heap.size W w':=λW hb=>C6 ⟨ov,ok,ox,ol,oy⟩ W (hC.step hb) hz.2.2
 have hB0:Below w.heap.size w (w.alloc (.cells #[.string sv,.int .i64 sk,.string sx,.string sl,.string sy,.string pv,.int .i64 pk,.string px,.string pl,.string py,.string ov,.int .i64 ok,.string ox,.string ol,.string oy] 72)):=blw
 clear hres hC hz
 simp only at ⊢
 generalize eY ⟨sv,sk,sx,sl,sy⟩=q1 at *
 generalize eY ⟨pv,pk,px,pl,py⟩=q2 at *
 generalize eY ⟨ov,ok,ox,ol,oy⟩=q3 at *
 have hS0:=hS _ hB0
 clear hS
 cases q1
 ·clear hP hO
  go_enter Tryz.func115,Tryz.ntmps115
  go_wp2_with (go_at_call 171;refine hS0.mono ?_;rintro e w2 ⟨rfl,hb2⟩)
  go_ret
  exact⟨by rw[Hres.out];rfl,aa hB0 hb2⟩
 go_enter Tryz.func115,Tryz.ntmps115
 go_wp2_with fail
 refine hS0.mono ?_
 rintro e w2 ⟨rfl,hb2⟩
 have hb02:=aa hB0 hb2
 obtain⟨hc,hf⟩:=bD hb2
 have hP0:=hP _ hb02
 clear hS0 hP
 cases q2
 ·clear hO
  go_wp2_with (go_at_call 171;refine hP0.mono ?_;rintro e w3 ⟨rfl,hb3⟩)
  go_ret
  exact⟨by rw[Hres.out];rfl,aa hb02 hb3⟩
 go_wp2_with fail
 refine hP0.mono ?_
 rintro e w3 ⟨rfl,hb3⟩
 have hb03:=aa hb02 hb3
 have hb23:=aa hb2 hb3
 clear hc hf
 obtain⟨hc,hf⟩:=bD hb23
 have hO0:=hO _ hb03
 clear hP0 hO hb2 hb3 hb02
 cases q3
 ·go_wp2_with (go_at_call 171;refine hO0.mono ?_;rintro e w4 ⟨rfl,hb4⟩)
  go_ret
  exact⟨by rw[Hres.out];rfl,aa hb03 hb4⟩
 go_wp2_with fail
 refine hO0.mono ?_
 rintro e w4 ⟨rfl,hb4⟩
 have hb04:=aa hb03 hb4
 have hb24:=aa hb23 hb4
 clear hc hf
 obtain⟨hc,hf⟩:=bD hb24
 clear hO0 hb4 hb03 hb23
 cases he:pv.toList.isEmpty
 ·go_wp2
  go_ret
  exact⟨by rw[Hres.out,he];rfl,hb04⟩
 ·by_cases hk:pk=1
  ·subst hk
   go_wp2
   go_ret
   exact⟨by rw[Hres.out,he];rfl,hb04⟩
  ·have hk2:(pk == 1)=false:=by simpa using hk
   go_wp2
   go_ret
   exact⟨by rw[Hres.out,he,hk2];rfl,hb04⟩
end Go.Proofs.YtfcbghmbbjolcaaGreatDoor
