/- The reference's Text, Signs. The reference's Label, Tag. -/
import Derived.Test.YtjldjeenfnahoaaGreatDoorJUtfNext
set_option maxHeartbeats 2000000
namespace Go.Proofs.YtjldjeenfnahoaaGreatDoor
open Go Go.RowKit Um
theorem Bi:(Tryz.prog.info? 3).map (λi=>(i.zero,i.size,i.bytes))=some (some (.int .i64 0),1,8):=by kernel_rfl
theorem xD (s:ByteArray) (w:World) (hs:s.size<=2000000) :
  Calls Tryz.prog 174 #[.string s] w λe w'=>∃v n,e=.returned (.tuple #[v,.int .i64 (gH s.data.toList).2.1,.int .i64 (gH s.data.toList).2.2]) /\
   w'.ownsRow w.heap.size 3 1 v n ((gH s.data.toList).1.map (Value.int .i64))/\Below w.heap.size w w':=by
 go_enter Tryz.func174,Tryz.ntmps174
 go_wp2
 go_loopw [5,6] (λv i wr=>∃k n:Nat,∃acc:List Int,k<=s.size/\n<=k/\i=.int .i64 k/\wr.ownsRow w.heap.size 3 1 v n (acc.map (Value.int .i64))/\Below w.heap.size w wr/\Hid (eI s.data.toList k acc)) (λ_ i _=>s.size-(intOf i).toNat)
 case atStart=>exact⟨0,0,[],by omega,by omega,rfl,by simpa using World.ownsRow_nil _ _ _ _,Below.refl _ _,oB _⟩
 case round =>
  obtain⟨k,n,acc,hk,hnk,rfl,hown,hB,H⟩:=hrel
  have hsz:s.data.toList.length=s.size:=ac s
  by_cases hlt:k<s.size
  ·have hnx:=λW=>tK s k W hlt (by omega)
   by_cases h0:(nx (from_ s k)).2=0
   ·have hres:=Lib.hid (rX H.out (by rw[hsz];exact hlt) h0)
    rw[h0]at hnx
    clear hsz
    generalize (nx (from_ s k)).1=x at hnx
    go_wp2_with (go_at_call 175;refine(hnx _).mono ?_;rintro e w1 ⟨rfl,hb1⟩)
    go_ret3
    refine⟨_,0,by rw[hres.out];rfl,?_,hB.trans (hb1.mono hB.size)⟩
    rw[hres.out]
    simpa using World.ownsRow_nil _ _ _ _
   ·have hres:=Lib.hid (uV H.out (by rw[hsz];exact hlt) h0)
    obtain⟨h1,h2,h3⟩:=iJ s k h0
    clear hsz
    generalize (nx (from_ s k)).1=x at hnx h3 hres
    generalize (nx (from_ s k)).2=d at hnx h0 h1 h2 hres
    have hd:(d:Int)≠0:=by omega
    have hd1:((d:Int) == 0)=false:=by simpa using hd
    go_wp2_with (first
     | (go_at_call 175;refine(hnx _).mono ?_;rintro e w1 ⟨rfl,hb1⟩;have hown1:=own_below hown hb1 (Nat.le_refl _);have hB1:=hB.trans (hb1.mono hB.size))
     | (at_builtin;refine bB rfl rfl Tryz.underlying58 Bi rfl (by omega) rfl (hown1.alloc _) rfl (Rd.of_block (heap_alloc_new w1 _) rfl) rfl (ints_oneCell _ [(x:Int)]) (by omega) (by omega) (by have:=hB1.size;simp;omega) ?_;intro v2 w2 hown2 hb2))
    go_roundw
    case rel =>
     refine⟨k+d,n+1,acc++[(x:Int)],by omega,by omega,by go_num,by simpa using hown2,(hB1.alloc hB1.size _).trans hb2,hres.out⟩
    case measure=>simp[intOf];omega
  ·have hkl:k=s.size:=by omega
   have hres:=Lib.hid (rW H.out (by rw[hsz];omega))
   clear hkl hsz
   go_wp2
   go_ret3
   refine⟨_,n,by rw[hres.out];rfl,?_,hB⟩
   rw[hres.out]
   exact hown
theorem ql (c:Int) (w:World) (h0:0<=c) (h1:c<256) :
  Calls Tryz.prog 179 #[.int .u8 c] w λe w'=>e=.returned (.bool (aT c))/\w=w':=by
 go_enter Tryz.func179,Tryz.ntmps179
 go_wp2
 all_goals
  go_ret
  refine⟨?_,rfl⟩
  simp[aT,inB, *]
 all_goals omega
theorem xH (c:Int) (w:World) (h0:0<=c) (h1:c<256) :
  Calls Tryz.prog 180 #[.int .u8 c] w λe w'=>e=.returned (.bool (cW c))/\w=w':=by
 go_enter Tryz.func180,Tryz.ntmps180
 go_wp2
 all_goals
  go_ret
  refine⟨?_,rfl⟩
  simp[cW, *]
 all_goals omega
theorem ie {l:List UInt8} {k d x best:Nat} (h:bG l false (k+d) (if x=46 then best else k+d)) (hx:((x:Int) != 46)=true) (hd:d≠0):bG l (k+d == 0) (k+d) (k+d):=by
 have h1:(k+d == 0)=false:=by simp;omega
 have h2:¬ x=46:=by rw[bne_iff_ne]at hx;omega
 rw[h1];rwa [if_neg h2]at h
theorem fu {l:List UInt8} {k d x best:Nat} (h:bG l false (k+d) (if x=46 then best else k+d)) (hx:((x:Int) != 46)=false) (hd:d≠0):bG l (k+d == 0) (k+d) best:=by
 have h1:(k+d == 0)=false:=by simp;omega
 have h2:x=46:=by simp at hx;omega
 rw[h1];rwa [if_pos h2]at h
theorem xF (s:ByteArray) (w:World) (hs:s.size<=2000000) :
  Calls Tryz.prog 143 #[.string s] w λe w'=>e=.returned (.int .i64 (iS s.data.toList))/\Below w.heap.size w w':=by
 go_enter Tryz.func143,Tryz.ntmps143
 go_wp2
 go_loopw [3,4] (λb i wr=>∃k best:Nat,k<=s.size/\b=.int .i64 best/\i=.int .i64 k/\(k=0->best=0)/\Below w.heap.size w wr/\Hid (bG s.data.toList (k == 0) k best)) (λ_ i _=>s.size-(intOf i).toNat)
 case atStart=>exact⟨0,0,by omega,rfl,rfl,λ_=>rfl,Below.refl _ _,gQ _⟩
 case round =>
  obtain⟨k,best,hk,rfl,rfl,hb0,hB,H⟩:=hrel
  have hsz:s.data.toList.length=s.size:=ac s
  by_cases hlt:k<s.size
  ·have hnx:=λW=>tK s k W hlt (by omega)
   by_cases h0:(nx (from_ s k)).2=0
   ·have hres:=Lib.hid (fZ H.out (.inr h0))
    rw[h0]at hnx
    clear hsz hb0
    generalize (nx (from_ s k)).1=x at hnx
    go_wp2_with (go_at_call 175;refine(hnx _).mono ?_;rintro e w1 ⟨rfl,hb1⟩)
    go_ret
    exact⟨by rw[hres.out];rfl,hB.trans (hb1.mono hB.size)⟩
   ·have hout:=kd H.out
    have hgo:=lO H.out (by rw[hsz];exact hlt) h0
    obtain⟨h1,h2,h3⟩:=iJ s k h0
    clear hsz H
    have e1:(List.drop k s.data.toList)=from_ s k:=rfl
    rw[e1]at hout hgo
    clear e1
    generalize (nx (from_ s k)).1=x at hnx h3 hout hgo
    generalize (nx (from_ s k)).2=d at hnx h0 h1 h2 hgo
    have Hout:=Lib.hid hout
    have Hgo:=Lib.hid hgo
    have Hb0:=Lib.hid hb0
    clear hout hgo hb0
    have hd1:((d:Int) == 0)=false:=by simp;omega
    have hfi:=λW=>qk (x:Int) W
    have hle:=λW=>vf (x:Int) W
    have hin:=λ(W:World) (g:Nat) hW=>xG (x:Int) ik (some ⟨g,0,none⟩) 6 W (by decide) hW
    by_cases hk0:k=0
    ·have hz:((k:Int) == 0)=true:=by simp[hk0]
     have hb0:=Lib.hid (Hb0.out hk0)
     have Hk0:=Lib.hid hk0
     have Hst:=Lib.hid (show (k == 0)=true by simp[hk0])
     rw[Hst.out]at Hgo Hout
     clear hk0
     by_cases hbeg:cA x=true
     ·have hlet:=pz x hbeg
      rw[hlet]at hle
      have Hgo2:=Lib.hid (Hgo.out hbeg)
      clear hlet
      unfold cA at hbeg
      by_cases hf:ct x=true
      ·rw[hf]at hfi
       clear hbeg hf
       go_wp2_with (first
        | (go_at_call 175;refine(hnx _).mono ?_;rintro e w1 ⟨rfl,hb1⟩;have hB1:=hB.trans (hb1.mono hB.size))
        | (go_at_call 176;refine(hfi _).mono ?_;rintro e w2 ⟨rfl,hb2⟩;have hB2:=hB1.trans (hb2.mono hB1.size))
        | (go_at_call 178;refine(hle _).mono ?_;rintro e w3 ⟨rfl,hb3⟩;have hB3:=hB2.trans (hb3.mono hB2.size)))
       ·have hx:((x:Int) != 46)=true:=by assumption
        go_roundw
        case rel=>exact⟨k+d,k+d,by omega,by go_num,by go_num,λh=>by omega,hB3,ie Hgo2.out hx h0⟩
        case measure=>simp[intOf];omega
       ·have hx:((x:Int) != 46)=false:=by assumption
        go_roundw
        case rel=>exact⟨k+d,best,by omega,rfl,by go_num,λh=>by omega,hB3,fu Hgo2.out hx h0⟩
        case measure=>simp[intOf];omega
      ·have hf:ct x=false:=by simpa using hf
       rw[hf]at hfi hbeg
       have hi:inB x ik=true:=by simpa using hbeg
       rw[hi]at hin
       clear hbeg hf hi
       go_wp2_with (first
        | (go_at_call 175;refine(hnx _).mono ?_;rintro e w1 ⟨rfl,hb1⟩;have hB1:=hB.trans (hb1.mono hB.size))
        | (go_at_call 176;refine(hfi _).mono ?_;rintro e w2 ⟨rfl,hb2⟩;have hB2:=hB1.trans (hb2.mono hB1.size))
        | (go_at_call 177;refine(hin _ _ ?_).mono ?_;exact Rd.of_block (heap_alloc_new w2 _) rfl;rintro e w4 ⟨rfl,rfl⟩;have hB4:=hB2.alloc hB2.size (.cells #[.int .i64 95,.int .i64 95,.int .i64 58,.int .i64 58,.int .i64 48,.int .i64 57] 3))
        | (go_at_call 178;refine(hle _).mono ?_;rintro e w3 ⟨rfl,hb3⟩;have hB3:=hB4.trans (hb3.mono hB4.size)))
       ·have hx:((x:Int) != 46)=true:=by assumption
        go_roundw
        case rel=>exact⟨k+d,k+d,by omega,by go_num,by go_num,λh=>by omega,hB3,ie Hgo2.out hx h0⟩
        case measure=>simp[intOf];omega
       ·have hx:((x:Int) != 46)=false:=by assumption
        go_roundw
        case rel=>exact⟨k+d,best,by omega,rfl,by go_num,λh=>by omega,hB3,fu Hgo2.out hx h0⟩
        case measure=>simp[intOf];omega
     ·have hbeg:cA x=false:=by simpa using hbeg
      have Hout2:=Lib.hid (Hout.out hbeg)
      unfold cA at hbeg
      have hf:ct x=false:=by simp at hbeg;exact hbeg.1
      have hi:inB x ik=false:=by simp at hbeg;exact hbeg.2
      rw[hf]at hfi
      rw[hi]at hin
      clear hbeg hf hi
      go_wp2_with (first
       | (go_at_call 175;refine(hnx _).mono ?_;rintro e w1 ⟨rfl,hb1⟩;have hB1:=hB.trans (hb1.mono hB.size))
       | (go_at_call 176;refine(hfi _).mono ?_;rintro e w2 ⟨rfl,hb2⟩;have hB2:=hB1.trans (hb2.mono hB1.size))
       | (go_at_call 177;refine(hin _ _ ?_).mono ?_;exact Rd.of_block (heap_alloc_new w2 _) rfl;rintro e w4 ⟨rfl,rfl⟩;have hB4:=hB2.alloc hB2.size (.cells #[.int .i64 95,.int .i64 95,.int .i64 58,.int .i64 58,.int .i64 48,.int .i64 57] 3)))
      go_ret
      exact⟨by rw[Hout2.out,hb0.out];rfl,hB4⟩
    ·have hz:((k:Int) == 0)=false:=by simp;omega
     have Hst:=Lib.hid (show (k == 0)=false by simp[hk0])
     rw[Hst.out]at Hgo Hout
     clear hk0 Hb0
     rw[show qE false x=(cj x || decide ((x:Int)=46)) from rfl]at Hgo Hout
     by_cases hl:cj x=true
     ·have Hgo2:=Lib.hid (Hgo.out (by rw[hl];rfl))
      rw[hl]at hle
      clear hl
      go_wp2_with (first
       | (go_at_call 175;refine(hnx _).mono ?_;rintro e w1 ⟨rfl,hb1⟩;have hB1:=hB.trans (hb1.mono hB.size))
       | (go_at_call 178;refine(hle _).mono ?_;rintro e w3 ⟨rfl,hb3⟩;have hB3:=hB1.trans (hb3.mono hB1.size)))
      ·have hx:((x:Int) != 46)=true:=by assumption
       go_roundw
       case rel=>exact⟨k+d,k+d,by omega,by go_num,by go_num,λh=>by omega,hB3,ie Hgo2.out hx h0⟩
       case measure=>simp[intOf];omega
      ·have hx:((x:Int) != 46)=false:=by assumption
       go_roundw
       case rel=>exact⟨k+d,best,by omega,rfl,by go_num,λh=>by omega,hB3,fu Hgo2.out hx h0⟩
       case measure=>simp[intOf];omega
     ·have hl:cj x=false:=by simpa using hl
      rw[hl]at hle Hgo Hout
      clear hl
      by_cases hd:(x:Int)=46
      ·have Hgo2:=Lib.hid (Hgo.out (by rw[hd];rfl))
       have hd1:((x:Int) != 46)=false:=by simp[hd]
       clear hd
       go_wp2_with (first
        | (go_at_call 175;refine(hnx _).mono ?_;rintro e w1 ⟨rfl,hb1⟩;have hB1:=hB.trans (hb1.mono hB.size))
        | (go_at_call 178;refine(hle _).mono ?_;rintro e w3 ⟨rfl,hb3⟩;have hB3:=hB1.trans (hb3.mono hB1.size)))
       go_roundw
       case rel=>exact⟨k+d,best,by omega,rfl,by go_num,λh=>by omega,hB3,fu Hgo2.out hd1 h0⟩
       case measure=>simp[intOf];omega
      ·have Hout2:=Lib.hid (Hout.out (by simp[hd]))
       have hd1:((x:Int) != 46)=true:=by simp[hd]
       clear hd
       go_wp2_with (first
        | (go_at_call 175;refine(hnx _).mono ?_;rintro e w1 ⟨rfl,hb1⟩;have hB1:=hB.trans (hb1.mono hB.size))
        | (go_at_call 178;refine(hle _).mono ?_;rintro e w3 ⟨rfl,hb3⟩;have hB3:=hB1.trans (hb3.mono hB1.size)))
       go_ret
       exact⟨by rw[Hout2.out];rfl,hB3⟩
  ·have hres:=Lib.hid (fZ H.out (.inl (by rw[hsz];omega)))
   clear hsz hb0
   go_wp2
   go_ret
   exact⟨by rw[hres.out];rfl,hB⟩
theorem Ch (s:ByteArray) (w:World) (hs:s.size<=2000000) :
  Calls Tryz.prog 144 #[.string s] w λe w'=>e=.returned (.int .i64 (tag s.data.toList))/\w=w':=by
 have hsz:s.data.toList.length=s.size:=ac s
 have Hsz:=Lib.hid hsz
 clear hsz
 go_enter Tryz.func144,Tryz.ntmps144
 go_wp2
 go_loop [3] (λi=>∃k:Nat,k<=s.size/\i=.int .i64 k/\Hid (span aT s.data.toList=k+span aT (s.data.toList.drop k))) (λi=>s.size-(intOf i).toNat)
 case atStart=>exact⟨0,by omega,rfl,by show _=_;simp⟩
 case round =>
  obtain⟨k,hk,rfl,H⟩:=hrel
  have hb:=fG s k
  have hal:=λW=>ql (bn s k) W (by omega) (by omega)
  have go:aT (bn s k)=true->k<s.size->span aT s.data.toList=(k+1)+span aT (s.data.toList.drop (k+1)):=λha hlt=>by
   rw[H.out,eS _ _ _ (by rw[Hsz.out];exact hlt),fB,if_pos ha];omega
  have stop:(k<s.size->aT (bn s k)=false)->span aT s.data.toList=k:=λha=>by
   rw[H.out]
   rcases Nat.lt_or_ge k s.size with h|h
   ·rw[eS _ _ _ (by rw[Hsz.out];exact h),fB,ha h];rfl
   ·rw[iv _ _ _ (by rw[Hsz.out];exact h)];rfl
  have Hgo:=Lib.hid go
  have Hstop:=Lib.hid stop
  clear go stop H
  by_cases hlt:k<s.size/\aT (bn s k)=true
  ·obtain⟨hlt,ha⟩:=hlt
   rw[ha]at hal
   have hg:=Lib.hid (Hgo.out ha hlt)
   clear ha
   go_wp2_with (go_at_call 179;refine(hal _).mono ?_;rintro e w1 ⟨rfl,rfl⟩)
   go_round
   case rel=>exact⟨k+1,by omega,by go_num,hg⟩
   case measure=>simp[intOf];omega
  ·have hsp:=Hstop.out (λh=>by
    cases hh:aT (bn s k) with
    | false=>rfl
    | true=>exact absurd ⟨h,hh⟩ hlt)
   have hT:cP s.data.toList k:=by unfold cP tag;rw[hsp]
   have HT:=Lib.hid hT
   clear hsp hT Hgo Hstop
   have key:∀b:Bool,(k<s.size->aT (bn s k)=b)->b=false∨¬ k<s.size->True:=λ_ _ _=>trivial
   clear key
   by_cases hlt2:k<s.size
   case' pos =>
    have ha:aT (bn s k)=false:=by
     cases hh:aT (bn s k) with
     | false=>rfl
     | true=>exact absurd ⟨hlt2,hh⟩ hlt
    rw[ha]at hal
    clear ha
   all_goals
    clear hlt
    go_wp2_with (go_at_call 179;refine(hal _).mono ?_;rintro e w1 ⟨rfl,rfl⟩)
    clear hb hal
    go_loop [3] (λi=>∃n:Nat,n<=s.size/\i=.int .i64 n/\Hid (cP s.data.toList n)) (λi=>s.size-(intOf i).toNat)
    case atStart=>exact⟨k,by omega,rfl,HT⟩
    case round =>
     clear HT
     obtain⟨n,hn,rfl,HT⟩:=hrel
     have hb:=fG s n
     have hout:=λh=>er HT.out h
     have hgo:=λh=>gX HT.out h
     rw[Hsz.out,fB]at hout hgo
     have Hout:=Lib.hid hout
     have Hgo:=Lib.hid hgo
     clear hout hgo
     by_cases h0:0<n
     case' neg =>
      have Hres:=Lib.hid (Hout.out (λh=>h0 h.1))
      go_wp2
      go_ret
      exact⟨by rw[Hres.out];rfl,rfl⟩
     by_cases h1:n<s.size
     case' neg =>
      have Hres:=Lib.hid (Hout.out (λh=>h1 h.2.1))
      go_wp2
      go_ret
      exact⟨by rw[Hres.out];rfl,rfl⟩
     by_cases h2:bn s n=45
     case' neg =>
      have Hres:=Lib.hid (Hout.out (λh=>h2 h.2.2.1))
      have h3:((bn s n:Int) == 45)=false:=by simp;omega
      clear h2
      go_wp2
      go_ret
      exact⟨by rw[Hres.out];rfl,rfl⟩
     have h3:((bn s n:Int) == 45)=true:=by simp;omega
     have H2:=Lib.hid h2
     clear h2
     go_wp2
     go_loop [4] (λi=>∃m:Nat,n+1<=m/\m<=s.size/\i=.int .i64 m/\Hid (span aX (s.data.toList.drop (n+1))=(m-(n+1))+span aX (s.data.toList.drop m))) (λi=>s.size-(intOf i).toNat)
     case atStart=>exact⟨n+1,by omega,by omega,by go_num,by show _=_;omega⟩
     case round =>
      obtain⟨m,hm1,hm2,rfl,H⟩:=hrel
      have hbm:=fG s m
      have hal:=λW=>ql (bn s m) W (by omega) (by omega)
      have hdi:=λW=>xH (bn s m) W (by omega) (by omega)
      have go:aX (bn s m)=true->m<s.size->span aX (s.data.toList.drop (n+1))=((m+1)-(n+1))+span aX (s.data.toList.drop (m+1)):=λha hlt=>by
       rw[H.out,eS _ _ m (by rw[Hsz.out];exact hlt),fB,if_pos ha];omega
      have stop:(m<s.size->aX (bn s m)=false)->span aX (s.data.toList.drop (n+1))=m-(n+1):=λha=>by
       rw[H.out]
       rcases Nat.lt_or_ge m s.size with h|h
       ·rw[eS _ _ m (by rw[Hsz.out];exact h),fB,ha h];rfl
       ·rw[iv _ _ m (by rw[Hsz.out];exact h)];rfl
      have Hg:=Lib.hid go
      have Hs:=Lib.hid stop
      clear go stop H
      by_cases hlt:m<s.size
      ·by_cases ha:aT (bn s m)=true
       ·have hg:=Lib.hid (Hg.out (by unfold aX;rw[ha];rfl) hlt)
        rw[ha]at hal
        clear ha Hg Hs
        go_wp2_with (go_at_call 179;refine(hal _).mono ?_;rintro e w1 ⟨rfl,rfl⟩)
        go_round
        case rel=>exact⟨m+1,by omega,by omega,by go_num,hg⟩
        case measure=>simp[intOf];omega
       ·have ha:aT (bn s m)=false:=by simpa using ha
        rw[ha]at hal
        by_cases hd:cW (bn s m)=true
        ·have hg:=Lib.hid (Hg.out (by unfold aX;rw[hd];simp) hlt)
         rw[hd]at hdi
         clear ha hd Hg Hs
         go_wp2_with (first
          | (go_at_call 179;refine(hal _).mono ?_;rintro e w1 ⟨rfl,rfl⟩)
          | (go_at_call 180;refine(hdi _).mono ?_;rintro e w1 ⟨rfl,rfl⟩))
         go_round
         case rel=>exact⟨m+1,by omega,by omega,by go_num,hg⟩
         case measure=>simp[intOf];omega
        ·have hd:cW (bn s m)=false:=by simpa using hd
         have hs':=Hs.out (λ_=>by unfold aX;rw[ha,hd];rfl)
         rw[hd]at hdi
         clear ha hd Hg Hs
         by_cases hz:m=n+1
         ·have hz1:((m:Int) == (n:Int)+1)=true:=by simp;omega
          have Hres:=Lib.hid (Hout.out (λh=>h.2.2.2 (by rw[hs'];omega)))
          clear hs' hz
          go_wp2_with (first
           | (go_at_call 179;refine(hal _).mono ?_;rintro e w1 ⟨rfl,rfl⟩)
           | (go_at_call 180;refine(hdi _).mono ?_;rintro e w1 ⟨rfl,rfl⟩))
          go_ret
          exact⟨by rw[Hres.out];rfl,rfl⟩
         ·have hz1:((m:Int) == (n:Int)+1)=false:=by simp;omega
          have hr:=Hgo.out ⟨h0,h1,H2.out,by rw[hs'];omega⟩
          rw[hs',show n+1+(m-(n+1))=m from by omega]at hr
          have Hr:=Lib.hid hr
          clear hs' hz hr
          go_wp2_with (first
           | (go_at_call 179;refine(hal _).mono ?_;rintro e w1 ⟨rfl,rfl⟩)
           | (go_at_call 180;refine(hdi _).mono ?_;rintro e w1 ⟨rfl,rfl⟩))
          go_round
          case rel=>exact⟨m,by omega,rfl,Hr⟩
          case measure=>simp[intOf];omega
      ·have hs':=Hs.out (λh=>absurd h hlt)
       clear Hg Hs
       by_cases hz:m=n+1
       ·have hz1:((m:Int) == (n:Int)+1)=true:=by simp;omega
        have Hres:=Lib.hid (Hout.out (λh=>h.2.2.2 (by rw[hs'];omega)))
        clear hs' hz
        go_wp2
        go_ret
        exact⟨by rw[Hres.out];rfl,rfl⟩
       ·have hz1:((m:Int) == (n:Int)+1)=false:=by simp;omega
        have hr:=Hgo.out ⟨h0,h1,H2.out,by rw[hs'];omega⟩
        rw[hs',show n+1+(m-(n+1))=m from by omega]at hr
        have Hr:=Lib.hid hr
        clear hs' hz hr
        go_wp2
        go_round
        case rel=>exact⟨m,by omega,rfl,Hr⟩
        case measure=>simp[intOf];omega
end Go.Proofs.YtjldjeenfnahoaaGreatDoor
