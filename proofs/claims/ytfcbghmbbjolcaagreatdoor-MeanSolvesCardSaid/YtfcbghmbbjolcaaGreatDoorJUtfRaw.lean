/- The reference's Text, Signs. The reference's Label, Tag. The -/
import Derived.Test.YtfcbghmbbjolcaaGreatDoorJUtfNext
set_option maxHeartbeats 2000000
namespace Go.Proofs.YtfcbghmbbjolcaaGreatDoor
open Go Go.RowKit Um
theorem Fx:(Tryz.prog.info? 3).map (λi=>(i.zero,i.size,i.bytes))=some (some (.int .i64 0),1,8):=by kernel_rfl
theorem BO (s:ByteArray) (w:World) (hs:s.size<=2000000) :
  Calls Tryz.prog 283 #[.string s] w λe w'=>∃v n,e=.returned (.tuple #[v,.int .i64 (ix s.data.toList).2.1,.int .i64 (ix s.data.toList).2.2]) /\
   w'.ownsRow w.heap.size 3 1 v n ((ix s.data.toList).1.map (Value.int .i64))/\Below w.heap.size w w':=by
 go_enter Tryz.func283,Tryz.ntmps283
 go_wp2
 go_loopw [5,6] (λv i wr=>∃k n:Nat,∃acc:List Int,k<=s.size/\n<=k/\i=.int .i64 k/\wr.ownsRow w.heap.size 3 1 v n (acc.map (Value.int .i64))/\Below w.heap.size w wr/\Hid (fi s.data.toList k acc)) (λ_ i _=>s.size-(intOf i).toNat)
 case atStart=>exact⟨0,0,[],by omega,by omega,rfl,by simpa using World.ownsRow_nil _ _ _ _,Below.refl _ _,qN _⟩
 case round =>
  obtain⟨k,n,acc,hk,hnk,rfl,hown,hB,H⟩:=hrel
  have hsz:s.data.toList.length=s.size:=ar s
  by_cases hlt:k<s.size
  ·have hnx:=λW=>xq s k W hlt (by omega)
   by_cases h0:(nx (from_ s k)).2=0
   ·have hres:=Lib.hid (vE H.out (by rw[hsz];exact hlt) h0)
    rw[h0]at hnx
    clear hsz
    generalize (nx (from_ s k)).1=x at hnx
    go_wp2_with (go_at_call 284;refine(hnx _).mono ?_;rintro e w1 ⟨rfl,hb1⟩)
    go_ret3
    refine⟨_,0,by rw[hres.out];rfl,?_,hB.trans (hb1.mono hB.size)⟩
    rw[hres.out]
    simpa using World.ownsRow_nil _ _ _ _
   ·have hres:=Lib.hid (yT H.out (by rw[hsz];exact hlt) h0)
    obtain⟨h1,h2,h3⟩:=jL s k h0
    clear hsz
    generalize (nx (from_ s k)).1=x at hnx h3 hres
    generalize (nx (from_ s k)).2=d at hnx h0 h1 h2 hres
    have hd:(d:Int)≠0:=by omega
    have hd1:((d:Int) == 0)=false:=by simpa using hd
    go_wp2_with (first
     | (go_at_call 284;refine(hnx _).mono ?_;rintro e w1 ⟨rfl,hb1⟩;have hown1:=own_below hown hb1 (Nat.le_refl _);have hB1:=hB.trans (hb1.mono hB.size))
     | (at_builtin;refine bg rfl rfl Tryz.underlying54 Fx rfl (by omega) rfl (hown1.alloc _) rfl (Rd.of_block (heap_alloc_new w1 _) rfl) rfl (ints_oneCell _ [(x:Int)]) (by omega) (by omega) (by have:=hB1.size;simp;omega) ?_;intro v2 w2 hown2 hb2))
    go_roundw
    case rel =>
     refine⟨k+d,n+1,acc++[(x:Int)],by omega,by omega,by go_num,by simpa using hown2,(hB1.alloc hB1.size _).trans hb2,hres.out⟩
    case measure=>simp[intOf];omega
  ·have hkl:k=s.size:=by omega
   have hres:=Lib.hid (vD H.out (by rw[hsz];omega))
   clear hkl hsz
   go_wp2
   go_ret3
   refine⟨_,n,by rw[hres.out];rfl,?_,hB⟩
   rw[hres.out]
   exact hown
theorem ti (c:Int) (w:World) (h0:0<=c) (h1:c<256) :
  Calls Tryz.prog 288 #[.int .u8 c] w λe w'=>e=.returned (.bool (aM c))/\w=w':=by
 go_enter Tryz.func288,Tryz.ntmps288
 go_wp2
 all_goals
  go_ret
  refine⟨?_,rfl⟩
  simp[aM,inB, *]
 all_goals omega
theorem BR (c:Int) (w:World) (h0:0<=c) (h1:c<256) :
  Calls Tryz.prog 289 #[.int .u8 c] w λe w'=>e=.returned (.bool (dt c))/\w=w':=by
 go_enter Tryz.func289,Tryz.ntmps289
 go_wp2
 all_goals
  go_ret
  refine⟨?_,rfl⟩
  simp[dt, *]
 all_goals omega
theorem jf {l:List UInt8} {k d x best:Nat} (h:bC l false (k+d) (if x=46 then best else k+d)) (hx:((x:Int) != 46)=true) (hd:d≠0):bC l (k+d == 0) (k+d) (k+d):=by
 have h1:(k+d == 0)=false:=by simp;omega
 have h2:¬ x=46:=by rw[bne_iff_ne]at hx;omega
 rw[h1];rwa [if_neg h2]at h
theorem fT {l:List UInt8} {k d x best:Nat} (h:bC l false (k+d) (if x=46 then best else k+d)) (hx:((x:Int) != 46)=false) (hd:d≠0):bC l (k+d == 0) (k+d) best:=by
 have h1:(k+d == 0)=false:=by simp;omega
 have h2:x=46:=by simp at hx;omega
 rw[h1];rwa [if_pos h2]at h
theorem BP (s:ByteArray) (w:World) (hs:s.size<=2000000) :
  Calls Tryz.prog 248 #[.string s] w λe w'=>e=.returned (.int .i64 (jS s.data.toList))/\Below w.heap.size w w':=by
 go_enter Tryz.func248,Tryz.ntmps248
 go_wp2
 go_loopw [3,4] (λb i wr=>∃k best:Nat,k<=s.size/\b=.int .i64 best/\i=.int .i64 k/\(k=0->best=0)/\Below w.heap.size w wr/\Hid (bC s.data.toList (k == 0) k best)) (λ_ i _=>s.size-(intOf i).toNat)
 case atStart=>exact⟨0,0,by omega,rfl,rfl,λ_=>rfl,Below.refl _ _,iM _⟩
 case round =>
  obtain⟨k,best,hk,rfl,rfl,hb0,hB,H⟩:=hrel
  have hsz:s.data.toList.length=s.size:=ar s
  by_cases hlt:k<s.size
  ·have hnx:=λW=>xq s k W hlt (by omega)
   by_cases h0:(nx (from_ s k)).2=0
   ·have hres:=Lib.hid (gI H.out (.inr h0))
    rw[h0]at hnx
    clear hsz hb0
    generalize (nx (from_ s k)).1=x at hnx
    go_wp2_with (go_at_call 284;refine(hnx _).mono ?_;rintro e w1 ⟨rfl,hb1⟩)
    go_ret
    exact⟨by rw[hres.out];rfl,hB.trans (hb1.mono hB.size)⟩
   ·have hout:=lE H.out
    have hgo:=nW H.out (by rw[hsz];exact hlt) h0
    obtain⟨h1,h2,h3⟩:=jL s k h0
    clear hsz H
    have e1:(List.drop k s.data.toList)=from_ s k:=rfl
    rw[e1]at hout hgo
    clear e1
    generalize (nx (from_ s k)).1=x at hnx h3 hout hgo
    generalize (nx (from_ s k)).2=d at hnx h0 h1 h2 hgo
    have Hout:=Lib.hid hout
    have Hgo:=Lib.hid hgo
    have Hb0:=Lib.hid hb0
    clear hout hgo hb0
    have hd1:((d:Int) == 0)=false:=by simp;omega
    have hfi:=λW=>tf (x:Int) W
    have hle:=λW=>yY (x:Int) W
    have hin:=λ(W:World) (g:Nat) hW=>BQ (x:Int) jn (some ⟨g,0,none⟩) 6 W (by decide) hW
    by_cases hk0:k=0
    ·have hz:((k:Int) == 0)=true:=by simp[hk0]
     have hb0:=Lib.hid (Hb0.out hk0)
     have Hk0:=Lib.hid hk0
     have Hst:=Lib.hid (show (k == 0)=true by simp[hk0])
     rw[Hst.out]at Hgo Hout
     clear hk0
     by_cases hbeg:cX x=true
     ·have hlet:=rP x hbeg
      rw[hlet]at hle
      have Hgo2:=Lib.hid (Hgo.out hbeg)
      clear hlet
      unfold cX at hbeg
      by_cases hf:cJ x=true
      ·rw[hf]at hfi
       clear hbeg hf
       go_wp2_with (first
        | (go_at_call 284;refine(hnx _).mono ?_;rintro e w1 ⟨rfl,hb1⟩;have hB1:=hB.trans (hb1.mono hB.size))
        | (go_at_call 285;refine(hfi _).mono ?_;rintro e w2 ⟨rfl,hb2⟩;have hB2:=hB1.trans (hb2.mono hB1.size))
        | (go_at_call 287;refine(hle _).mono ?_;rintro e w3 ⟨rfl,hb3⟩;have hB3:=hB2.trans (hb3.mono hB2.size)))
       ·have hx:((x:Int) != 46)=true:=by assumption
        go_roundw
        case rel=>exact⟨k+d,k+d,by omega,by go_num,by go_num,λh=>by omega,hB3,jf Hgo2.out hx h0⟩
        case measure=>simp[intOf];omega
       ·have hx:((x:Int) != 46)=false:=by assumption
        go_roundw
        case rel=>exact⟨k+d,best,by omega,rfl,by go_num,λh=>by omega,hB3,fT Hgo2.out hx h0⟩
        case measure=>simp[intOf];omega
      ·have hf:cJ x=false:=by simpa using hf
       rw[hf]at hfi hbeg
       have hi:inB x jn=true:=by simpa using hbeg
       rw[hi]at hin
       clear hbeg hf hi
       go_wp2_with (first
        | (go_at_call 284;refine(hnx _).mono ?_;rintro e w1 ⟨rfl,hb1⟩;have hB1:=hB.trans (hb1.mono hB.size))
        | (go_at_call 285;refine(hfi _).mono ?_;rintro e w2 ⟨rfl,hb2⟩;have hB2:=hB1.trans (hb2.mono hB1.size))
        | (go_at_call 286;refine(hin _ _ ?_).mono ?_;exact Rd.of_block (heap_alloc_new w2 _) rfl;rintro e w4 ⟨rfl,rfl⟩;have hB4:=hB2.alloc hB2.size (.cells #[.int .i64 95,.int .i64 95,.int .i64 58,.int .i64 58,.int .i64 48,.int .i64 57] 3))
        | (go_at_call 287;refine(hle _).mono ?_;rintro e w3 ⟨rfl,hb3⟩;have hB3:=hB4.trans (hb3.mono hB4.size)))
       ·have hx:((x:Int) != 46)=true:=by assumption
        go_roundw
        case rel=>exact⟨k+d,k+d,by omega,by go_num,by go_num,λh=>by omega,hB3,jf Hgo2.out hx h0⟩
        case measure=>simp[intOf];omega
       ·have hx:((x:Int) != 46)=false:=by assumption
        go_roundw
        case rel=>exact⟨k+d,best,by omega,rfl,by go_num,λh=>by omega,hB3,fT Hgo2.out hx h0⟩
        case measure=>simp[intOf];omega
     ·have hbeg:cX x=false:=by simpa using hbeg
      have Hout2:=Lib.hid (Hout.out hbeg)
      unfold cX at hbeg
      have hf:cJ x=false:=by simp at hbeg;exact hbeg.1
      have hi:inB x jn=false:=by simp at hbeg;exact hbeg.2
      rw[hf]at hfi
      rw[hi]at hin
      clear hbeg hf hi
      go_wp2_with (first
       | (go_at_call 284;refine(hnx _).mono ?_;rintro e w1 ⟨rfl,hb1⟩;have hB1:=hB.trans (hb1.mono hB.size))
       | (go_at_call 285;refine(hfi _).mono ?_;rintro e w2 ⟨rfl,hb2⟩;have hB2:=hB1.trans (hb2.mono hB1.size))
       | (go_at_call 286;refine(hin _ _ ?_).mono ?_;exact Rd.of_block (heap_alloc_new w2 _) rfl;rintro e w4 ⟨rfl,rfl⟩;have hB4:=hB2.alloc hB2.size (.cells #[.int .i64 95,.int .i64 95,.int .i64 58,.int .i64 58,.int .i64 48,.int .i64 57] 3)))
      go_ret
      exact⟨by rw[Hout2.out,hb0.out];rfl,hB4⟩
    ·have hz:((k:Int) == 0)=false:=by simp;omega
     have Hst:=Lib.hid (show (k == 0)=false by simp[hk0])
     rw[Hst.out]at Hgo Hout
     clear hk0 Hb0
     rw[show tK false x=(cz x || decide ((x:Int)=46)) from rfl]at Hgo Hout
     by_cases hl:cz x=true
     ·have Hgo2:=Lib.hid (Hgo.out (by rw[hl];rfl))
      rw[hl]at hle
      clear hl
      go_wp2_with (first
       | (go_at_call 284;refine(hnx _).mono ?_;rintro e w1 ⟨rfl,hb1⟩;have hB1:=hB.trans (hb1.mono hB.size))
       | (go_at_call 287;refine(hle _).mono ?_;rintro e w3 ⟨rfl,hb3⟩;have hB3:=hB1.trans (hb3.mono hB1.size)))
      ·have hx:((x:Int) != 46)=true:=by assumption
       go_roundw
       case rel=>exact⟨k+d,k+d,by omega,by go_num,by go_num,λh=>by omega,hB3,jf Hgo2.out hx h0⟩
       case measure=>simp[intOf];omega
      ·have hx:((x:Int) != 46)=false:=by assumption
       go_roundw
       case rel=>exact⟨k+d,best,by omega,rfl,by go_num,λh=>by omega,hB3,fT Hgo2.out hx h0⟩
       case measure=>simp[intOf];omega
     ·have hl:cz x=false:=by simpa using hl
      rw[hl]at hle Hgo Hout
      clear hl
      by_cases hd:(x:Int)=46
      ·have Hgo2:=Lib.hid (Hgo.out (by rw[hd];rfl))
       have hd1:((x:Int) != 46)=false:=by simp[hd]
       clear hd
       go_wp2_with (first
        | (go_at_call 284;refine(hnx _).mono ?_;rintro e w1 ⟨rfl,hb1⟩;have hB1:=hB.trans (hb1.mono hB.size))
        | (go_at_call 287;refine(hle _).mono ?_;rintro e w3 ⟨rfl,hb3⟩;have hB3:=hB1.trans (hb3.mono hB1.size)))
       go_roundw
       case rel=>exact⟨k+d,best,by omega,rfl,by go_num,λh=>by omega,hB3,fT Hgo2.out hd1 h0⟩
       case measure=>simp[intOf];omega
      ·have Hout2:=Lib.hid (Hout.out (by simp[hd]))
       have hd1:((x:Int) != 46)=true:=by simp[hd]
       clear hd
       go_wp2_with (first
        | (go_at_call 284;refine(hnx _).mono ?_;rintro e w1 ⟨rfl,hb1⟩;have hB1:=hB.trans (hb1.mono hB.size))
        | (go_at_call 287;refine(hle _).mono ?_;rintro e w3 ⟨rfl,hb3⟩;have hB3:=hB1.trans (hb3.mono hB1.size)))
       go_ret
       exact⟨by rw[Hout2.out];rfl,hB3⟩
  ·have hres:=Lib.hid (gI H.out (.inl (by rw[hsz];omega)))
   clear hsz hb0
   go_wp2
   go_ret
   exact⟨by rw[hres.out];rfl,hB⟩
theorem GO (s:ByteArray) (w:World) (hs:s.size<=2000000) :
  Calls Tryz.prog 249 #[.string s] w λe w'=>e=.returned (.int .i64 (tag s.data.toList))/\w=w':=by
 have hsz:s.data.toList.length=s.size:=ar s
 have Hsz:=Lib.hid hsz
 clear hsz
 go_enter Tryz.func249,Tryz.ntmps249
 go_wp2
 go_loop [3] (λi=>∃k:Nat,k<=s.size/\i=.int .i64 k/\Hid (span aM s.data.toList=k+span aM (s.data.toList.drop k))) (λi=>s.size-(intOf i).toNat)
 case atStart=>exact⟨0,by omega,rfl,by show _=_;simp⟩
 case round =>
  obtain⟨k,hk,rfl,H⟩:=hrel
  have hb:=gh s k
  have hal:=λW=>ti (bn s k) W (by omega) (by omega)
  have go:aM (bn s k)=true->k<s.size->span aM s.data.toList=(k+1)+span aM (s.data.toList.drop (k+1)):=λha hlt=>by
   rw[H.out,fA _ _ _ (by rw[Hsz.out];exact hlt),fW,if_pos ha];omega
  have stop:(k<s.size->aM (bn s k)=false)->span aM s.data.toList=k:=λha=>by
   rw[H.out]
   rcases Nat.lt_or_ge k s.size with h|h
   ·rw[fA _ _ _ (by rw[Hsz.out];exact h),fW,ha h];rfl
   ·rw[jt _ _ _ (by rw[Hsz.out];exact h)];rfl
  have Hgo:=Lib.hid go
  have Hstop:=Lib.hid stop
  clear go stop H
  by_cases hlt:k<s.size/\aM (bn s k)=true
  ·obtain⟨hlt,ha⟩:=hlt
   rw[ha]at hal
   have hg:=Lib.hid (Hgo.out ha hlt)
   clear ha
   go_wp2_with (go_at_call 288;refine(hal _).mono ?_;rintro e w1 ⟨rfl,rfl⟩)
   go_round
   case rel=>exact⟨k+1,by omega,by go_num,hg⟩
   case measure=>simp[intOf];omega
  ·have hsp:=Hstop.out (λh=>by
    cases hh:aM (bn s k) with
    | false=>rfl
    | true=>exact absurd ⟨h,hh⟩ hlt)
   have hT:di s.data.toList k:=by unfold di tag;rw[hsp]
   have HT:=Lib.hid hT
   clear hsp hT Hgo Hstop
   have key:∀b:Bool,(k<s.size->aM (bn s k)=b)->b=false∨¬ k<s.size->True:=λ_ _ _=>trivial
   clear key
   by_cases hlt2:k<s.size
   case' pos =>
    have ha:aM (bn s k)=false:=by
     cases hh:aM (bn s k) with
     | false=>rfl
     | true=>exact absurd ⟨hlt2,hh⟩ hlt
    rw[ha]at hal
    clear ha
   all_goals
    clear hlt
    go_wp2_with (go_at_call 288;refine(hal _).mono ?_;rintro e w1 ⟨rfl,rfl⟩)
    clear hb hal
    go_loop [3] (λi=>∃n:Nat,n<=s.size/\i=.int .i64 n/\Hid (di s.data.toList n)) (λi=>s.size-(intOf i).toNat)
    case atStart=>exact⟨k,by omega,rfl,HT⟩
    case round =>
     clear HT
     obtain⟨n,hn,rfl,HT⟩:=hrel
     have hb:=gh s n
     have hout:=λh=>eX HT.out h
     have hgo:=λh=>iV HT.out h
     rw[Hsz.out,fW]at hout hgo
     have Hout:=Lib.hid hout
     have Hgo:=Lib.hid hgo
     clear hout hgo
     by_cases h0:0<n
     case' neg =>
      have Hres:=Lib.hid (Hout.out (λh=>h0 h.1))
      go_wp2
      go_ret
      exact⟨by rw[Hres.out];rfl,rfl⟩
     by_cases h1:n<s.size
     case' neg =>
      have Hres:=Lib.hid (Hout.out (λh=>h1 h.2.1))
      go_wp2
      go_ret
      exact⟨by rw[Hres.out];rfl,rfl⟩
     by_cases h2:bn s n=45
     case' neg =>
      have Hres:=Lib.hid (Hout.out (λh=>h2 h.2.2.1))
      have h3:((bn s n:Int) == 45)=false:=by simp;omega
      clear h2
      go_wp2
      go_ret
      exact⟨by rw[Hres.out];rfl,rfl⟩
     have h3:((bn s n:Int) == 45)=true:=by simp;omega
     have H2:=Lib.hid h2
     clear h2
     go_wp2
     go_loop [4] (λi=>∃m:Nat,n+1<=m/\m<=s.size/\i=.int .i64 m/\Hid (span aO (s.data.toList.drop (n+1))=(m-(n+1))+span aO (s.data.toList.drop m))) (λi=>s.size-(intOf i).toNat)
     case atStart=>exact⟨n+1,by omega,by omega,by go_num,by show _=_;omega⟩
     case round =>
      obtain⟨m,hm1,hm2,rfl,H⟩:=hrel
      have hbm:=gh s m
      have hal:=λW=>ti (bn s m) W (by omega) (by omega)
      have hdi:=λW=>BR (bn s m) W (by omega) (by omega)
      have go:aO (bn s m)=true->m<s.size->span aO (s.data.toList.drop (n+1))=((m+1)-(n+1))+span aO (s.data.toList.drop (m+1)):=λha hlt=>by
       rw[H.out,fA _ _ m (by rw[Hsz.out];exact hlt),fW,if_pos ha];omega
      have stop:(m<s.size->aO (bn s m)=false)->span aO (s.data.toList.drop (n+1))=m-(n+1):=λha=>by
       rw[H.out]
       rcases Nat.lt_or_ge m s.size with h|h
       ·rw[fA _ _ m (by rw[Hsz.out];exact h),fW,ha h];rfl
       ·rw[jt _ _ m (by rw[Hsz.out];exact h)];rfl
      have Hg:=Lib.hid go
      have Hs:=Lib.hid stop
      clear go stop H
      by_cases hlt:m<s.size
      ·by_cases ha:aM (bn s m)=true
       ·have hg:=Lib.hid (Hg.out (by unfold aO;rw[ha];rfl) hlt)
        rw[ha]at hal
        clear ha Hg Hs
        go_wp2_with (go_at_call 288;refine(hal _).mono ?_;rintro e w1 ⟨rfl,rfl⟩)
        go_round
        case rel=>exact⟨m+1,by omega,by omega,by go_num,hg⟩
        case measure=>simp[intOf];omega
       ·have ha:aM (bn s m)=false:=by simpa using ha
        rw[ha]at hal
        by_cases hd:dt (bn s m)=true
        ·have hg:=Lib.hid (Hg.out (by unfold aO;rw[hd];simp) hlt)
         rw[hd]at hdi
         clear ha hd Hg Hs
         go_wp2_with (first
          | (go_at_call 288;refine(hal _).mono ?_;rintro e w1 ⟨rfl,rfl⟩)
          | (go_at_call 289;refine(hdi _).mono ?_;rintro e w1 ⟨rfl,rfl⟩))
         go_round
         case rel=>exact⟨m+1,by omega,by omega,by go_num,hg⟩
         case measure=>simp[intOf];omega
        ·have hd:dt (bn s m)=false:=by simpa using hd
         have hs':=Hs.out (λ_=>by unfold aO;rw[ha,hd];rfl)
         rw[hd]at hdi
         clear ha hd Hg Hs
         by_cases hz:m=n+1
         ·have hz1:((m:Int) == (n:Int)+1)=true:=by simp;omega
          have Hres:=Lib.hid (Hout.out (λh=>h.2.2.2 (by rw[hs'];omega)))
          clear hs' hz
          go_wp2_with (first
           | (go_at_call 288;refine(hal _).mono ?_;rintro e w1 ⟨rfl,rfl⟩)
           | (go_at_call 289;refine(hdi _).mono ?_;rintro e w1 ⟨rfl,rfl⟩))
          go_ret
          exact⟨by rw[Hres.out];rfl,rfl⟩
         ·have hz1:((m:Int) == (n:Int)+1)=false:=by simp;omega
          have hr:=Hgo.out ⟨h0,h1,H2.out,by rw[hs'];omega⟩
          rw[hs',show n+1+(m-(n+1))=m from by omega]at hr
          have Hr:=Lib.hid hr
          clear hs' hz hr
          go_wp2_with (first
           | (go_at_call 288;refine(hal _).mono ?_;rintro e w1 ⟨rfl,rfl⟩)
           | (go_at_call 289;refine(hdi _).mono ?_;rintro e w1 ⟨rfl,rfl⟩))
          go_round
          case rel=>exact⟨m,by omega,rfl,Hr⟩
          case measure=>simp[intOf];omega
      ·have hs':=Hs.out (λh=>absurd h hlt)
       clear Hg Hs
       by_cases hz:m=n+1
       ·have hz1:((m:Int) == (n:Int)+1)=true:=by simp;omega
        have Hres:=Lib.hid (Hout.out (λh=>h.2.2.2 (by rw[hs'];omega)))
        clear hs' hz
        go_wp2
        go_ret
        exact⟨by rw[Hres.out];rfl,rfl⟩
       ·have hz1:((m:Int) == (n:Int)+1)=false:=by simp;omega
        have hr:=Hgo.out ⟨h0,h1,H2.out,by rw[hs'];omega⟩
        rw[hs',show n+1+(m-(n+1))=m from by omega]at hr
        have Hr:=Lib.hid hr
        clear hs' hz hr
        go_wp2
        go_round
        case rel=>exact⟨m,by omega,rfl,Hr⟩
        case measure=>simp[intOf];omega
open Fm
theorem tk (s:ByteArray) (w:World) (hs:s.size<=1048576) :
  Calls Tryz.prog 247 #[.string s] w λe w'=>e=.returned (.bool (aG s))/\Below w.heap.size w w':=by
 have hS:=BO s w (by omega)
 cases hv:aG s
 ·rw[sT hv]at hS
  generalize (ix s.data.toList).2.1=j at *
  generalize (ix s.data.toList).1=l at *
  clear hv
  go_enter Tryz.func247,Tryz.ntmps247
  go_wp2_with (refine hS.mono ?_;rintro e w2 ⟨v,m,rfl,-,hb⟩)
  go_ret
  exact⟨rfl,hb⟩
 ·rw[oV hv]at hS
  generalize (ix s.data.toList).2.1=j at *
  generalize (ix s.data.toList).1=l at *
  clear hv
  go_enter Tryz.func247,Tryz.ntmps247
  go_wp2_with (refine hS.mono ?_;rintro e w2 ⟨v,m,rfl,-,hb⟩)
  go_ret
  exact⟨rfl,hb⟩
theorem yR (s:ByteArray) (k:Nat) (h:k<s.size):dF (s.data.toList.drop k)=(!(decide (65<=bn s k) && decide (bn s k<=90)) && dF (s.data.toList.drop (k+1))):=by
 have hl:k<s.data.toList.length:=by rw[ar];exact h
 rw[List.drop_eq_getElem_cons hl]
 unfold dF
 rw[List.all_cons]
 congr 2
 unfold upB bn
 rw[List.getD_eq_getElem?_getD,List.getElem?_eq_getElem hl];rfl
theorem BV (s:ByteArray) (w:World) (hs:s.size<=1048576) :
  Calls Tryz.prog 250 #[.string s] w λe w'=>e=.returned (.bool (dF s.data.toList))/\w=w':=by
 go_enter Tryz.func250,Tryz.ntmps250
 go_wp2
 go_loop [3] (λi=>∃k:Nat,k<=s.size/\i=.int .i64 k/\Hid (dF s.data.toList=dF (s.data.toList.drop k))) (λi=>s.size-(intOf i).toNat)
 case atStart=>exact⟨0,by omega,rfl,rfl⟩
 case round =>
  obtain⟨k,hk,rfl,H⟩:=hrel
  by_cases hlt:k<s.size
  ·have hb:=gh s k
   have H2:Hid (dF s.data.toList=(!(decide (65<=bn s k) && decide (bn s k<=90)) && dF (s.data.toList.drop (k+1)))):=by show _=_;rw[H.out,yR s k hlt]
   by_cases h1:65<=bn s k
   ·by_cases h2:bn s k<=90
    ·go_wp2
     go_ret
     exact⟨by rw[H2.out,decide_eq_true h1,decide_eq_true h2];rfl,rfl⟩
    ·go_wp2
     go_round
     case rel=>exact⟨k+1,by omega,by go_num,by show _=_;rw[H2.out,decide_eq_false h2,Bool.and_false,Bool.not_false,Bool.true_and]⟩
     case measure=>simp[intOf];omega
   ·go_wp2
    go_round
    case rel=>exact⟨k+1,by omega,by go_num,by show _=_;rw[H2.out,decide_eq_false h1,Bool.false_and,Bool.not_false,Bool.true_and]⟩
    case measure=>simp[intOf];omega
  ·have H2:Hid (dF s.data.toList=true):=by show _=_;rw[H.out,List.drop_eq_nil_of_le (by rw[ar];omega)];rfl
   go_wp2
   go_ret
   exact⟨by rw[H2.out];rfl,rfl⟩
theorem Calls.quiet_r8 {P:Program} {f:FuncId} {args:Array Value} {w:World} {d:Nat} {os:Array Obj} {v:Value}
  (h:Calls P f args (Sort.grow (redrawn w d) os) λe w'=>e=.returned v/\Sort.grow (redrawn w d) os=w'):Calls P f args (Sort.grow (redrawn w d) os) λe w''=>e=.returned v/\∃p:Regrown,w''=Sort.grow (redrawn w p.d) p.os:=
 h.mono λ_ _ ⟨he,hb⟩=>⟨he,⟨d,os⟩,hb.symm⟩
theorem il (a b:ByteArray):ci (a++b)=(ci a && ci b):=by
 unfold ci
 rw[Bool.eq_iff_iff]
 simp[ByteArray.toList_eq]
set_option maxRecDepth 20000 in
theorem BW (t:Tm) (w:World) (hx:t.x.size<=1048576) (hl:t.l.size<=1048576) (hy:t.y.size<=1048576) :
  Calls Tryz.prog 197 #[.agg #[.int .i64 t.k,.string t.x,.string t.l,.string t.y]] w λe w'=>e=.returned (.bool (aB t))/\Below w.heap.size w w':=by
 obtain⟨k,x,l,y⟩:=t
 simp only at hx hl hy ⊢
 have hB0:Below w.heap.size w (w.alloc (.cells #[.int .i64 k,.string x,.string l,.string y] 62)):=blw
 have r0:(w.alloc (.cells #[.int .i64 k,.string x,.string l,.string y] 62)).cell? ⟨w.heap.size,0,none⟩=some (.int .i64 k):=by rw[World.cell?,heap_alloc_new];rfl
 have r1:(w.alloc (.cells #[.int .i64 k,.string x,.string l,.string y] 62)).cell? ⟨w.heap.size,1,none⟩=some (.string x):=by rw[World.cell?,heap_alloc_new];rfl
 have r2:(w.alloc (.cells #[.int .i64 k,.string x,.string l,.string y] 62)).cell? ⟨w.heap.size,2,none⟩=some (.string l):=by rw[World.cell?,heap_alloc_new];rfl
 have r3:(w.alloc (.cells #[.int .i64 k,.string x,.string l,.string y] 62)).cell? ⟨w.heap.size,3,none⟩=some (.string y):=by rw[World.cell?,heap_alloc_new];rfl
 obtain⟨W,hW⟩:∃W:World,w.alloc (.cells #[.int .i64 k,.string x,.string l,.string y] 62)=W:=⟨_,rfl⟩
 rw[hW]at hB0 r0 r1 r2 r3
 have hVx:=λW'=>tk x W' hx
 have hVy:=λW'=>tk y W' hy
 have hLx:=λW'=>BP x W' (by omega)
 have hTl:=λW'=>GO l W' (by omega)
 have hSl:=λW'=>BV l W' hl
 have htg:=vo l
 have hlb:kL x=(!x.toList.isEmpty && ((jS x.data.toList:Int) == x.size)):=rfl
 unfold aB
 simp only[il]
 rw[htg,hlb]
 unfold ci En
 clear htg hlb
 generalize aG x=v at *
 generalize aG y=v2 at *
 generalize jS x.data.toList=lb at *
 generalize tag l.data.toList=tg at *
 generalize dF l.data.toList=sm at *
 have HW:=Lib.hid hW
 have HB0:=Lib.hid hB0
 clear hW hB0
 by_cases h1:k=1
 ·subst h1
  rw[if_pos rfl]
  have hV:=hVx W
  clear hVx hVy hLx hTl hSl
  cases he1:l.toList.isEmpty
  all_goals cases he2:y.toList.isEmpty
  all_goals
   cases v
   all_goals
    go_enter Tryz.func197,Tryz.ntmps197
    go_wp2_with fail
    simp only[HW.out]
    go_wp2_with fail
    refine hV.mono ?_
    rintro e w2 ⟨rfl,hb2⟩
    replace r2:=ac r2 hb2
    replace r3:=ac r3 hb2
    go_wp2
    go_ret
    exact⟨rfl,aa HB0.out hb2⟩
 rw[if_neg h1]
 by_cases h2:k=2
 ·subst h2
  rw[if_pos rfl]
  clear hVx hVy hTl hSl h1
  have R1:=λd os=>ac r1 (below_regrown W d os)
  have R2:=λd os=>ac r2 (below_regrown W d os)
  have R3:=λd os=>ac r3 (below_regrown W d os)
  cases he0:x.toList.isEmpty
  ·cases hq:((lb:Int) == x.size)
   all_goals cases he1:l.toList.isEmpty
   all_goals cases he2:y.toList.isEmpty
   all_goals
    go_enter Tryz.func197,Tryz.ntmps197
    go_wp2_with fail
    simp only[HW.out]
    go_wp2
    refine wrq ?_;(repeat (any_goals (go_big_quiet_step ((go_at_call 248;exact Calls.regrown_of (hLx _))))));all_goals (refine wqn ?_;intro d9 os9)
    go_wp2
    go_ret
    exact⟨by simp,HB0.out.trans ((below_regrown _ _ _).mono HB0.out.size)⟩
  ·go_enter Tryz.func197,Tryz.ntmps197
   go_wp2_with fail
   simp only[HW.out]
   go_wp2
   refine wrq ?_;(repeat (any_goals (go_big_quiet_step ((fail)))));all_goals (refine wqn ?_;intro d9 os9)
   go_wp2
   go_ret
   exact⟨by simp,HB0.out.trans ((below_regrown _ _ _).mono HB0.out.size)⟩
 rw[if_neg h2]
 by_cases h3:k=3
 ·subst h3
  rw[if_pos rfl]
  clear hVy hLx h1 h2
  have R1:=λd os=>ac r1 (below_regrown W d os)
  have R2:=λd os=>ac r2 (below_regrown W d os)
  have R3:=λd os=>ac r3 (below_regrown W d os)
  cases v
  ·clear hTl hSl
   go_enter Tryz.func197,Tryz.ntmps197
   go_wp2_with fail
   simp only[HW.out]
   go_wp2
   refine wrq ?_;(repeat (any_goals (go_big_quiet_step ((go_at_call 247;exact Calls.regrown_of (hVx _))))));all_goals (refine wqn ?_;intro d9 os9)
   go_wp2
   go_ret
   exact⟨by simp,HB0.out.trans ((below_regrown _ _ _).mono HB0.out.size)⟩
  ·cases hq:((tg:Int) == l.size)
   ·clear hSl
    go_enter Tryz.func197,Tryz.ntmps197
    go_wp2_with fail
    simp only[HW.out]
    go_wp2
    refine wrq ?_;(repeat (any_goals (go_big_quiet_step ((first|(go_at_call 247;with_reducible exact Calls.regrown_of (hVx _))|(go_at_call 249;with_reducible exact Calls.quiet_r8 (hTl _)))))));all_goals (refine wqn ?_;intro d9 os9)
    go_wp2
    go_ret
    exact⟨by simp,HB0.out.trans ((below_regrown _ _ _).mono HB0.out.size)⟩
   ·cases he2:y.toList.isEmpty
    all_goals cases sm
    all_goals
     go_enter Tryz.func197,Tryz.ntmps197
     go_wp2_with fail
     simp only[HW.out]
     go_wp2
     refine wrq ?_;(repeat (any_goals (go_big_quiet_step ((first|(go_at_call 247;with_reducible exact Calls.regrown_of (hVx _))|(go_at_call 249;with_reducible exact Calls.quiet_r8 (hTl _))|(go_at_call 250;with_reducible exact Calls.quiet_r8 (hSl _)))))));all_goals (refine wqn ?_;intro d9 os9)
     go_wp2
     go_ret
     exact⟨by simp,HB0.out.trans ((below_regrown _ _ _).mono HB0.out.size)⟩
 rw[if_neg h3]
 by_cases h4:k=4
 ·subst h4
  rw[if_pos rfl]
  have hV:=hVx W
  clear hVx hLx hTl hSl h1 h2 h3
  cases v
  ·clear hVy
   go_enter Tryz.func197,Tryz.ntmps197
   go_wp2_with fail
   simp only[HW.out]
   go_wp2_with (refine hV.mono ?_;rintro e w2 ⟨rfl,hb2⟩)
   go_ret
   exact⟨by simp,aa HB0.out hb2⟩
  ·cases he:l.toList.isEmpty
   ·clear hVy
    go_enter Tryz.func197,Tryz.ntmps197
    go_wp2_with fail
    simp only[HW.out]
    go_wp2_with fail
    refine hV.mono ?_
    rintro e w2 ⟨rfl,hb2⟩
    replace r2:=ac r2 hb2
    replace r3:=ac r3 hb2
    go_wp2
    go_ret
    exact⟨by simp,aa HB0.out hb2⟩
   ·cases hq:(y.toList == [104,116,116,112,58,47,47,119,119,119,46,119,51,46,111,114,103,47,50,48,48,49,47,88,77,76,83,99,104,101,109,97,35,115,116,114,105,110,103])
    all_goals
     have hqn:(y.toList != [104,116,116,112,58,47,47,119,119,119,46,119,51,46,111,114,103,47,50,48,48,49,47,88,77,76,83,99,104,101,109,97,35,115,116,114,105,110,103]) = !(y.toList == [104,116,116,112,58,47,47,119,119,119,46,119,51,46,111,114,103,47,50,48,48,49,47,88,77,76,83,99,104,101,109,97,35,115,116,114,105,110,103]):=rfl
     rw[hq]at hqn
     go_enter Tryz.func197,Tryz.ntmps197
     go_wp2_with fail
     simp only[HW.out]
     go_wp2_with fail
     refine hV.mono ?_
     rintro e w2 ⟨rfl,hb2⟩
     replace r2:=ac r2 hb2
     replace r3:=ac r3 hb2
     have hT:=hVy w2
     clear hVy hV
     cases v2
     all_goals
      go_wp2_with fail
      refine hT.mono ?_
      rintro e w3 ⟨rfl,hb3⟩
      replace r3:=ac r3 hb3
      go_wp2
      go_ret
      exact⟨by simp,aa (aa HB0.out hb2) hb3⟩
 ·rw[if_neg h4]
  clear hVx hVy hLx hTl hSl
  go_enter Tryz.func197,Tryz.ntmps197
  go_wp2_with fail
  simp only[HW.out]
  go_wp2
  go_ret
  exact⟨rfl,HB0.out⟩
theorem yf:∀k,k<9->((bn badS k:Nat):Int)=jo.getD k 0:=by decide
theorem E9:∀k,k<9->fF (jo.getD k 0)=false:=by decide
theorem GP (n:Int) (w:World) :
  Calls Tryz.prog 290 #[.int .i64 n] w λe w'=>e=.returned (.bool (fF n))/\w=w':=by
 have his:=λW=>te n W
 go_enter Tryz.func290,Tryz.ntmps290
 go_wp2
 obtain⟨S,hS⟩:∃S,S=badS:=⟨_,rfl⟩
 have HS:=Lib.hid hS
 change Code.wp _ _ _ ⟨#[_,_,_,.string badS,_,_,_,_,_,_,_,_,_,_,_,_,_,_,_,_,_,_,_],_⟩ _
 rw[←hS]
 clear hS
 have hsz:S.size=9:=by rw[HS.out];rfl
 have hs1:S.size<=9:=by omega
 have hs2:9<=S.size:=by omega
 clear hsz
 go_loop [4] (λi=>∃k:Nat,k<=9/\i=.int .i64 k/\Hid (∀j,j<k->n≠bn S j)) (λi=>9-(intOf i).toNat)
 case atStart=>exact⟨0,by omega,rfl,λj h=>by omega⟩
 case round =>
  obtain⟨k,hk,rfl,H⟩:=hrel
  by_cases hlt:k<9
  ·by_cases he:n=bn S k
   ·have hb:fF n=false:=by
     have e2:=he
     rw[HS.out,yf k hlt]at e2
     rw[e2];exact E9 k hlt
    have Hb:=Lib.hid hb
    have he1:(n == (bn S k:Int))=true:=by simpa using he
    clear hb he
    go_wp2
    go_ret
    exact⟨by rw[Hb.out];rfl,rfl⟩
   ·have he2:(n == (bn S k:Int))=false:=by simpa using he
    go_wp2
    go_round
    case rel =>
     exact⟨k+1,by omega,by go_num,λj hj=>by
      rcases Nat.lt_or_ge j k with h|h
      ·exact H.out j h
      ·have:j=k:=by omega
       subst this;exact he⟩
    case measure=>simp[intOf];omega
  ·have hk9:9<=k:=by omega
   have hn:jo.contains n=false:=by
    have h9:∀j,j<9->n≠jo.getD j 0:=λj hj=>by
     have:=H.out j (by omega)
     rwa [HS.out,yf j hj]at this
    have h0:=h9 0 (by omega);have h1:=h9 1 (by omega);have h2:=h9 2 (by omega)
    have h3:=h9 3 (by omega);have h4:=h9 4 (by omega);have h5:=h9 5 (by omega)
    have h6:=h9 6 (by omega);have h7:=h9 7 (by omega);have h8:=h9 8 (by omega)
    simp only[jo,List.getD_cons_zero,List.getD_cons_succ]at h0 h1 h2 h3 h4 h5 h6 h7 h8
    simp[jo,h0,h1,h2,h3,h4,h5,h6,h7,h8]
   have hr:fF n=(isB n && decide (32<n)):=by unfold fF;rw[hn];simp
   have Hr:=Lib.hid hr
   clear hr hn H
   generalize isB n=b at his Hr
   cases b
   ·go_wp2_with (go_at_call 327;refine(his _).mono ?_;rintro e w1 ⟨rfl,rfl⟩)
    go_ret
    exact⟨by rw[Hr.out];rfl,rfl⟩
   ·go_wp2_with (go_at_call 327;refine(his _).mono ?_;rintro e w1 ⟨rfl,rfl⟩)
    go_ret
    exact⟨by rw[Hr.out];simp,rfl⟩
end Go.Proofs.YtfcbghmbbjolcaaGreatDoor
