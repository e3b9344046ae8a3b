/- slices' stable sort at rows of slices: printed by gen/stab.p -/
import Derived.Test.YtoejnneknpoanaaGreatDoorJStabC
set_option maxHeartbeats 8000000
set_option maxRecDepth 1000000
namespace Go.Proofs.YtoejnneknpoanaaGreatDoor
open Go Go.Shelf Go.RowKit Go.Lib Go.Sort Sy
variable {α:Type} [Inhabited α]
structure SortAt (enc:α->Value) (cf:α->α->Int) (F:Nat) (cb:Array Value) (blk off:Nat) (d0:Array α) (w0:World):Prop where
 hO:SWO (ltOf cf)
 eg:∀args w,(callFunc F args).run Tryz.prog w=.ok (.enter F args) w
 hcmp:CmpLays1 Tryz.prog F cb enc cf blk off d0.size w0
 R:Row1 enc w0 blk off d0
 hsz:d0.size<1000000000
theorem symMerge (enc:α->Value) (cf:α->α->Int) (F:Nat) (cb:Array Value) (blk off cap:Nat) (d0:Array α) (w0:World) (H:SortAt enc cf F cb blk off d0 w0):∀(k a m b:Nat) (d:Array α) (w:World),b-a<k->d0.size=d.size->SW enc w0 blk off d w->a<m->m<b->b<=d.size ->
  Calls Tryz.prog 161 #[.slice (some ⟨blk,off,none⟩) d.size cap,.int .i64 a,.int .i64 m,.int .i64 b,.func (.func F) #[] cb] w (Lies enc w0 blk off (Merged (ltOf cf) d a m b))
 | 0,_,_,_,_,_,h,_,_,_,_,_=>by omega
 | k+1,a,m,b,d,w,hk,hs,S,h1,h2,h3=>by
  have hsz:=H.hsz
  by_cases e1:m=a+1
  ·exact symOneL enc cf H.hO F cb blk off cap a m b d0 d w0 w H.eg H.hcmp H.R hs S e1 h2 h3 (by omega)
  by_cases e2:b=m+1
  ·exact symOneR enc cf H.hO F cb blk off cap a m b d0 d w0 w H.eg H.hcmp H.R hs S (by omega) e2 h3 (by omega)
  exact symMain enc cf H.hO F cb blk off cap a m b d0 d w0 w H.eg H.hcmp H.R hs S (by omega) (by omega) h3 (by omega)
   (λa' m' b' d' w' g1 g2 g3 g4 g5 g6=>symMerge enc cf F cb blk off cap d0 w0 H k a' m' b' d' w' (by omega) g2 g3 g4 g5 g6)
theorem stableRows (enc:α->Value) (cf:α->α->Int) (F:Nat) (cb:Array Value) (blk off cap n:Nat) (d:Array α) (w:World) (H:SortAt enc cf F cb blk off d w) (hn:d.size=n) :
  Calls Tryz.prog 121 #[.slice (some ⟨blk,off,none⟩) n cap,.int .i64 n,.func (.func F) #[] cb] w (Lies enc w blk off λD=>PermIn 0 n d D/\SortedIn (ltOf cf) 0 n D):=by
 have hsz:=H.hsz
 rw[hn]at hsz
 have HN:=Lib.hid hn
 have S0:Aside (SW enc w blk off d w):=SW.start H.R.hH
 have E0:Hid (To (ltOf cf) 20 0 n d/\PermIn 0 n d d):=⟨to_zero _ _ _,permIn_refl _ _ _⟩
 have HH:Aside _:=H
 clear hn H
 go_enter Tryz.func121,Tryz.ntmps121
 go_wp2
 go_loopg [7,8] n (λg1 va vb wr=>∃(a c:Nat) (dk:Array α),va=.int .i64 a/\vb=.int .i64 ((a:Int)+20)/\a<=n/\n-a<=g1/\Hid (a=c*20)/\Hid (d.size=dk.size)/\Aside (SW enc w blk off dk wr)/\Hid (To (ltOf cf) 20 c n dk/\PermIn 0 n d dk))
 case atStart=>exact⟨0,0,d,rfl,by go_num,by omega,by omega,rfl,rfl,S0,E0⟩
 case round =>
  clear S0 E0
  obtain⟨a,c,dk,rfl,rfl,ha,hg,HA,HS,S1,E1⟩:=hrel
  have hdn:dk.size=n:=by rw[←HS.out];exact HN.out
  have HDN:=Lib.hid hdn
  by_cases hlt:a+20<=n
  ·have hltz:(a:Int)+20<=(n:Int):=by omega
   have hcall:=Any.insertionSortCmpFunc_s Tryz.laysIns enc cf F cb blk off cap a (a+20) d dk w wr HH.out.eg HH.out.hcmp HH.out.R HS.out S1.out (by omega) (by omega) (by omega)
   change Calls Tryz.prog 160 _ _ _ at hcall
   rw[show ((a+20:Nat):Int)=(a:Int)+20 by omega,hdn]at hcall
   have hins:Hid (PermIn a (a+20) dk (insertionSort (ltOf cf) dk a (a+20))/\SortedIn (ltOf cf) a (a+20) (insertionSort (ltOf cf) dk a (a+20))):=insertionSort_holds HH.out.hO dk a (a+20) (by omega) (by omega)
   clear S1 hdn
   go_wp2_with (go_at_call 160;refine hcall.mono ?_;rintro _ w1 ⟨rfl,S2⟩;have S3:Aside _:=S2;clear S2 hcall)
   go_roundg (n-(a+20))
   case measure=>omega
   case rel =>
    refine⟨a+20,c+1,_,by go_num,by go_num,by omega,by omega,?_,?_,S3,?_⟩
    ·show _=_
     rw[HA.out];omega
    ·show _=_
     rw[hins.out.1.1];exact HS.out
    ·have h:=hins.out
     rw[HA.out]at h ⊢
     exact⟨to_step E1.out.1 h.1 h.2,permIn_trans _ _ _ _ _ E1.out.2 (permIn_mono _ _ _ _ _ _ (by omega) (by rw[HA.out]at hlt;omega) (by rw[HDN.out];exact Nat.le_refl _) h.1)⟩
  ·have hltz:¬ (a:Int)+20<=(n:Int):=by omega
   have hcall:=Any.insertionSortCmpFunc_s Tryz.laysIns enc cf F cb blk off cap a n d dk w wr HH.out.eg HH.out.hcmp HH.out.R HS.out S1.out (by omega) (by omega) (by omega)
   change Calls Tryz.prog 160 _ _ _ at hcall
   rw[hdn]at hcall
   have hins:Hid (PermIn a n dk (insertionSort (ltOf cf) dk a n)/\SortedIn (ltOf cf) a n (insertionSort (ltOf cf) dk a n)):=insertionSort_holds HH.out.hO dk a n (by omega) (by omega)
   have E2:Hid (From (ltOf cf) 20 0 n (insertionSort (ltOf cf) dk a n)/\PermIn 0 n d (insertionSort (ltOf cf) dk a n)/\d.size=(insertionSort (ltOf cf) dk a n).size):=by
    have h:=hins.out
    refine⟨?_,permIn_trans _ _ _ _ _ E1.out.2 (permIn_mono _ _ _ _ _ _ (by omega) (by omega) (by omega) h.1),by rw[h.1.1];exact HS.out⟩
    have e:=HA.out
    rw[e]at h hlt ⊢
    exact to_end E1.out.1 (by omega) h.1 h.2
   generalize insertionSort (ltOf cf) dk a n=d9 at hcall E2
   clear S1 hdn hins E1 HS HA HDN
   go_wp2_with (go_at_call 160;refine hcall.mono ?_;rintro _ w1 ⟨rfl,S2⟩;have S3:Aside _:=S2;clear S2 hcall)
   go_loopg [6,7,8,9] n (λg1 vs va vb vm wr=>∃(bs:Nat) (dk:Array α),vs=.int .i64 bs/\1<=bs/\bs<=2*n+20/\n-bs<=g1/\Aside (SW enc w blk off dk wr)/\Hid (From (ltOf cf) bs 0 n dk/\PermIn 0 n d dk/\d.size=dk.size))
   case atStart=>exact⟨20,d9,rfl,by omega,by omega,by omega,S3,E2⟩
   case round =>
    clear S3 E2 hg hlt hltz ha
    obtain⟨bs,dk,rfl,hb1,hb2,hg,S1,E1⟩:=hrel
    by_cases hlt:bs<n
    ·have hltz:(bs:Int)<(n:Int):=by omega
     have E2:Hid ((0=0*(2*bs)/\To (ltOf cf) (2*bs) 0 n dk)/\From (ltOf cf) bs (2*0) n dk/\PermIn 0 n d dk/\d.size=dk.size):=⟨⟨by omega,to_zero _ _ _⟩,E1.out⟩
     clear E1
     go_wp2
     go_loopg [7,8] n (λg2 va vb wr2=>∃(a c:Nat) (dk:Array α),va=.int .i64 a/\vb=.int .i64 ((a:Int)+2*(bs:Int))/\a<=n/\n-a<=g2/\Aside (SW enc w blk off dk wr2)/\Hid ((a=c*(2*bs)/\To (ltOf cf) (2*bs) c n dk)/\From (ltOf cf) bs (2*c) n dk/\PermIn 0 n d dk/\d.size=dk.size))
     case atStart=>exact⟨0,0,dk,rfl,by congr 1;omega,by omega,by omega,S1,E2⟩
     case round =>
      clear S1 E2
      obtain⟨a,c,dk,rfl,rfl,ha,hga,S1,E1⟩:=hrel
      have hdn:dk.size=n:=by rw[←E1.out.2.2.2];exact HN.out
      have HDN:=Lib.hid hdn
      by_cases hle:a+2*bs<=n
      ·have hlez:(a:Int)+2*(bs:Int)<=(n:Int):=by omega
       have hcall:=symMerge enc cf F cb blk off cap d w HH.out (2*bs+1) a (a+bs) (a+2*bs) dk wr (by omega) (by rw[E1.out.2.2.2]) S1.out (by omega) (by omega) (by omega)
       rw[show ((a+bs:Nat):Int)=(a:Int)+(bs:Int) by omega,show ((a+2*bs:Nat):Int)=(a:Int)+2*(bs:Int) by omega,hdn]at hcall
       have hfin:Hid (∀D,Merged (ltOf cf) dk a (a+bs) (a+2*bs) D->(a+2*bs=(c+1)*(2*bs)/\To (ltOf cf) (2*bs) (c+1) n D)/\From (ltOf cf) bs (2*(c+1)) n D/\PermIn 0 n d D/\d.size=D.size):=by
        intro D hD
        obtain⟨⟨e1,e2⟩,e3,e4,e5⟩:=E1.out
        have f1:=from_fst e3 (by omega)
        have f2:=from_snd e3
        rw[←e1,Nat.min_eq_left hle]at f2
        rw[←e1]at f1
        have hs:=hD.2 f1 f2
        have hp:=hD.1
        refine⟨⟨by rw[Nat.add_mul,←e1,Nat.one_mul],?_⟩,?_,permIn_trans _ _ _ _ _ e4 (permIn_mono _ _ _ _ _ _ (by omega) hle (by omega) hp),by rw[hp.1];exact e5⟩
        ·rw[e1]at hp hs
         exact to_step e2 hp hs
        ·rw[e1]at hp
         exact from_step e3 hp
       clear S1 hdn E1
       go_wp2_with (go_at_call 161;refine hcall.mono ?_;rintro _ w1 ⟨rfl,d3,S2,h3⟩;have S3:Aside _:=S2;have H5:=Lib.hid h3;clear S2 h3 hcall)
       go_roundg (n-(a+2*bs))
       case measure=>omega
       case rel=>exact⟨a+2*bs,c+1,d3,by go_num,by first|rfl|go_num|(congr 1;omega),by omega,by omega,S3,hfin.out d3 H5.out⟩
      ·have hlez:¬ (a:Int)+2*(bs:Int)<=(n:Int):=by omega
       by_cases hm:a+bs<n
       ·have hmz:(a:Int)+(bs:Int)<(n:Int):=by omega
        have hcall:=symMerge enc cf F cb blk off cap d w HH.out (n+1) a (a+bs) n dk wr (by omega) (by rw[E1.out.2.2.2]) S1.out (by omega) (by omega) (by omega)
        rw[show ((a+bs:Nat):Int)=(a:Int)+(bs:Int) by omega,hdn]at hcall
        have hfin:Hid (∀D,Merged (ltOf cf) dk a (a+bs) n D->From (ltOf cf) (bs*2) 0 n D/\PermIn 0 n d D/\d.size=D.size):=by
         intro D hD
         obtain⟨⟨e1,e2⟩,e3,e4,e5⟩:=E1.out
         have f1:=from_fst e3 (by omega)
         have f2:=from_snd e3
         rw[←e1,Nat.min_eq_right (by omega)]at f2
         rw[←e1]at f1
         have hs:=hD.2 f1 f2
         have hp:=hD.1
         refine⟨?_,permIn_trans _ _ _ _ _ e4 (permIn_mono _ _ _ _ _ _ (by omega) (Nat.le_refl _) (by omega) hp),by rw[hp.1];exact e5⟩
         rw[Nat.mul_comm bs 2]
         have hl:n<=c*(2*bs)+2*bs:=by omega
         rw[e1]at hp hs
         exact to_end e2 hl hp hs
        clear S1 hdn E1
        go_wp2_with (go_at_call 161;refine hcall.mono ?_;rintro _ w1 ⟨rfl,d3,S2,h3⟩;have S3:Aside _:=S2;have H5:=Lib.hid h3;clear S2 h3 hcall)
        go_roundg (n-bs*2)
        case measure=>omega
        case rel=>exact⟨bs*2,d3,by go_num,by omega,by omega,by omega,S3,hfin.out d3 H5.out⟩
       ·have hmz:¬ (a:Int)+(bs:Int)<(n:Int):=by omega
        have E3:Hid (From (ltOf cf) (bs*2) 0 n dk/\PermIn 0 n d dk/\d.size=dk.size):=by
         obtain⟨⟨e1,e2⟩,e3,e4,e5⟩:=E1.out
         have f1:=from_all e3 (by omega)
         refine⟨?_,e4,e5⟩
         rw[Nat.mul_comm bs 2]
         exact to_end e2 (by omega) (permIn_refl _ _ _) f1
        clear hdn E1
        go_wp2
        go_roundg (n-bs*2)
        case measure=>omega
        case rel=>exact⟨bs*2,dk,by go_num,by omega,by omega,by omega,S1,E3⟩
    ·have hltz:¬ (bs:Int)<(n:Int):=by omega
     have hfin:Hid (PermIn 0 n d dk/\SortedIn (ltOf cf) 0 n dk):=⟨E1.out.2.1,from_done E1.out.1 (by omega)⟩
     clear E1
     go_wp2
     go_end0
     exact⟨rfl,dk,S1.out,hfin.out⟩
theorem sortStable (enc:α->Value) (cf:α->α->Int) (F:Nat) (cb:Array Value) (blk off cap n:Nat) (d:Array α) (w:World) (H:SortAt enc cf F cb blk off d w) (hn:d.size=n) :
  Calls Tryz.prog 78 #[.slice (some ⟨blk,off,none⟩) n cap,.func (.func F) #[] cb] w (Lies enc w blk off λD=>PermIn 0 n d D/\SortedIn (ltOf cf) 0 n D):=by
 have hcall:=stableRows enc cf F cb blk off cap n d w H hn
 clear H hn
 go_enter Tryz.func78,Tryz.ntmps78
 go_wp2_with (go_at_call 121;refine hcall.mono ?_;rintro _ w1 ⟨rfl,D,S2,h3⟩;have S3:Aside _:=S2;have H5:=Lib.hid h3;clear S2 h3 hcall)
 go_end0
 exact⟨rfl,D,S3.out,H5.out⟩
theorem insertNone (p:Option Addr) (cap:Nat) (fv:Value) (w:World):Calls Tryz.prog 160 #[.slice p 0 cap,.int .i64 0,.int .i64 0,fv] w λe w'=>e=.returned (.tuple #[])/\w=w':=by
 go_enter Tryz.func160,Tryz.ntmps160
 go_wp2
 go_loop [8] (λi=>i=.int .i64 1) (λ_=>0)
 case atStart=>rfl
 case round =>
  subst hrel
  go_wp2
  go_end0
  exact⟨rfl,rfl⟩
theorem sortStableNone (p:Option Addr) (cap:Nat) (fv:Value) (w:World):Calls Tryz.prog 78 #[.slice p 0 cap,fv] w λe w'=>e=.returned (.tuple #[])/\w=w':=by
 have h1:∀W,Calls Tryz.prog 121 #[.slice p 0 cap,.int .i64 0,fv] W λe w'=>e=.returned (.tuple #[])/\W=w':=by
  intro W
  go_enter Tryz.func121,Tryz.ntmps121
  go_wp2
  go_loop [7,8] (λa b=>a=.int .i64 0/\b=.int .i64 20) (λ_ _=>0)
  case atStart=>exact⟨rfl,rfl⟩
  case round =>
   obtain⟨rfl,rfl⟩:=hrel
   go_wp2_with (go_at_call 160;refine(insertNone p cap fv _).mono ?_;rintro e w1 ⟨rfl,rfl⟩)
   go_loop [6] (λb=>b=.int .i64 20) (λ_=>0)
   case atStart=>rfl
   case round =>
    subst hrel
    go_wp2
    go_end0
    exact⟨rfl,rfl⟩
 go_enter Tryz.func78,Tryz.ntmps78
 go_wp2_with (go_at_call 121;refine(h1 _).mono ?_;rintro e w1 ⟨rfl,rfl⟩)
 go_end0
 exact⟨rfl,rfl⟩
end Go.Proofs.YtoejnneknpoanaaGreatDoor
