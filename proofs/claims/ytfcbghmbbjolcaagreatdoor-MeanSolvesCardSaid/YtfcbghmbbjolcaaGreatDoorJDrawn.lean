/- slices' stable sort at rows of slices: printed by gen/stab.p -/
import Derived.Test.YtfcbghmbbjolcaaGreatDoorJStabC
set_option maxHeartbeats 8000000
set_option maxRecDepth 1000000
namespace Go.Proofs.YtfcbghmbbjolcaaGreatDoor
open Go Go.Shelf Go.RowKit Go.Lib Go.Sort Sy
variable {α:Type} [Inhabited α]
structure so (enc:α->Value) (cf:α->α->Int) (F:Nat) (cb:Array Value) (blk off:Nat) (d0:Array α) (w0:World):Prop where
 hO:SWO (ltOf cf)
 eg:∀args w,(callFunc F args).run Tryz.prog w=.ok (.enter F args) w
 hcmp:CmpLays1 Tryz.prog F cb enc cf blk off d0.size w0
 R:Row1 enc w0 blk off d0
 hsz:d0.size<1000000000
theorem mF (enc:α->Value) (cf:α->α->Int) (F:Nat) (cb:Array Value) (blk off cap:Nat) (d0:Array α) (w0:World) (H:so enc cf F cb blk off d0 w0):∀(k a m b:Nat) (d:Array α) (w:World),b-a<k->d0.size=d.size->SW enc w0 blk off d w->a<m->m<b->b<=d.size ->
  Calls Tryz.prog 192 #[.slice (some ⟨blk,off,none⟩) d.size cap,.int .i64 a,.int .i64 m,.int .i64 b,.func (.func F) #[] cb] w (pu enc w0 blk off (Merged (ltOf cf) d a m b))
 | 0,_,_,_,_,_,h,_,_,_,_,_=>by omega
 | k+1,a,m,b,d,w,hk,hs,S,h1,h2,h3=>by
  have hsz:=H.hsz
  by_cases e1:m=a+1
  ·exact EE enc cf H.hO F cb blk off cap a m b d0 d w0 w H.eg H.hcmp H.R hs S e1 h2 h3 (by omega)
  by_cases e2:b=m+1
  ·exact ED enc cf H.hO F cb blk off cap a m b d0 d w0 w H.eg H.hcmp H.R hs S (by omega) e2 h3 (by omega)
  exact EF enc cf H.hO F cb blk off cap a m b d0 d w0 w H.eg H.hcmp H.R hs S (by omega) (by omega) h3 (by omega)
   (λa' m' b' d' w' g1 g2 g3 g4 g5 g6=>mF enc cf F cb blk off cap d0 w0 H k a' m' b' d' w' (by omega) g2 g3 g4 g5 g6)
theorem vt (enc:α->Value) (cf:α->α->Int) (F:Nat) (cb:Array Value) (blk off cap n:Nat) (d:Array α) (w:World) (H:so enc cf F cb blk off d w) (hn:d.size=n) :
  Calls Tryz.prog 131 #[.slice (some ⟨blk,off,none⟩) n cap,.int .i64 n,.func (.func F) #[] cb] w (pu enc w blk off λD=>PermIn 0 n d D/\SortedIn (ltOf cf) 0 n D):=by
 have hsz:=H.hsz
 rw[hn]at hsz
 have HN:=Lib.hid hn
 have S0:Aside (SW enc w blk off d w):=SW.start H.R.hH
 have E0:Hid (To (ltOf cf) 20 0 n d/\PermIn 0 n d d):=⟨xb _ _ _,permIn_refl _ _ _⟩
 have HH:Aside _:=H
 clear hn H
 go_enter Tryz.func131,Tryz.ntmps131
 go_wp2
 go_loopg [7,8] n (λg1 va vb wr=>∃(a c:Nat) (dk:Array α),va=.int .i64 a/\vb=.int .i64 ((a:Int)+20)/\a<=n/\n-a<=g1/\Hid (a=c*20)/\Hid (d.size=dk.size)/\Aside (SW enc w blk off dk wr)/\Hid (To (ltOf cf) 20 c n dk/\PermIn 0 n d dk))
 case atStart=>exact⟨0,0,d,rfl,by go_num,by omega,by omega,rfl,rfl,S0,E0⟩
 case round =>
  clear S0 E0
  obtain⟨a,c,dk,rfl,rfl,ha,hg,HA,HS,S1,E1⟩:=hrel
  have hdn:dk.size=n:=by rw[←HS.out];exact HN.out
  have HDN:=Lib.hid hdn
  by_cases hlt:a+20<=n
  ·have hltz:(a:Int)+20<=(n:Int):=by omega
   have hcall:=Any.insertionSortCmpFunc_s kb enc cf F cb blk off cap a (a+20) d dk w wr HH.out.eg HH.out.hcmp HH.out.R HS.out S1.out (by omega) (by omega) (by omega)
   change Calls Tryz.prog 153 _ _ _ at hcall
   rw[show ((a+20:Nat):Int)=(a:Int)+20 by omega,hdn]at hcall
   have hins:Hid (PermIn a (a+20) dk (insertionSort (ltOf cf) dk a (a+20))/\SortedIn (ltOf cf) a (a+20) (insertionSort (ltOf cf) dk a (a+20))):=insertionSort_holds HH.out.hO dk a (a+20) (by omega) (by omega)
   clear S1 hdn
   go_wp2_with (go_at_call 153;refine hcall.mono ?_;rintro _ w1 ⟨rfl,S2⟩;have S3:Aside _:=S2;clear S2 hcall)
   go_roundg (n-(a+20))
   case measure=>omega
   case rel =>
    refine⟨a+20,c+1,_,by go_num,by go_num,by omega,by omega,?_,?_,S3,?_⟩
    ·show _=_
     rw[HA.out];omega
    ·show _=_
     rw[hins.out.1.1];exact HS.out
    ·have h:=hins.out
     rw[HA.out]at h ⊢
     exact⟨xc E1.out.1 h.1 h.2,permIn_trans _ _ _ _ _ E1.out.2 (permIn_mono _ _ _ _ _ _ (by omega) (by rw[HA.out]at hlt;omega) (by rw[HDN.out];exact Nat.le_refl _) h.1)⟩
  ·have hltz:¬ (a:Int)+20<=(n:Int):=by omega
   have hcall:=Any.insertionSortCmpFunc_s kb enc cf F cb blk off cap a n d dk w wr HH.out.eg HH.out.hcmp HH.out.R HS.out S1.out (by omega) (by omega) (by omega)
   change Calls Tryz.prog 153 _ _ _ at hcall
   rw[hdn]at hcall
   have hins:Hid (PermIn a n dk (insertionSort (ltOf cf) dk a n)/\SortedIn (ltOf cf) a n (insertionSort (ltOf cf) dk a n)):=insertionSort_holds HH.out.hO dk a n (by omega) (by omega)
   have E2:Hid (kd (ltOf cf) 20 0 n (insertionSort (ltOf cf) dk a n)/\PermIn 0 n d (insertionSort (ltOf cf) dk a n)/\d.size=(insertionSort (ltOf cf) dk a n).size):=by
    have h:=hins.out
    refine⟨?_,permIn_trans _ _ _ _ _ E1.out.2 (permIn_mono _ _ _ _ _ _ (by omega) (by omega) (by omega) h.1),by rw[h.1.1];exact HS.out⟩
    have e:=HA.out
    rw[e]at h hlt ⊢
    exact vl E1.out.1 (by omega) h.1 h.2
   generalize insertionSort (ltOf cf) dk a n=d9 at hcall E2
   clear S1 hdn hins E1 HS HA HDN
   go_wp2_with (go_at_call 153;refine hcall.mono ?_;rintro _ w1 ⟨rfl,S2⟩;have S3:Aside _:=S2;clear S2 hcall)
   go_loopg [6,7,8,9] n (λg1 vs va vb vm wr=>∃(bs:Nat) (dk:Array α),vs=.int .i64 bs/\1<=bs/\bs<=2*n+20/\n-bs<=g1/\Aside (SW enc w blk off dk wr)/\Hid (kd (ltOf cf) bs 0 n dk/\PermIn 0 n d dk/\d.size=dk.size))
   case atStart=>exact⟨20,d9,rfl,by omega,by omega,by omega,S3,E2⟩
   case round =>
    clear S3 E2 hg hlt hltz ha
    obtain⟨bs,dk,rfl,hb1,hb2,hg,S1,E1⟩:=hrel
    by_cases hlt:bs<n
    ·have hltz:(bs:Int)<(n:Int):=by omega
     have E2:Hid ((0=0*(2*bs)/\To (ltOf cf) (2*bs) 0 n dk)/\kd (ltOf cf) bs (2*0) n dk/\PermIn 0 n d dk/\d.size=dk.size):=⟨⟨by omega,xb _ _ _⟩,E1.out⟩
     clear E1
     go_wp2
     go_loopg [7,8] n (λg2 va vb wr2=>∃(a c:Nat) (dk:Array α),va=.int .i64 a/\vb=.int .i64 ((a:Int)+2*(bs:Int))/\a<=n/\n-a<=g2/\Aside (SW enc w blk off dk wr2)/\Hid ((a=c*(2*bs)/\To (ltOf cf) (2*bs) c n dk)/\kd (ltOf cf) bs (2*c) n dk/\PermIn 0 n d dk/\d.size=dk.size))
     case atStart=>exact⟨0,0,dk,rfl,by congr 1;omega,by omega,by omega,S1,E2⟩
     case round =>
      clear S1 E2
      obtain⟨a,c,dk,rfl,rfl,ha,hga,S1,E1⟩:=hrel
      have hdn:dk.size=n:=by rw[←E1.out.2.2.2];exact HN.out
      have HDN:=Lib.hid hdn
      by_cases hle:a+2*bs<=n
      ·have hlez:(a:Int)+2*(bs:Int)<=(n:Int):=by omega
       have hcall:=mF enc cf F cb blk off cap d w HH.out (2*bs+1) a (a+bs) (a+2*bs) dk wr (by omega) (by rw[E1.out.2.2.2]) S1.out (by omega) (by omega) (by omega)
       rw[show ((a+bs:Nat):Int)=(a:Int)+(bs:Int) by omega,show ((a+2*bs:Nat):Int)=(a:Int)+2*(bs:Int) by omega,hdn]at hcall
       have hfin:Hid (∀D,Merged (ltOf cf) dk a (a+bs) (a+2*bs) D->(a+2*bs=(c+1)*(2*bs)/\To (ltOf cf) (2*bs) (c+1) n D)/\kd (ltOf cf) bs (2*(c+1)) n D/\PermIn 0 n d D/\d.size=D.size):=by
        intro D hD
        obtain⟨⟨e1,e2⟩,e3,e4,e5⟩:=E1.out
        have f1:=ul e3 (by omega)
        have f2:=uk e3
        rw[←e1,Nat.min_eq_left hle]at f2
        rw[←e1]at f1
        have hs:=hD.2 f1 f2
        have hp:=hD.1
        refine⟨⟨by rw[Nat.add_mul,←e1,Nat.one_mul],?_⟩,?_,permIn_trans _ _ _ _ _ e4 (permIn_mono _ _ _ _ _ _ (by omega) hle (by omega) hp),by rw[hp.1];exact e5⟩
        ·rw[e1]at hp hs
         exact xc e2 hp hs
        ·rw[e1]at hp
         exact zN e3 hp
       clear S1 hdn E1
       go_wp2_with (go_at_call 192;refine hcall.mono ?_;rintro _ w1 ⟨rfl,d3,S2,h3⟩;have S3:Aside _:=S2;have H5:=Lib.hid h3;clear S2 h3 hcall)
       go_roundg (n-(a+2*bs))
       case measure=>omega
       case rel=>exact⟨a+2*bs,c+1,d3,by go_num,by first|rfl|go_num|(congr 1;omega),by omega,by omega,S3,hfin.out d3 H5.out⟩
      ·have hlez:¬ (a:Int)+2*(bs:Int)<=(n:Int):=by omega
       by_cases hm:a+bs<n
       ·have hmz:(a:Int)+(bs:Int)<(n:Int):=by omega
        have hcall:=mF enc cf F cb blk off cap d w HH.out (n+1) a (a+bs) n dk wr (by omega) (by rw[E1.out.2.2.2]) S1.out (by omega) (by omega) (by omega)
        rw[show ((a+bs:Nat):Int)=(a:Int)+(bs:Int) by omega,hdn]at hcall
        have hfin:Hid (∀D,Merged (ltOf cf) dk a (a+bs) n D->kd (ltOf cf) (bs*2) 0 n D/\PermIn 0 n d D/\d.size=D.size):=by
         intro D hD
         obtain⟨⟨e1,e2⟩,e3,e4,e5⟩:=E1.out
         have f1:=ul e3 (by omega)
         have f2:=uk e3
         rw[←e1,Nat.min_eq_right (by omega)]at f2
         rw[←e1]at f1
         have hs:=hD.2 f1 f2
         have hp:=hD.1
         refine⟨?_,permIn_trans _ _ _ _ _ e4 (permIn_mono _ _ _ _ _ _ (by omega) (Nat.le_refl _) (by omega) hp),by rw[hp.1];exact e5⟩
         rw[Nat.mul_comm bs 2]
         have hl:n<=c*(2*bs)+2*bs:=by omega
         rw[e1]at hp hs
         exact vl e2 hl hp hs
        clear S1 hdn E1
        go_wp2_with (go_at_call 192;refine hcall.mono ?_;rintro _ w1 ⟨rfl,d3,S2,h3⟩;have S3:Aside _:=S2;have H5:=Lib.hid h3;clear S2 h3 hcall)
        go_roundg (n-bs*2)
        case measure=>omega
        case rel=>exact⟨bs*2,d3,by go_num,by omega,by omega,by omega,S3,hfin.out d3 H5.out⟩
       ·have hmz:¬ (a:Int)+(bs:Int)<(n:Int):=by omega
        have E3:Hid (kd (ltOf cf) (bs*2) 0 n dk/\PermIn 0 n d dk/\d.size=dk.size):=by
         obtain⟨⟨e1,e2⟩,e3,e4,e5⟩:=E1.out
         have f1:=Di e3 (by omega)
         refine⟨?_,e4,e5⟩
         rw[Nat.mul_comm bs 2]
         exact vl e2 (by omega) (permIn_refl _ _ _) f1
        clear hdn E1
        go_wp2
        go_roundg (n-bs*2)
        case measure=>omega
        case rel=>exact⟨bs*2,dk,by go_num,by omega,by omega,by omega,S1,E3⟩
    ·have hltz:¬ (bs:Int)<(n:Int):=by omega
     have hfin:Hid (PermIn 0 n d dk/\SortedIn (ltOf cf) 0 n dk):=⟨E1.out.2.1,zO E1.out.1 (by omega)⟩
     clear E1
     go_wp2
     go_end0
     exact⟨rfl,dk,S1.out,hfin.out⟩
theorem vA (enc:α->Value) (cf:α->α->Int) (F:Nat) (cb:Array Value) (blk off cap n:Nat) (d:Array α) (w:World) (H:so enc cf F cb blk off d w) (hn:d.size=n) :
  Calls Tryz.prog 76 #[.slice (some ⟨blk,off,none⟩) n cap,.func (.func F) #[] cb] w (pu enc w blk off λD=>PermIn 0 n d D/\SortedIn (ltOf cf) 0 n D):=by
 have hcall:=vt enc cf F cb blk off cap n d w H hn
 clear H hn
 go_enter Tryz.func76,Tryz.ntmps76
 go_wp2_with (go_at_call 131;refine hcall.mono ?_;rintro _ w1 ⟨rfl,D,S2,h3⟩;have S3:Aside _:=S2;have H5:=Lib.hid h3;clear S2 h3 hcall)
 go_end0
 exact⟨rfl,D,S3.out,H5.out⟩
theorem wb (p:Option Addr) (cap:Nat) (fv:Value) (w:World):Calls Tryz.prog 153 #[.slice p 0 cap,.int .i64 0,.int .i64 0,fv] w λe w'=>e=.returned (.tuple #[])/\w=w':=by
 go_enter Tryz.func153,Tryz.ntmps153
 go_wp2
 go_loop [8] (λi=>i=.int .i64 1) (λ_=>0)
 case atStart=>rfl
 case round =>
  subst hrel
  go_wp2
  go_end0
  exact⟨rfl,rfl⟩
theorem mH (p:Option Addr) (cap:Nat) (fv:Value) (w:World):Calls Tryz.prog 76 #[.slice p 0 cap,fv] w λe w'=>e=.returned (.tuple #[])/\w=w':=by
 have h1:∀W,Calls Tryz.prog 131 #[.slice p 0 cap,.int .i64 0,fv] W λe w'=>e=.returned (.tuple #[])/\W=w':=by
  intro W
  go_enter Tryz.func131,Tryz.ntmps131
  go_wp2
  go_loop [7,8] (λa b=>a=.int .i64 0/\b=.int .i64 20) (λ_ _=>0)
  case atStart=>exact⟨rfl,rfl⟩
  case round =>
   obtain⟨rfl,rfl⟩:=hrel
   go_wp2_with (go_at_call 153;refine(wb p cap fv _).mono ?_;rintro e w1 ⟨rfl,rfl⟩)
   go_loop [6] (λb=>b=.int .i64 20) (λ_=>0)
   case atStart=>rfl
   case round =>
    subst hrel
    go_wp2
    go_end0
    exact⟨rfl,rfl⟩
 go_enter Tryz.func76,Tryz.ntmps76
 go_wp2_with (go_at_call 131;refine(h1 _).mono ?_;rintro e w1 ⟨rfl,rfl⟩)
 go_end0
 exact⟨rfl,rfl⟩
end Go.Proofs.YtfcbghmbbjolcaaGreatDoor
namespace Go.Proofs.YtfcbghmbbjolcaaGreatDoor.Dr
open Go
theorem Gf {α:Type} (k:Ask α):∀w:World,w.drawn<=(w.ask k).2.drawn:=by
 induction k with
 | done a=>intro w;simp[World.ask]
 | ask what range k ih =>
  intro w
  rw[World.ask]
  split
  ·exact ih _ w
  ·exact Nat.le_trans (Nat.le_succ _) (ih _ {w with drawn:=w.drawn+1})
theorem GI (w:World) (c:Sys):w.drawn<=(w.sys c).2.drawn:=by
 have h:=Gf (Kernel.perform c w.os) w
 unfold World.sys
 generalize w.ask (Kernel.perform c w.os)=r at *
 obtain⟨⟨r,os⟩,w'⟩:=r
 cases r<;>first|exact Nat.le_refl _|exact h
theorem Eq {p:Program} {w:World} {at_:Addr} {u:TypeId} {k:Addr} {v:Value} {atomic:Bool} {r:World × List Addr} (h:w.viewStore p at_ u k v atomic=.ok r):r.1.drawn=w.drawn:=by
 unfold World.viewStore at h
 simp only[bind,Except.bind,pure,Except.pure]at h
 repeat' split at h
 all_goals first|(cases h;rfl)|cases h
theorem Ir {p:Program} {w:World} {a:Addr} {v:Value} {atomic:Bool} {r:World × List Addr} (h:w.farStore p a v atomic=.ok r):r.1.drawn=w.drawn:=by
 unfold World.farStore at h
 split at h
 ·next at_ u _ =>
  cases hq:w.viewStore p at_ u a v atomic with
  | ok r'=>rw[hq]at h;cases h;exact Eq hq
  | error e=>rw[hq]at h;cases h
 ·cases h
def Result.w {α:Type}:Result α->World
 | .ok _ w=>w
 | .halt _ w=>w
theorem zP (w:World) (a:Addr) (n:Nat):(w.freeze a n).drawn=w.drawn:=by unfold World.freeze;split<;>rfl
theorem Bz {α:Type} (p:Program) (s:Sem α):∀w:World,w.drawn<=(Result.w (s.run p w)).drawn:=by
 induction s with
 | pure a=>intro w;rw[Sem.run];exact Nat.le_refl _
 | load m a k ih =>
  intro w;rw[Sem.run]
  split
  ·exact ih _ w
  ·split
   ·exact ih _ w
   ·exact Nat.le_refl _
 | store m a v k ih =>
  intro w
  have key:∀(u:Value),w.drawn<=(Result.w (match w.cell? a with
    | some _=>if w.frozen? a then .halt (.unsupported (.unsafePointer "a write to bytes that a string shares")) w else k.run p (w.setCell a u)
    | none=>match w.farStore p a u (m == .atomic) with
     | .ok (w,_)=>k.run p w
     | .error h=>.halt h w)).drawn:=by
   intro u
   split
   ·split
    ·exact Nat.le_refl _
    ·exact ih (w.setCell a u)
   ·split
    ·next h=>exact Nat.le_trans (Nat.le_of_eq (Ir h).symm) (ih _)
    ·exact Nat.le_refl _
  cases v<;>first|exact key _|exact Nat.le_refl _
 | new o k ih=>intro w;rw[Sem.run];exact ih w.heap.size {w with heap:=w.heap.push o}
 | shape r k ih=>intro w;rw[Sem.run];exact ih _ _
 | freeze a n k ih=>intro w;rw[Sem.run];exact Nat.le_trans (Nat.le_of_eq (zP w a n).symm) (ih _)
 | frozen a k ih=>intro w;rw[Sem.run];exact ih _ _
 | getObj r k ih =>
  intro w;rw[Sem.run]
  split
  ·exact Nat.le_refl _
  ·exact ih _ _
  ·exact Nat.le_refl _
 | setObj r o k ih =>
  intro w;rw[Sem.run]
  split
  ·exact Nat.le_refl _
  ·exact ih {w with heap:=w.heap.setIfInBounds r o}
  ·exact Nat.le_refl _
 | choose q k ih =>
  intro w;rw[Sem.run]
  split
  ·exact ih _ _
  ·exact Nat.le_trans (Nat.le_succ _) (ih _ {w with drawn:=w.drawn+1})
 | sys c k ih=>intro w;rw[Sem.run];exact Nat.le_trans (GI w c) (ih _ _)
 | program k ih=>intro w;rw[Sem.run];exact ih _ _
 | mark m k ih=>intro w;rw[Sem.run];exact ih _
 | halt h=>intro w;rw[Sem.run];exact Nat.le_refl _
def Up (n:Nat):GStep->Prop
 | .go _ w _ | .comm _ _ _ _ w _ | .spawn _ _ w _ | .count _ w _ | .timer _ _ w _ | .alone _ _ w _ | .newcoro _ _ _ w _ | .coroswitch _ _ _ w _ | .collect _ w _ | .watch _ w _=>n<=w.drawn
 | .ended .. => True
theorem Up.after {n:Nat} {es:Array Event} {s:GStep} (h:Up n s):Up n (s.after es):=by cases s<;>exact h
theorem Up.mono {n m:Nat} {s:GStep} (hn:n<=m) (h:Up m s):Up n s:=by cases s<;>first|exact Nat.le_trans hn h|trivial
theorem aA {α:Type} {p:Program} {s:Sem α} {w w':World} {a:α} (h:s.run p w=.ok a w'):w.drawn<=w'.drawn:=by have:=Bz p s w;rw[h]at this;exact this
theorem run_halt {α:Type} {p:Program} {s:Sem α} {w w':World} {a:Halt} (h:s.run p w=.halt a w'):w.drawn<=w'.drawn:=by have:=Bz p s w;rw[h]at this;exact this
theorem I7 {n:Nat} {c:Prop} [Decidable c] {a b:GStep} (ha:Up n a) (hb:Up n b):Up n (if c then a else b):=by split<;>assumption
theorem xV {α:Type} {n:Nat} {o:Option α} {b:GStep} {f:α->GStep} (hb:Up n b) (hf:∀x,Up n (f x)):Up n (o.elim b f):=by cases o<;>first|exact hb|exact hf _
theorem wH (w:World) (fd:Nat) (text:ByteArray) (o:Outcome):Up w.drawn (endWith w fd text o):=by
 unfold endWith
 dsimp only
 split
 ·split<;>trivial
 ·trivial
 ·trivial
theorem DJ (fr:Frame) (ahead:List ByteArray) (m:String) (whole:Bool) (w:World):Up w.drawn (dieOf fr ahead m whole w):=Nat.le_refl _
theorem ff (fr:Frame) (m:String) (w:World):Up w.drawn (endThrow fr m w):=Nat.le_refl _
theorem gN (p:Program) (fr:Frame) (v:Value) (w:World):Up w.drawn (endPrinting p fr v w):=by
 unfold endPrinting
 dsimp only
 split
 ·exact ff _ _ _
 ·trivial
theorem lH (p:Program) (fr:Frame) (callers:List Frame) (dying:Option Dying) (m:String) (w:World):Up w.drawn (endFatal p fr callers dying m w):=by
 unfold endFatal
 dsimp only
 split
 ·next h=>exact(DJ _ _ _ _ _).mono (aA h)
 ·trivial
 ·trivial
theorem uX (p:Program) (fr:Frame) (d:Dying) (f:Fatal) (w:World):Up w.drawn (writeOn p fr d f w):=by
 unfold writeOn
 dsimp only
 split
 ·trivial
 ·simp only[Sem.runT_eq]
  split
  ·next h=>rw[Prod.mk.injEq]at h;exact aA h.1
  ·next h=>rw[Prod.mk.injEq]at h;exact run_halt h.1
  ·trivial
  ·trivial
theorem Is (p:Program) (fr:Frame) (d:Dying) (w:World):Up w.drawn (die p fr d w):=by
 unfold die
 split
 ·exact uX _ _ _ _ _
 ·split
  ·split
   ·exact Nat.le_refl _
   ·exact wH _ _ _ _
  ·dsimp only
   split
   ·exact Nat.le_refl _
   ·split
    ·next h=>exact aA h
    ·trivial
   ·simp only[Sem.runT_eq]
    apply Up.after
    split
    ·next h=>exact aA h
    ·next h=>exact aA h
    ·trivial
    ·next h=>exact(gN _ _ _ _).mono (run_halt h)
    ·trivial
   ·trivial
theorem gP (p:Program) (main:Bool) (fr:Frame) (callers:List Frame) (dying:Option Dying) (v:Value) (w:World):Up w.drawn (doReturn p main fr callers dying v w):=by
 unfold doReturn
 repeat' first
  | exact Nat.le_refl _
  | trivial
  | split
theorem m8 (p:Program) (fr:Frame) (callers:List Frame) (dying:Option Dying) (d:Deferred) (w:World):Up w.drawn (callDeferred p fr callers dying d w):=by
 unfold callDeferred
 simp only[Sem.runT_eq]
 refine I7 ?_ ?_
 ·trivial
 ·apply Up.after
  split
  all_goals first
   | trivial
   | exact aA ‹_›
   | exact run_halt ‹_›
   | exact(lH _ _ _ _ _ _).mono (run_halt ‹_›)
   | exact(ff _ _ _).mono (run_halt ‹_›)
   | (split<;>exact aA ‹_›)
theorem yu (p:Program) (main:Bool) (fr:Frame) (callers:List Frame) (dying:Option Dying) (w:World):Up w.drawn (unwind p main fr callers dying w):=by
 unfold unwind
 split
 ·simp only[Sem.runT_eq]
  apply Up.after
  split
  ·next h=>exact aA h
  ·trivial
 ·exact m8 _ _ _ _ _ _
 ·split
  ·trivial
  ·split
   ·trivial
   ·split
    ·exact Nat.le_refl _
    ·split
     ·split
      ·exact Nat.le_refl _
      ·split
       ·next h=>exact aA h
       ·trivial
       ·trivial
     ·split
      ·exact gN _ _ _ _
      ·trivial
  ·split
   ·exact gP _ _ _ _ _ _ _
   ·simp only[Sem.runT_eq]
    apply Up.after
    split
    ·next h=>exact(gP _ _ _ _ _ _ _).mono (aA h)
    ·trivial
    ·trivial
theorem Dz (p:Program) (fr:Frame) (callers:List Frame) (dying:Option Dying) (g:Nat) (w:World):Up w.drawn (early p fr callers dying g w):=by
 unfold early
 dsimp only
 repeat' first
  | exact Nat.le_refl _
  | trivial
  | exact aA ‹_›
  | (dsimp only[Up];exact aA ‹_›)
  | split
theorem oF (p:Program) (fr:Frame) (callers:List Frame) (dying:Option Dying) (s:Sem Next) (w:World) (listen:Bool):Up w.drawn (stepG.apply p listen fr callers dying s w):=by
 have key:∀(r:Result Next) (es:Array Event),r=s.run p w->Up w.drawn (stepG.apply p listen fr callers dying s w):=by
  intro r es hr
  unfold stepG.apply
  dsimp only
  apply Up.after
  have e:(if listen=true then s.runT p w #[] else (s.run p w,#[])).1=s.run p w:=by
   split
   ·rw[Sem.runT_eq]
   ·rfl
  rw[e]
  split
  all_goals first
   | trivial
   | exact aA ‹_›
   | exact run_halt ‹_›
   | exact(lH _ _ _ _ _ _).mono (run_halt ‹_›)
   | exact(ff _ _ _).mono (run_halt ‹_›)
   | exact(Dz _ _ _ _ _ _).mono (run_halt ‹_›)
   | (repeat' first|exact aA ‹_› | exact(ff _ _ _).mono (aA ‹_›)|split)
 exact key _ #[] rfl
theorem EX (p:Program) (fr:Frame) (callers:List Frame) (dying:Option Dying) (w:World) (listen:Bool):Up w.drawn (stepG.oper p listen fr callers dying w):=by
 unfold stepG.oper
 repeat' first
  | trivial
  | exact oF _ _ _ _ _ _ _
  | split
theorem FI (p:Program) (main:Bool) (fr:Frame) (callers:List Frame) (dying:Option Dying) (w:World) (listen:Bool):Up w.drawn (stepG.exec p main listen fr callers dying w):=by
 unfold stepG.exec
 simp only[Sem.runT_eq]
 repeat' first
  | trivial
  | exact Nat.le_refl _
  | exact oF _ _ _ _ _ _ _
  | exact EX _ _ _ _ _ _
  | exact aA ‹_›
  | exact run_halt ‹_›
  | exact(gP _ _ _ _ _ _ _).mono (aA ‹_›)
  | exact(oF _ _ _ _ _ _ _).mono (aA ‹_›)
  | refine xV ?_ λ_=>?_
  | (refine Up.mono (aA ‹_›) (xV ?_ λ_=>?_))
  | apply Up.after
  | split
theorem Bg (p:Program) (main:Bool) (g:Goroutine) (w:World) (listen:Bool):Up w.drawn (stepG p main g w listen):=by
 obtain⟨frame,callers,status,dying,offers⟩:=g
 unfold stepG
 dsimp only
 split
 ·exact Is _ _ _ _
 ·exact FI _ _ _ _ _ _ _
 ·exact yu _ _ _ _ _ _
theorem uY {rest:Rest} {cases:Array CommCase} {w w':World} (h:waitingAt rest cases w=some w'):w'.drawn=w.drawn:=by
 unfold waitingAt at h
 repeat' first
  | (cases h;rfl)
  | (cases h;done)
  | split at h
theorem FW (p:Program) (rest:Rest) (gs:Array Goroutine) (i:Nat) (g:Goroutine) (cases:Array CommCase) (blocking:Bool)
  (shape:CommShape) (w:World) (m':Machine) (h:(communicate p rest gs i g cases blocking shape w).1=.next m'):w.drawn<=m'.world.drawn:=by
 unfold communicate at h
 simp only[]at h
 repeat' first
  | (simp at h;done)
  | (simp only[Stepped.next.injEq]at h;subst h;first
    | exact Nat.le_refl _
    | exact Nat.le_of_eq (uY (by assumption)).symm
    | (dsimp only;exact aA (by assumption))
    | (dsimp only;exact run_halt (by assumption))
    | (dsimp only;refine Nat.le_trans ?_ (run_halt (by assumption));exact aA (by assumption))
    | (dsimp only;refine Nat.le_trans ?_ (aA (by assumption));exact aA (by assumption)))
  | split at h
theorem mi (p:Program) (gs:Array Goroutine) (rest:Rest) (w:World) (m':Machine)
  (h:look p gs rest w=.next m'):w.drawn<=m'.world.drawn:=by
 unfold look at h
 simp only[]at h
 repeat' first
  | (simp at h;done)
  | (simp only[Stepped.next.injEq]at h;subst h;dsimp only;exact aA (by assumption))
  | split at h
theorem Bt (p:Program) (m m':Machine) (k:Nat) (h:serve p m k=.next m'):m'.world.drawn=m.world.drawn:=by
 unfold serve at h
 simp only[]at h
 repeat' first
  | (simp at h;done)
  | (simp only[Stepped.next.injEq]at h;subst h;rfl)
  | split at h
theorem DC (w:World) (c:Nat):(drain w c).2.drawn=w.drawn:=by unfold drain;split<;>rfl
theorem pR (m:Machine) (k:Nat) (t:Timer) (a b:Nat):(retime m k t a b).2.world.drawn=m.world.drawn:=by
 unfold retime
 cases t.chan with
 | none=>rfl
 | some c=>exact DC m.world c
theorem tF {m:Machine} {var:Addr} {f:Nat->Timer->Value × Machine} {r:Value × Machine} {n:Nat} (hf:∀k t,(f k t).2.world.drawn=n) (h:timerOp.named m var f=.ok r):r.2.world.drawn=n:=by
 unfold timerOp.named at h
 split at h
 ·cases h;exact hf _ _
 ·cases h
theorem zr {m m':Machine} {var:Addr} (h:timerOp.opened m var=some m'):m'.world.drawn=m.world.drawn:=by
 unfold timerOp.opened at h
 repeat' first
  | (cases h;rfl)
  | (cases h;done)
  | split at h
theorem B7 (m:Machine) (op:TimerOp) (v:Value) (m':Machine) (h:timerOp m op=.ok (v,m')):m'.world.drawn=m.world.drawn:=by
 unfold timerOp at h
 simp only[]at h
 split at h
 ·repeat' first
   | (cases h;rfl)
   | (cases h;done)
   | split at h
 ·exact tF (r:=(v,m')) (λ_ _=>pR _ _ _ _ _) h
 ·split at h
  ·next hm=>exact(tF (r:=(v,m')) (λ_ _=>pR _ _ _ _ _) h).trans (zr hm)
  ·cases h
 ·cases h;rfl
theorem B8 {fr:Frame} {msg:String} {w w':World} {g:Goroutine} {es:Array Event} (h:endThrow fr msg w=.go g w' es):w'.drawn=w.drawn:=by
 unfold endThrow dieOf at h
 cases h
 rfl
theorem EN (p:Program) (m m':Machine) (i:Nat) (b:Bool) (h:(Go.runT p m i b).1=.next m'):m.world.drawn<=m'.world.drawn:=by
 simp only[Go.runT]at h
 generalize m.gs.swapAt! _ _=gg at h
 have hu:=Bg p (i == 0) gg.1 m.world b
 generalize stepG p (i == 0) gg.1 m.world b=s at h hu
 cases s<;>simp only[]at h<;>simp only[Up]at hu
 all_goals first
  | (simp at h;done)
  | exact Nat.le_trans hu (FW _ _ _ _ _ _ _ _ _ _ h)
  | exact Nat.le_trans hu (mi _ _ _ _ _ h)
  | (simp only[Stepped.next.injEq]at h;subst h;exact hu)
  | (repeat' first
    | (simp at h;done)
    | (simp only[Stepped.next.injEq]at h;subst h;exact hu)
    | (simp only[Stepped.next.injEq]at h;subst h;exact Nat.le_trans hu (Nat.le_of_eq (B7 _ _ _ _ (by assumption)).symm))
    | (simp only[Stepped.next.injEq]at h;subst h;exact Nat.le_trans hu (Nat.le_of_eq (B8 (by assumption)).symm))
    | split at h)
theorem xm {α:Type} {p:Program} {s:Sem α} {m:Machine} {t:Nat} {w':World} {a:α} (h:s.run p (m.advanceTo t).world=.ok a w'):m.world.drawn<=w'.drawn:=aA (w:=(m.advanceTo t).world) h
theorem oE (p:Program) (m m':Machine) (i:Nat) (h:askOn p m=.goroutine m' i):m.world.drawn<=m'.world.drawn:=by
 unfold askOn at h
 simp only[]at h
 repeat' first
  | (simp at h;done)
  | (simp only[Move.goroutine.injEq]at h;obtain⟨rfl,_⟩:=h;repeat' first
    | exact aA (by assumption)
    | exact xm (by assumption)
    | refine Nat.le_trans ?_ (xm (by assumption))
    | refine Nat.le_trans ?_ (aA (by assumption)))
  | split at h
theorem oD (p:Program) (m m':Machine) (ops:Array MemOp) (h:askOn p m=.machine (.next m') ops):m.world.drawn<=m'.world.drawn:=by
 unfold askOn at h
 simp only[]at h
 repeat' first
  | (simp at h;done)
  | (simp only[Move.machine.injEq]at h;have hs:=Bt _ _ _ _ h.1;rw[hs];exact aA (by assumption))
  | (simp only[Move.machine.injEq,Stepped.next.injEq]at h;obtain⟨rfl,_⟩:=h;first
    | (dsimp only[Machine.advanceTo];exact aA (by assumption))
    | (dsimp only[Machine.advanceTo];refine Nat.le_trans ?_ (aA (by assumption));exact aA (by assumption)))
  | split at h
theorem IJ (p:Program) (m m':Machine) (i:Nat) (h:ask p m=.goroutine m' i):m.world.drawn<=m'.world.drawn:=by
 unfold ask at h
 repeat' first
  | (simp at h;done)
  | exact oE p m m' i h
  | exact Nat.le_trans (Nat.le_trans (aA (by assumption)) (mi _ _ _ _ _ (by assumption))) (oE p _ m' i h)
  | exact Nat.le_trans (aA (by assumption)) (oE p _ m' i h)
  | split at h
theorem II (p:Program) (m m':Machine) (ops:Array MemOp) (h:ask p m=.machine (.next m') ops):m.world.drawn<=m'.world.drawn:=by
 unfold ask at h
 repeat' first
  | (simp at h;done)
  | exact oD p m m' ops h
  | (simp only[Move.machine.injEq]at h;exact Nat.le_trans (aA (by assumption)) (mi _ _ _ _ _ h.1))
  | exact Nat.le_trans (Nat.le_trans (aA (by assumption)) (mi _ _ _ _ _ (by assumption))) (oD p _ m' ops h)
  | exact Nat.le_trans (aA (by assumption)) (oD p _ m' ops h)
  | split at h
theorem Fl (p:Program) (m m':Machine) (i:Nat) (h:move p m=.goroutine m' i):m.world.drawn<=m'.world.drawn:=by
 unfold move at h
 repeat' first
  | (simp at h;done)
  | (have:=IJ p _ m' i h;exact this)
  | (simp only[Move.goroutine.injEq]at h;obtain⟨rfl,_⟩:=h;exact Nat.le_refl _)
  | split at h
theorem Fj (p:Program) (m m':Machine) (ops:Array MemOp) (h:move p m=.machine (.next m') ops):m.world.drawn<=m'.world.drawn:=by
 unfold move at h
 repeat' first
  | (simp at h;done)
  | (have:=II p _ m' ops h;exact this)
  | split at h
theorem EG (p:Program) (m m':Machine) (h:step p m=.next m'):m.world.drawn<=m'.world.drawn:=by
 unfold step at h
 simp only[stepT]at h
 split at h
 next m₁ i hm=>exact Nat.le_trans (Fl p m m₁ i hm) (EN p m₁ m' i _ h)
 next s ops hm =>
  simp only[]at h
  subst h
  exact Fj p m m' ops hm
theorem xn (p:Program):∀(n:Nat) (m m':Machine),runN p n m=.next m'->m.world.drawn<=m'.world.drawn
 | 0,m,m',h=>by
  rw[runN]at h
  cases h
  exact Nat.le_refl _
 | n+1,m,m',h=>by
  rw[runN]at h
  cases hs:step p m with
  | next m1 =>
   rw[hs]at h
   exact Nat.le_trans (EG p m m1 hs) (xn p n m1 m' h)
  | ended o w=>rw[hs]at h;cases h
theorem Bf {p:Program} {m m':Machine} (h:Steps p m m'):m.world.drawn<=m'.world.drawn:=by
 obtain⟨n,hn⟩:=h
 exact xn p n m m' hn
theorem calls_le {P:Program} {f:FuncId} {args:Array Value} {w:World} {R:Ending->World->Prop} (h:Calls P f args w R) (hR:∀e w',R e w'->∃v,e=.returned v) :
  Calls P f args w λe w'=>R e w'/\w.drawn<=w'.drawn:=by
 intro cs
 obtain⟨e,w',fr,h1,h2,h3,h4⟩:=h cs
 obtain⟨v,rfl⟩:=hR e w' h1
 exact⟨_,w',fr,⟨h1,Bf h2⟩,h2,h3,h4⟩
end Go.Proofs.YtfcbghmbbjolcaaGreatDoor.Dr
