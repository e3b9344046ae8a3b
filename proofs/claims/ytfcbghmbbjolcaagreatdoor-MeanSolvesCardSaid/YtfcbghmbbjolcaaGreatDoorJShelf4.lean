/- What slices' stable sort does with its rows, plainly: parts -/
import Derived.Test.YtfcbghmbbjolcaaGreatDoorProg
import Derived.Lib.Hide
import Derived.Shelf.SlSortCmp.Insertion1
set_option maxHeartbeats 8000000
set_option maxRecDepth 1000000
namespace Go.Proofs.YtfcbghmbbjolcaaGreatDoor
open Go Go.Sort
namespace Sy
variable {α:Type} [Inhabited α] {lt:α->α->Bool}
def Ex (d D:Array α) (a b n:Nat):Prop:=
 D.size=d.size/\(∀k,a<=k->k<a+n->D[k]! = d[k+(b-a)]!)/\(∀k,b<=k->k<b+n->D[k]! = d[k-(b-a)]!) /\
  ∀k,(k<a∨a+n<=k)->(k<b∨b+n<=k)->D[k]! = d[k]!
theorem FJ (d:Array α) (a b:Nat):Ex d d a b 0:=
 ⟨rfl,λ_ _ _=>by omega,λ_ _ _=>by omega,λ_ _ _=>rfl⟩
theorem FK {d D:Array α} {a b n:Nat} (h:Ex d D a b n) (hab:a+n<b) (hb:b+n<d.size) :
  Ex d (swp D (a+n) (b+n)) a b (n+1):=by
 obtain⟨h0,h1,h2,h3⟩:=h
 have g:=swp_get D (show a+n<D.size by omega) (show b+n<D.size by omega)
 refine⟨by rw[swp_size,h0],λk k1 k2=>?_,λk k1 k2=>?_,λk k1 k2=>?_⟩
 ·rw[g]
  by_cases e:k=a+n
  ·subst e
   rw[if_neg (by omega),if_pos rfl,h3 _ (by omega) (by omega),show a+n+(b-a)=b+n by omega]
  ·rw[if_neg (by omega),if_neg e,h1 k k1 (by omega)]
 ·rw[g]
  by_cases e:k=b+n
  ·subst e
   rw[if_pos rfl,h3 _ (by omega) (by omega),show b+n-(b-a)=a+n by omega]
  ·rw[if_neg e,if_neg (by omega),h2 k k1 (by omega)]
 ·rw[g,if_neg (by omega),if_neg (by omega),h3 k (by omega) (by omega)]
def Rot (d D:Array α) (s m e:Nat):Prop:=
 D.size=d.size/\(∀k,s<=k->k<s+(e-m)->D[k]! = d[k+(m-s)]!)/\(∀k,s+(e-m)<=k->k<e->D[k]! = d[k-(e-m)]!) /\
  ∀k,k<s∨e<=k->D[k]! = d[k]!
theorem jA {d:Array α} {s m e:Nat} (h:s=m∨m=e) (h1:s<=m) (h2:m<=e):Rot d d s m e:=by
 refine⟨rfl,λk k1 k2=>?_,λk k1 k2=>?_,λ_ _=>rfl⟩
 ·rw[show k+(m-s)=k by omega]
 ·rw[show k-(e-m)=k by omega]
theorem BI {d D:Array α} {m i:Nat} (hi:i<=m) (h:Ex d D (m-i) m i):Rot d D (m-i) m (m+i):=by
 obtain⟨h0,h1,h2,h3⟩:=h
 refine⟨h0,λk k1 k2=>h1 k k1 (by omega),λk k1 k2=>?_,λk k1=>h3 k (by omega) (by omega)⟩
 rw[h2 k (by omega) k2,show k-(m+i-m)=k-(m-(m-i)) by omega]
theorem BL {d d1 D:Array α} {m i j:Nat} (hi:i<=m) (hj:j<i) (h:Ex d d1 (m-i) m j) (h':Rot d1 D (m-(i-j)) m (m+j)) :
  Rot d D (m-i) m (m+j):=by
 obtain⟨h0,h1,h2,h3⟩:=h
 obtain⟨r0,r1,r2,r3⟩:=h'
 refine⟨by omega,λk k1 k2=>?_,λk k1 k2=>?_,λk k1=>?_⟩
 ·rw[r3 k (by omega),h1 k k1 (by omega)]
 ·by_cases e:k<m-(i-j)+(m+j-m)
  ·rw[r1 k (by omega) e,h2 _ (by omega) (by omega)]
   congr 1
   omega
  ·rw[r2 k (by omega) k2,h3 _ (by omega) (by omega)]
 ·rw[r3 k (by omega),h3 k (by omega) (by omega)]
theorem yW {d d1 D:Array α} {m i j:Nat} (hi:i<=m) (hj:i<j) (h:Ex d d1 (m-i) (m+j-i) i) (h':Rot d1 D (m-i) m (m+(j-i))) :
  Rot d D (m-i) m (m+j):=by
 obtain⟨h0,h1,h2,h3⟩:=h
 obtain⟨r0,r1,r2,r3⟩:=h'
 refine⟨by omega,λk k1 k2=>?_,λk k1 k2=>?_,λk k1=>?_⟩
 ·by_cases e:k<m-i+(m+(j-i)-m)
  ·rw[r1 k k1 e]
   exact h3 _ (by omega) (by omega)
  ·rw[r2 k (by omega) (by omega),h1 _ (by omega) (by omega)]
   congr 1
   omega
 ·rw[r3 k (by omega),h2 k (by omega) (by omega)]
  congr 1
  omega
 ·rw[r3 k (by omega),h3 k (by omega) (by omega)]
theorem Ci (hS:SWO lt) {d D:Array α} {a b i:Nat} (hs:SortedIn lt (a+1) b d) (h1:a+1<=i) (h2:i<=b)
  (f1:i=a+1∨lt d[i-1]! d[a]! = true) (f2:i=b∨lt d[i]! d[a]! = false) (h:Rot d D a (a+1) i):SortedIn lt a b D:=by
 obtain⟨r0,r1,r2,r3⟩:=h
 intro p q k1 k2 k3
 by_cases c1:q<i-1
 ·rw[r1 q (by omega) (by omega),r1 p k1 (by omega)]
  exact hs _ _ (by omega) (by omega) (by omega)
 by_cases c2:q=i-1
 ·rw[r2 q (by omega) (by omega),r1 p k1 (by omega),show q-(i-(a+1))=a by omega,show p+(a+1-a)=p+1 by omega]
  cases hl:lt d[a]! d[p+1]! with
  | false=>rfl
  | true =>
   rcases f1 with f1|f1
   ·omega
   ·have t:=hS.trans _ _ _ f1 hl
    by_cases e:p+1=i-1
    ·rw[←e,hS.irrefl]at t
     cases t
    ·rw[hs (p+1) (i-1) (by omega) (by omega) (by omega)]at t
     cases t
 rw[r3 q (by omega)]
 by_cases c3:p<i-1
 ·rw[r1 p k1 (by omega)]
  exact hs _ _ (by omega) (by omega) k3
 by_cases c4:p=i-1
 ·rw[r2 p (by omega) (by omega),show p-(i-(a+1))=a by omega]
  rcases f2 with f2|f2
  ·omega
  ·by_cases e:q=i
   ·rw[e]
    exact f2
   ·exact hS.ntrans _ _ _ (hs i q (by omega) (by omega) k3) f2
 rw[r3 p (by omega)]
 exact hs _ _ (by omega) k2 k3
theorem zv (hS:SWO lt) {d D:Array α} {a m i:Nat} (hs:SortedIn lt a m d) (h1:a<=i) (h2:i<=m)
  (f1:i=a∨lt d[m]! d[i-1]! = false) (f2:i=m∨lt d[m]! d[i]! = true) (h:Rot d D i m (m+1)):SortedIn lt a (m+1) D:=by
 obtain⟨r0,r1,r2,r3⟩:=h
 intro p q k1 k2 k3
 by_cases c1:q<i
 ·rw[r3 q (by omega),r3 p (by omega)]
  exact hs _ _ k1 k2 (by omega)
 by_cases c2:q=i
 ·rw[r1 q (by omega) (by omega),r3 p (by omega),show q+(m-i)=m by omega]
  rcases f1 with f1|f1
  ·omega
  ·by_cases e:p=i-1
   ·rw[e]
    exact f1
   ·exact hS.ntrans _ _ _ f1 (hs p (i-1) k1 (by omega) (by omega))
 rw[r2 q (by omega) k3]
 by_cases c3:p<i
 ·rw[r3 p (by omega)]
  exact hs _ _ k1 (by omega) (by omega)
 by_cases c4:p=i
 ·rw[r1 p (by omega) (by omega),show p+(m-i)=m by omega]
  have asm:lt d[i]! d[m]! = false:=by
   rcases f2 with f2|f2
   ·omega
   ·exact hS.asymmA f2
  by_cases e:q-(m+1-m)=i
  ·rw[e]
   exact asm
  ·exact hS.ntrans _ _ _ (hs i _ h1 (by omega) (by omega)) asm
 rw[r2 p (by omega) (by omega)]
 exact hs _ _ (by omega) (by omega) (by omega)
theorem yL (hS:SWO lt) {d D:Array α} {a s mid m e b:Nat} (hl:SortedIn lt a m d) (hr:SortedIn lt m b d)
  (h1:a<=s) (h2:s<=m) (h3:m<=e) (h4:e<=b) (hm:s+(e-m)=mid)
  (f1:s=a∨e=b∨lt d[e]! d[s-1]! = false) (f2:s=m∨e=m∨lt d[e-1]! d[s]! = true) (h:Rot d D s m e) :
  SortedIn lt a s D/\SortedIn lt s mid D/\SortedIn lt mid e D/\SortedIn lt e b D /\
   ∀p q,a<=p->p<mid->mid<=q->q<b->lt D[q]! D[p]! = false:=by
 obtain⟨r0,r1,r2,r3⟩:=h
 refine⟨λp q k1 k2 k3=>?_,λp q k1 k2 k3=>?_,λp q k1 k2 k3=>?_,λp q k1 k2 k3=>?_,λp q k1 k2 k3 k4=>?_⟩
 ·rw[r3 q (by omega),r3 p (by omega)]
  exact hl _ _ k1 k2 (by omega)
 ·rw[r1 q (by omega) (by omega),r1 p k1 (by omega)]
  exact hr _ _ (by omega) (by omega) (by omega)
 ·rw[r2 q (by omega) k3,r2 p (by omega) (by omega)]
  exact hl _ _ (by omega) (by omega) (by omega)
 ·rw[r3 q (by omega),r3 p (by omega)]
  exact hr _ _ (by omega) k2 k3
 ·by_cases c1:p<s
  ·rw[r3 p (by omega)]
   by_cases c2:q<e
   ·rw[r2 q (by omega) c2]
    exact hl _ _ k1 (by omega) (by omega)
   ·rw[r3 q (by omega)]
    have f:lt d[e]! d[s-1]! = false:=by
     rcases f1 with f|f|f
     ·omega
     ·omega
     ·exact f
    have g:lt d[e]! d[p]! = false:=by
     by_cases c:p=s-1
     ·rw[c]
      exact f
     ·exact hS.ntrans _ _ _ f (hl p (s-1) k1 (by omega) (by omega))
    by_cases c:q=e
    ·rw[c]
     exact g
    ·exact hS.ntrans _ _ _ (hr e q h3 (by omega) k4) g
  ·rw[r1 p (by omega) (by omega)]
   by_cases c2:q<e
   ·rw[r2 q (by omega) c2]
    have f:lt d[s]! d[e-1]! = false:=by
     rcases f2 with f|f|f
     ·omega
     ·omega
     ·exact hS.asymmA f
    have g:lt d[s]! d[p+(m-s)]! = false:=by
     by_cases c:p+(m-s)=e-1
     ·rw[c]
      exact f
     ·exact hS.ntrans _ _ _ f (hr _ (e-1) (by omega) (by omega) (by omega))
    by_cases c:q-(e-m)=s
    ·rw[c]
     exact g
    ·exact hS.ntrans _ _ _ (hl s _ h1 (by omega) (by omega)) g
   ·rw[r3 q (by omega)]
    exact hr _ _ (by omega) (by omega) k4
theorem bP {d D:Array α} {a b x y:Nat} (h:SortedIn lt a b d) (hP:PermIn x y d D) (hd:b<=x∨y<=a):SortedIn lt a b D:=by
 intro p q k1 k2 k3
 rw[hP.2.1 p (by omega),hP.2.1 q (by omega)]
 exact h p q k1 k2 k3
theorem sorted_glue {D:Array α} {a mid b:Nat} (hl:SortedIn lt a mid D) (hr:SortedIn lt mid b D)
  (hx:∀p q,a<=p->p<mid->mid<=q->q<b->lt D[q]! D[p]! = false):SortedIn lt a b D:=by
 intro p q k1 k2 k3
 by_cases c1:q<mid
 ·exact hl p q k1 k2 c1
 by_cases c2:p<mid
 ·exact hx p q k1 c2 (by omega) k3
 ·exact hr p q (by omega) k2 k3
theorem uE {d d1 D:Array α} {a mid b:Nat} (hb:b<=d.size) (_h1:a<=mid) (h2:mid<=b)
  (hx:∀p q,a<=p->p<mid->mid<=q->q<b->lt d[q]! d[p]! = false) (hP:PermIn a mid d d1) (hQ:PermIn mid b d1 D) :
  ∀p q,a<=p->p<mid->mid<=q->q<b->lt D[q]! D[p]! = false:=by
 have x1:∀p q,a<=p->p<mid->mid<=q->q<b->lt d1[q]! d1[p]! = false:=by
  intro p q k1 k2 k3 k4
  rw[hP.2.1 q (by omega)]
  exact permIn_all d d1 a mid (λv=>lt d[q]! v=false) (by omega) hP (λi i1 i2=>hx i q i1 i2 k3 k4) p k1 k2
 intro p q k1 k2 k3 k4
 rw[hQ.2.1 p (by omega)]
 have hs:=hP.1
 exact permIn_all d1 D mid b (λv=>lt v d1[p]! = false) (by omega) hQ (λi i1 i2=>x1 p i k1 k2 i1 i2) q k3 k4
theorem BJ {d D:Array α} {s k:Nat} (h:Rot d D s (s+1) (k+1)) (hs:s<=k) (hk:k+1<d.size):Rot d (swp D k (k+1)) s (s+1) (k+2):=by
 obtain⟨r0,r1,r2,r3⟩:=h
 have g:=swp_get D (show k<D.size by omega) (show k+1<D.size by omega)
 refine⟨by rw[swp_size,r0],λq k1 k2=>?_,λq k1 k2=>?_,λq k1=>?_⟩
 ·rw[g]
  by_cases e:q=k
  ·subst e
   rw[if_neg (by omega),if_pos rfl,r3 _ (by omega)]
   congr 1
   omega
  ·rw[if_neg (by omega),if_neg e,r1 q k1 (by omega)]
 ·obtain rfl:q=k+1:=by omega
  rw[g,if_pos rfl,r2 k (by omega) (by omega)]
  congr 1
  omega
 ·rw[g,if_neg (by omega),if_neg (by omega),r3 q (by omega)]
theorem BK {d D:Array α} {k m:Nat} (h:Rot d D k m (m+1)) (h1:1<=k) (hk:k<=m) (hm:m<d.size):Rot d (swp D k (k-1)) (k-1) m (m+1):=by
 obtain⟨r0,r1,r2,r3⟩:=h
 have g:=swp_get D (show k<D.size by omega) (show k-1<D.size by omega)
 refine⟨by rw[swp_size,r0],λq k1 k2=>?_,λq k1 k2=>?_,λq k1=>?_⟩
 ·obtain rfl:q=k-1:=by omega
  rw[g,if_pos rfl,r1 k (by omega) (by omega)]
  congr 1
  omega
 ·rw[g]
  by_cases e:q=k
  ·subst e
   rw[if_neg (by omega),if_pos rfl,r3 _ (by omega)]
   congr 1
   omega
  ·rw[if_neg (by omega),if_neg e,r2 q (by omega) (by omega)]
 ·rw[g,if_neg (by omega),if_neg (by omega),r3 q (by omega)]
end Sy
namespace Sy
variable {α:Type} [Inhabited α] {lt:α->α->Bool}
theorem Be (hS:SWO lt) {d d1 d2 D:Array α} {a s mid m e b:Nat} (hl:SortedIn lt a m d) (hr:SortedIn lt m b d) (hb:b<=d.size)
  (h1:a<=s) (h2:s<=m) (h3:m<=e) (h4:e<=b) (hm:s+(e-m)=mid)
  (f1:s=a∨e=b∨lt d[e]! d[s-1]! = false) (f2:s=m∨e=m∨lt d[e-1]! d[s]! = true) (h:Rot d d1 s m e) (hP:PermIn s e d d1)
  (hP1:PermIn a mid d1 d2) (hs1:(SortedIn lt a s d1->SortedIn lt s mid d1->SortedIn lt a mid d2))
  (hP2:PermIn mid b d2 D) (hs2:(SortedIn lt mid e d2->SortedIn lt e b d2->SortedIn lt mid b D)) :
  PermIn a b d D/\SortedIn lt a b D:=by
 obtain⟨g1,g2,g3,g4,g5⟩:=yL hS hl hr h1 h2 h3 h4 hm f1 f2 h
 have z1:d1.size=d.size:=h.1
 have z2:d2.size=d1.size:=hP1.1
 refine⟨permIn_trans _ _ _ _ _ (permIn_mono _ _ s e a b h1 h4 hb hP)
  (permIn_trans _ _ _ _ _ (permIn_mono _ _ a mid a b (Nat.le_refl _) (by omega) (by omega) hP1)
   (permIn_mono _ _ mid b a b (by omega) (Nat.le_refl _) (by omega) hP2)),?_⟩
 refine sorted_glue (mid:=mid) (bP (hs1 g1 g2) hP2 (Or.inl (Nat.le_refl _)))
  (hs2 (bP g3 hP1 (Or.inr (Nat.le_refl _))) (bP g4 hP1 (Or.inr (by omega)))) ?_
 exact uE (by omega) (by omega) (by omega) g5 hP1 hP2
def kd (lt:α->α->Bool) (w c n:Nat) (d:Array α):Prop:=∀t,c<=t->SortedIn lt (t*w) (min (t*w+w) n) d
def To (lt:α->α->Bool) (w c n:Nat) (d:Array α):Prop:=∀t,t<c->SortedIn lt (t*w) (min (t*w+w) n) d
theorem xb (w n:Nat) (d:Array α):To lt w 0 n d:=λ_ h=>by omega
theorem jv {d:Array α} {a b b':Nat} (h:SortedIn lt a b d) (hb:b'<=b):SortedIn lt a b' d:=
 λp q k1 k2 k3=>h p q k1 k2 (by omega)
theorem xc {d D:Array α} {w c n:Nat} (h:To lt w c n d) (hP:PermIn (c*w) (c*w+w) d D) (hs:SortedIn lt (c*w) (c*w+w) D) :
  To lt w (c+1) n D:=by
 intro t ht
 by_cases e:t=c
 ·rw[e]
  exact jv hs (by omega)
 ·have:=Nat.mul_le_mul_right w (show t+1<=c by omega)
  rw[Nat.succ_mul]at this
  exact bP (h t (by omega)) hP (Or.inl (by omega))
theorem vl {d D:Array α} {w c n:Nat} (h:To lt w c n d) (hn:n<=c*w+w) (hP:PermIn (c*w) n d D) (hs:SortedIn lt (c*w) n D) :
  kd lt w 0 n D:=by
 intro t _
 by_cases e:t=c
 ·rw[e]
  exact jv hs (by omega)
 by_cases e1:t<c
 ·have:=Nat.mul_le_mul_right w (show t+1<=c by omega)
  rw[Nat.succ_mul]at this
  exact bP (h t e1) hP (Or.inl (by omega))
 ·have:=Nat.mul_le_mul_right w (show c+1<=t by omega)
  rw[Nat.succ_mul]at this
  intro p q k1 k2 k3
  omega
theorem ul {d:Array α} {w c n:Nat} (h:kd lt w (2*c) n d) (hn:c*(2*w)+w<=n) :
  SortedIn lt (c*(2*w)) (c*(2*w)+w) d:=by
 have:=h (2*c) (Nat.le_refl _)
 rw[show 2*c*w=c*(2*w) by rw[Nat.mul_comm 2 c,Nat.mul_assoc],Nat.min_eq_left hn]at this
 exact this
theorem uk {d:Array α} {w c n:Nat} (h:kd lt w (2*c) n d) :
  SortedIn lt (c*(2*w)+w) (min (c*(2*w)+2*w) n) d:=by
 have:=h (2*c+1) (by omega)
 rw[Nat.succ_mul,show 2*c*w=c*(2*w) by rw[Nat.mul_comm 2 c,Nat.mul_assoc],Nat.add_assoc,←Nat.two_mul]at this
 exact this
theorem Di {d:Array α} {w c n:Nat} (h:kd lt w (2*c) n d) (hn:n<=c*(2*w)+w) :
  SortedIn lt (c*(2*w)) n d:=by
 have:=h (2*c) (Nat.le_refl _)
 rw[show 2*c*w=c*(2*w) by rw[Nat.mul_comm 2 c,Nat.mul_assoc],Nat.min_eq_right hn]at this
 exact this
theorem zN {d D:Array α} {w c n:Nat} (h:kd lt w (2*c) n d) (hP:PermIn (c*(2*w)) (c*(2*w)+2*w) d D) :
  kd lt w (2*(c+1)) n D:=by
 intro t ht
 have:=Nat.mul_le_mul_right w ht
 rw[show 2*(c+1)*w=c*(2*w)+2*w by rw[Nat.mul_comm 2,Nat.mul_assoc,Nat.succ_mul]]at this
 exact bP (h t (by omega)) hP (Or.inr (by omega))
theorem zO {d:Array α} {w n:Nat} (h:kd lt w 0 n d) (hn:n<=w):SortedIn lt 0 n d:=by
 have:=h 0 (Nat.le_refl _)
 rw[Nat.zero_mul,Nat.zero_add,Nat.min_eq_right hn]at this
 exact this
def dZ (lt:α->α->Bool) (d:Array α) (n s0 r0 s r:Nat):Prop:=
 s0<=s/\s<=r/\r<=r0/\(s=s0∨lt d[n-s]! d[s-1]! = false)/\(r=r0∨lt d[n-1-r]! d[r]! = true)
theorem ju (d:Array α) {n s0 r0:Nat} (h:s0<=r0):dZ lt d n s0 r0 s0 r0:=by
 refine⟨?_,h,?_,Or.inl rfl,Or.inl rfl⟩<;>omega
theorem pN {d:Array α} {n s0 r0 s r c:Nat} (h:dZ lt d n s0 r0 s r) (h1:s<=c) (h2:c<r) (h3:lt d[n-1-c]! d[c]! = false) :
  dZ lt d n s0 r0 (c+1) r:=by
 obtain⟨k1,k2,k3,_,k5⟩:=h
 refine⟨by omega,by omega,k3,Or.inr ?_,k5⟩
 rw[show n-(c+1)=n-1-c by omega,show c+1-1=c by omega]
 exact h3
theorem lq {d:Array α} {n s0 r0 s r c:Nat} (h:dZ lt d n s0 r0 s r) (h1:s<=c) (h2:c<r) (h3:lt d[n-1-c]! d[c]! = true) :
  dZ lt d n s0 r0 s c:=by
 obtain⟨k1,_,k3,k4,_⟩:=h
 exact⟨k1,h1,by omega,k4,Or.inr h3⟩
theorem pL {d:Array α} {a m b mid s0 r0 s:Nat} (hm:mid=(a+b) / 2) (h1:a<m) (h2:m<b) (_h:m-a≠1)
  (hc:(mid<m/\s0=mid+m-b/\r0=mid)∨(m<=mid/\s0=a/\r0=m)) (hs:dZ lt d (mid+m) s0 r0 s s) :
  a<=s/\s<=m/\s<=mid/\m<=mid+m-s/\mid<=mid+m-s/\mid+m-s<=b/\a<mid/\mid<b/\s+(mid+m-s-m)=mid /\
   (s=a∨mid+m-s=b∨lt d[mid+m-s]! d[s-1]! = false)/\(s=m∨mid+m-s=m∨lt d[mid+m-s-1]! d[s]! = true):=by
 obtain⟨k1,k2,k3,k4,k5⟩:=hs
 refine⟨by omega,by omega,by omega,by omega,by omega,by omega,by omega,by omega,by omega,?_,?_⟩
 ·rcases k4 with k4|k4
  ·omega
  ·exact Or.inr (Or.inr k4)
 ·rcases k5 with k5|k5
  ·omega
  ·right
   right
   rw[show mid+m-s-1=mid+m-1-s by omega]
   exact k5
theorem mE {a m b mid s0 r0 c:Nat} (hm:mid=(a+b) / 2) (h1:a<m) (h2:m<b) (_h:m-a≠1)
  (hc:(mid<m/\s0=mid+m-b/\r0=mid)∨(m<=mid/\s0=a/\r0=m)) (h3:s0<=c) (h4:c<r0) :
  a<=c/\c<m/\m<=mid+m-1-c/\mid+m-1-c<b:=by
 omega
end Sy
open Go.Shelf Go.RowKit Go.Lib Sy
variable {α:Type} [Inhabited α]
def pu (enc:α->Value) (w0:World) (blk off:Nat) (Q:Array α->Prop) (e:Ending) (w':World):Prop:=e=.returned (.tuple #[])/\∃D,SW enc w0 blk off D w'/\Q D
theorem kp (enc:α->Value) (fv:Value) (blk off cap a b n:Nat) (d0 d:Array α) (w0 w:World) (R:Row1 enc w0 blk off d0) (hs:d0.size=d.size) (S:SW enc w0 blk off d w) (hab:a+n<=b) (hb:b+n<=d.size) (hsz:d.size<4611686018427387904) :
  Calls Tryz.prog 282 #[.slice (some ⟨blk,off,none⟩) d.size cap,.int .i64 a,.int .i64 b,.int .i64 n,fv] w (pu enc w0 blk off λD=>Ex d D a b n/\PermIn a (b+n) d D):=by
 have mixed:Tryz.prog.follows Departure.mixedOrders=true:=by kernel_rfl
 have hcl0:=R.hO.cells
 simp only[Value.cells]at hcl0
 have hst:=R.hO.store Tryz.prog
 have S0:Aside (SW enc w0 blk off d w):=S
 have E0:Hid (Ex d d a b 0/\PermIn a (b+n) d d):=⟨FJ d a b,permIn_refl _ _ _⟩
 clear S
 go_enter Tryz.func282,Tryz.ntmps282
 go_wp2
 go_loopg [10] n (λg1 vi wr=>∃(i:Nat) (dk:Array α),vi=.int .i64 i/\i<=n/\n-i<=g1/\dk.size=d.size/\Aside (SW enc w0 blk off dk wr)/\Hid (Ex d dk a b i/\PermIn a (b+n) d dk))
 case atStart=>exact⟨0,d,rfl,by omega,by omega,rfl,S0,E0⟩
 case round =>
  clear S0 E0
  obtain⟨i,dk,rfl,hi,hg,hsk,S1,E1⟩:=hrel
  by_cases hlt:i<n
  ·have hltz:(i:Int)<(n:Int):=by omega
   obtain⟨iN1,hiN1⟩:∃q,q=a+i:=⟨_,rfl⟩
   obtain⟨jN1,hjN1⟩:∃q,q=b+i:=⟨_,rfl⟩
   have ea1:((a:Int)+(i:Int)).toNat=iN1:=by omega
   have pa1:(0:Int)<=(a:Int)+(i:Int):=by omega
   have ba1:(a:Int)+(i:Int)<(d.size:Int):=by omega
   have ra1:IntKind.i64.wrap ((a:Int)+(i:Int))=(a:Int)+(i:Int):=by rw[IntKind.wrap_i64];omega
   have ec1:((b:Int)+(i:Int)).toNat=jN1:=by omega
   have pc1:(0:Int)<=(b:Int)+(i:Int):=by omega
   have bc1:(b:Int)+(i:Int)<(d.size:Int):=by omega
   have rc1:IntKind.i64.wrap ((b:Int)+(i:Int))=(b:Int)+(i:Int):=by rw[IntKind.wrap_i64];omega
   obtain⟨x1,hx1⟩:∃x,x=dk[a+i]!:=⟨_,rfl⟩
   obtain⟨y1,hy1⟩:∃x,x=dk[b+i]!:=⟨_,rfl⟩
   have S2:Aside (SW enc w0 blk off (swp dk (a+i) (b+i)) ((wr.setCell ⟨blk,off+iN1,none⟩ (enc y1)).setCell ⟨blk,off+jN1,none⟩ (enc x1)).drew):=by rw[hiN1,hjN1,hx1,hy1];exact S1.out.swapped R (a+i) (b+i) (by omega) (by omega)
   have c1a:=S1.out.c1 R (by omega) (a+i) (by omega)
   have c1b:=S1.out.c1 R (by omega) (b+i) (by omega)
   have f1a:=S1.out.f1 R (by omega) (a+i) (by omega)
   have f1b:=S1.out.f1 R (by omega) (b+i) (by omega)
   obtain⟨u1,c1c⟩:=S1.out.c2 R (by omega) (a+i) (b+i) (by omega) (by omega) (enc y1)
   rw[←hjN1,←hiN1]at c1c
   rw[←hx1,←hiN1]at c1a
   rw[←hy1,←hjN1]at c1b
   rw[←hiN1]at f1a
   rw[←hjN1]at f1b
   clear S1 hx1 hy1 hiN1 hjN1
   go_wp2_with fail
   go_big_region_o
   clear c1a c1b c1c f1a f1b
   generalize ((wr.setCell ⟨blk,off+iN1,none⟩ (enc y1)).setCell ⟨blk,off+jN1,none⟩ (enc x1)).drew=w2 at S2 ⊢
   clear ea1 ec1
   go_wp2
   go_roundg (n-(i+1))
   case measure=>omega
   case rel=>exact⟨i+1,swp dk (a+i) (b+i),by go_num,by omega,by omega,by rw[size_swp];exact hsk,S2,FK E1.out.1 (by omega) (by omega),permIn_trans _ _ _ _ _ E1.out.2 (swp_permIn _ _ _ _ _ (by omega) (by omega) (by omega) (by omega) (by omega))⟩
  ·have hltz:¬ (i:Int)<(n:Int):=by omega
   obtain rfl:i=n:=by omega
   go_wp2
   go_end0
   exact⟨rfl,dk,S1.out,E1.out⟩
def Gh (d dk:Array α) (a m b i j:Nat):Prop:=(∀D,Rot dk D (m-i) m (m+j)->Rot d D a m b)/\PermIn a b d dk
theorem mQ (enc:α->Value) (fv:Value) (blk off cap a m b:Nat) (d0 d:Array α) (w0 w:World) (R:Row1 enc w0 blk off d0) (hs:d0.size=d.size) (S:SW enc w0 blk off d w) (ham:a<m) (hmb:m<b) (hb:b<=d.size) (hsz:d.size<4611686018427387904) :
  Calls Tryz.prog 244 #[.slice (some ⟨blk,off,none⟩) d.size cap,.int .i64 a,.int .i64 m,.int .i64 b,fv] w (pu enc w0 blk off λD=>Rot d D a m b/\PermIn a b d D):=by
 have S0:Aside (SW enc w0 blk off d w):=S
 have E0:Hid (Gh d d a m b (m-a) (b-m)):=⟨λD h=>by rw[show m-(m-a)=a by omega,show m+(b-m)=b by omega]at h;exact h,permIn_refl _ _ _⟩
 clear S
 have ea:((m-a:Nat):Int)=(m:Int)-(a:Int):=by omega
 have eb:((b-m:Nat):Int)=(b:Int)-(m:Int):=by omega
 have EA:=Lib.hid ea
 have EB:=Lib.hid eb
 clear ea eb
 go_enter Tryz.func244,Tryz.ntmps244
 go_wp2
 go_loopg [10,11] (b-a) (λg1 vi vj wr=>∃(i j:Nat) (dk:Array α),vi=.int .i64 i/\vj=.int .i64 j/\1<=i/\1<=j/\i<=m-a/\j<=b-m/\i+j<=g1/\dk.size=d.size/\Aside (SW enc w0 blk off dk wr)/\Hid (Gh d dk a m b i j))
 case atStart=>exact⟨m-a,b-m,d,by rw[EA.out],by rw[EB.out],by omega,by omega,by omega,by omega,by omega,rfl,S0,E0⟩
 case round =>
  clear S0 E0 EA EB
  obtain⟨i,j,dk,rfl,rfl,hi,hj,hia,hjb,hg,hsk,S1,E1⟩:=hrel
  rcases Nat.lt_trichotomy i j with hlt|heq|hgt
  ·have q1:((i:Int) != (j:Int))=true:=by rw[bne_iff_ne];omega
   have q2:decide ((i:Int) > (j:Int))=false:=decide_eq_false (by omega)
   have q3:¬ (j:Int)<(i:Int):=by omega
   have hcall:=kp enc fv blk off cap (m-i) (m+j-i) i d0 dk w0 wr R (by omega) S1.out (by omega) (by omega) (by omega)
   rw[show ((m-i:Nat):Int)=(m:Int)-(i:Int) by omega,show ((m+j-i:Nat):Int)=(m:Int)+(j:Int)-(i:Int) by omega,hsk]at hcall
   have hdone:Hid (∀d1,Ex dk d1 (m-i) (m+j-i) i/\PermIn (m-i) (m+j-i+i) dk d1->Gh d d1 a m b i (j-i)):=λd1 h=>⟨λD hD=>E1.out.1 D (yW (by omega) hlt h.1 hD),permIn_trans _ _ _ _ _ E1.out.2 (permIn_mono _ _ _ _ _ _ (by omega) (by omega) (by omega) h.2)⟩
   have HZ:Hid (∀d1,Ex dk d1 (m-i) (m+j-i) i->d1.size=d.size):=λd1 h=>by rw[h.1];exact hsk
   clear E1 S1 hsk
   go_wp2_with (go_at_call 282;refine hcall.mono ?_;rintro e w1 ⟨rfl,d1,S2,h2⟩;have S3:Aside _:=S2;have H3:=Lib.hid h2;clear S2 h2 hcall)
   go_roundg j
   case measure=>omega
   case rel=>exact⟨i,j-i,d1,rfl,by congr 1;omega,hi,by omega,hia,by omega,by omega,HZ.out d1 H3.out.1,S3,hdone.out d1 H3.out⟩
  ·subst heq
   have q1:((i:Int) != (i:Int))=false:=by simp
   have hcall:=kp enc fv blk off cap (m-i) m i d0 dk w0 wr R (by omega) S1.out (by omega) (by omega) (by omega)
   rw[show ((m-i:Nat):Int)=(m:Int)-(i:Int) by omega,hsk]at hcall
   have hdone:Hid (∀d1,Ex dk d1 (m-i) m i/\PermIn (m-i) (m+i) dk d1->Rot d d1 a m b/\PermIn a b d d1):=λd1 h=>⟨E1.out.1 d1 (BI (by omega) h.1),permIn_trans _ _ _ _ _ E1.out.2 (permIn_mono _ _ _ _ _ _ (by omega) (by omega) (by omega) h.2)⟩
   clear E1 S1 hsk
   go_wp2_with (go_at_call 282;refine hcall.mono ?_;rintro e w1 ⟨rfl,d1,S2,h2⟩;have S3:Aside _:=S2;have H3:=Lib.hid h2;clear S2 h2 hcall)
   go_end0
   exact⟨rfl,d1,S3.out,hdone.out d1 H3.out⟩
  ·have q1:((i:Int) != (j:Int))=true:=by rw[bne_iff_ne];omega
   have q2:decide ((i:Int) > (j:Int))=true:=decide_eq_true (by omega)
   have q3:(j:Int)<(i:Int):=by omega
   have hcall:=kp enc fv blk off cap (m-i) m j d0 dk w0 wr R (by omega) S1.out (by omega) (by omega) (by omega)
   rw[show ((m-i:Nat):Int)=(m:Int)-(i:Int) by omega,hsk]at hcall
   have hdone:Hid (∀d1,Ex dk d1 (m-i) m j/\PermIn (m-i) (m+j) dk d1->Gh d d1 a m b (i-j) j):=λd1 h=>⟨λD hD=>E1.out.1 D (BL (by omega) hgt h.1 hD),permIn_trans _ _ _ _ _ E1.out.2 (permIn_mono _ _ _ _ _ _ (by omega) (by omega) (by omega) h.2)⟩
   have HZ:Hid (∀d1,Ex dk d1 (m-i) m j->d1.size=d.size):=λd1 h=>by rw[h.1];exact hsk
   clear E1 S1 hsk
   go_wp2_with (go_at_call 282;refine hcall.mono ?_;rintro e w1 ⟨rfl,d1,S2,h2⟩;have S3:Aside _:=S2;have H3:=Lib.hid h2;clear S2 h2 hcall)
   go_roundg i
   case measure=>omega
   case rel=>exact⟨i-j,j,d1,by congr 1;omega,rfl,by omega,hj,by omega,hjb,by omega,HZ.out d1 H3.out.1,S3,hdone.out d1 H3.out⟩
variable {α:Type} [Inhabited α]
def Merged (lt:α->α->Bool) (d:Array α) (a m b:Nat) (D:Array α):Prop:=PermIn a b d D/\(SortedIn lt a m d->SortedIn lt m b d->SortedIn lt a b D)
theorem EE (enc:α->Value) (cf:α->α->Int) (hO:SWO (ltOf cf)) (F:Nat) (cb:Array Value) (blk off cap a m b:Nat) (d0 d:Array α) (w0 w:World) (eg:∀args w,(callFunc F args).run Tryz.prog w=.ok (.enter F args) w)
  (hcmp:CmpLays1 Tryz.prog F cb enc cf blk off d0.size w0) (R:Row1 enc w0 blk off d0) (hs:d0.size=d.size) (S:SW enc w0 blk off d w) (ham:m=a+1) (hmb:m<b) (hb:b<=d.size) (hsz:d.size<2305843009213693952) :
  Calls Tryz.prog 192 #[.slice (some ⟨blk,off,none⟩) d.size cap,.int .i64 a,.int .i64 m,.int .i64 b,.func (.func F) #[] cb] w (pu enc w0 blk off (Merged (ltOf cf) d a m b)):=by
 have mixed:Tryz.prog.follows Departure.mixedOrders=true:=by kernel_rfl
 have hcl0:=R.hO.cells
 simp only[Value.cells]at hcl0
 have hst:=R.hO.store Tryz.prog
 have HC:Aside _:=hcmp
 have S0:Aside (SW enc w0 blk off d w):=S
 have eq1:(((m:Int)-(a:Int)) == 1)=true:=by rw[beq_iff_eq];omega
 have HM:=Lib.hid ham
 have hm1:m<=a+1:=by omega
 have hm2:a+1<=m:=by omega
 clear S hcmp ham
 go_enter Tryz.func192,Tryz.ntmps192
 go_wp2
 go_loopg [10,11,12] b (λg1 vi vj vh wr=>∃(i j:Nat),vi=.int .i64 i/\vj=.int .i64 j/\m<=i/\i<=j/\j<=b/\j-i<=g1/\Aside (SW enc w0 blk off d wr)/\Hid ((i=a+1∨(ltOf cf) d[i-1]! d[a]! = true)/\(j=b∨(ltOf cf) d[j]! d[a]! = false)))
 case atStart=>exact⟨m,b,rfl,rfl,by omega,by omega,by omega,by omega,S0,⟨.inl HM.out,.inl rfl⟩⟩
 case round =>
  clear S0
  obtain⟨i,j,rfl,rfl,hmi,hij,hjb,hg,S1,E1⟩:=hrel
  by_cases hlt:i<j
  ·have hltz:(i:Int)<(j:Int):=by omega
   obtain⟨h,hih,hhj,eh⟩:∃h:Nat,i<=h/\h<j/\((i:Int)+(j:Int)) / 2=(h:Int):=⟨(i+j) / 2,by omega,by omega,by omega⟩
   cases hlv:(ltOf cf) d[h]! d[a]! with
   | true =>
    have E2:Hid ((h+1=a+1∨(ltOf cf) d[h+1-1]! d[a]! = true)/\(j=b∨(ltOf cf) d[j]! d[a]! = false)):=⟨.inr hlv,E1.out.2⟩
    obtain⟨iN2,hiN2⟩:∃q,q=h:=⟨_,rfl⟩
    obtain⟨jN2,hjN2⟩:∃q,q=a:=⟨_,rfl⟩
    have ea2:((h:Int)).toNat=iN2:=by omega
    have pa2:(0:Int)<=(h:Int):=by omega
    have ba2:(h:Int)<(d.size:Int):=by omega
    have ra2:IntKind.i64.wrap ((h:Int))=(h:Int):=by rw[IntKind.wrap_i64];omega
    have ec2:((a:Int)).toNat=jN2:=by omega
    have pc2:(0:Int)<=(a:Int):=by omega
    have bc2:(a:Int)<(d.size:Int):=by omega
    have rc2:IntKind.i64.wrap ((a:Int))=(a:Int):=by rw[IntKind.wrap_i64];omega
    obtain⟨x2,hx2⟩:∃x,x=d[h]!:=⟨_,rfl⟩
    obtain⟨y2,hy2⟩:∃x,x=d[a]!:=⟨_,rfl⟩
    have l2a:=S1.out.cl R (by omega) (h) (by omega)
    have l2b:=S1.out.cl R (by omega) (a) (by omega)
    rw[←hx2,←hiN2]at l2a
    rw[←hy2,←hjN2]at l2b
    have hc2:=S1.out.cmp HC.out (by omega) x2 y2
    have hv2:cf x2 y2<0:=by rw[hx2,hy2];exact of_decide_eq_true hlv
    have hd2:decide (cf x2 y2<0)=true:=decide_eq_true hv2
    clear hx2 hy2 hiN2 hjN2
    go_wp2_with fail
    go_quiet_grown (first|(go_at_fn F;refine Calls.grown_of (hc2 _ _)))
    have S2:Aside (SW enc w0 blk off d (grow (wr.drewN nq) osq)):=S1.out.grown nq osq
    clear l2a l2b hc2 S1
    generalize grow (wr.drewN nq) osq=w2 at S2 ⊢
    clear nq osq
    clear ea2 ec2
    clear hlv E1
    go_wp2
    go_roundg (j-(h+1))
    case measure=>omega
    case rel=>exact⟨h+1,j,by go_num,rfl,by omega,by omega,by omega,by omega,S2,E2⟩
   | false =>
    have E2:Hid ((i=a+1∨(ltOf cf) d[i-1]! d[a]! = true)/\(h=b∨(ltOf cf) d[h]! d[a]! = false)):=⟨E1.out.1,.inr hlv⟩
    obtain⟨iN3,hiN3⟩:∃q,q=h:=⟨_,rfl⟩
    obtain⟨jN3,hjN3⟩:∃q,q=a:=⟨_,rfl⟩
    have ea3:((h:Int)).toNat=iN3:=by omega
    have pa3:(0:Int)<=(h:Int):=by omega
    have ba3:(h:Int)<(d.size:Int):=by omega
    have ra3:IntKind.i64.wrap ((h:Int))=(h:Int):=by rw[IntKind.wrap_i64];omega
    have ec3:((a:Int)).toNat=jN3:=by omega
    have pc3:(0:Int)<=(a:Int):=by omega
    have bc3:(a:Int)<(d.size:Int):=by omega
    have rc3:IntKind.i64.wrap ((a:Int))=(a:Int):=by rw[IntKind.wrap_i64];omega
    obtain⟨x3,hx3⟩:∃x,x=d[h]!:=⟨_,rfl⟩
    obtain⟨y3,hy3⟩:∃x,x=d[a]!:=⟨_,rfl⟩
    have l3a:=S1.out.cl R (by omega) (h) (by omega)
    have l3b:=S1.out.cl R (by omega) (a) (by omega)
    rw[←hx3,←hiN3]at l3a
    rw[←hy3,←hjN3]at l3b
    have hc3:=S1.out.cmp HC.out (by omega) x3 y3
    have hv3:¬ cf x3 y3<0:=by rw[hx3,hy3];exact of_decide_eq_false hlv
    have hd3:decide (cf x3 y3<0)=false:=decide_eq_false hv3
    clear hx3 hy3 hiN3 hjN3
    go_wp2_with fail
    go_quiet_grown (first|(go_at_fn F;refine Calls.grown_of (hc3 _ _)))
    have S2:Aside (SW enc w0 blk off d (grow (wr.drewN nq) osq)):=S1.out.grown nq osq
    clear l3a l3b hc3 S1
    generalize grow (wr.drewN nq) osq=w2 at S2 ⊢
    clear nq osq
    clear ea3 ec3
    clear hlv E1
    go_wp2
    go_roundg (h-i)
    case measure=>omega
    case rel=>exact⟨i,h,rfl,rfl,by omega,by omega,by omega,by omega,S2,E2⟩
  ·obtain rfl:i=j:=by omega
   have hltz:¬ (i:Int)<(i:Int):=by omega
   have E3:Hid (Rot d d a (a+1) (a+1)/\PermIn a b d d):=⟨jA (.inr rfl) (by omega) (by omega),permIn_refl _ _ _⟩
   go_wp2
   go_loopg [13] i (λg1 vk wr=>∃(k:Nat) (dk:Array α),vk=.int .i64 k/\a<=k/\k+1<=i/\i-1-k<=g1/\dk.size=d.size/\Aside (SW enc w0 blk off dk wr)/\Hid (Rot d dk a (a+1) (k+1)/\PermIn a b d dk))
   case atStart=>exact⟨a,d,rfl,by omega,by omega,by omega,rfl,S1,E3⟩
   case round =>
    clear S1 E3
    obtain⟨k,dk,rfl,hak,hki,hgk,hsk,S1,E3⟩:=hrel
    by_cases hk:k+1<i
    ·have hkz:(k:Int)<(i:Int)-1:=by omega
     have ek:(((k+1:Nat):Int))=(k:Int)+1:=by omega
     obtain⟨iN4,hiN4⟩:∃q,q=k:=⟨_,rfl⟩
     obtain⟨jN4,hjN4⟩:∃q,q=k+1:=⟨_,rfl⟩
     have ea4:((k:Int)).toNat=iN4:=by omega
     have pa4:(0:Int)<=(k:Int):=by omega
     have ba4:(k:Int)<(d.size:Int):=by omega
     have ra4:IntKind.i64.wrap ((k:Int))=(k:Int):=by rw[IntKind.wrap_i64];omega
     have ec4:((k:Int)+1).toNat=jN4:=by omega
     have pc4:(0:Int)<=(k:Int)+1:=by omega
     have bc4:(k:Int)+1<(d.size:Int):=by omega
     have rc4:IntKind.i64.wrap ((k:Int)+1)=(k:Int)+1:=by rw[IntKind.wrap_i64];omega
     obtain⟨x4,hx4⟩:∃x,x=dk[k]!:=⟨_,rfl⟩
     obtain⟨y4,hy4⟩:∃x,x=dk[k+1]!:=⟨_,rfl⟩
     have S2:Aside (SW enc w0 blk off (swp dk (k) (k+1)) ((wr.setCell ⟨blk,off+iN4,none⟩ (enc y4)).setCell ⟨blk,off+jN4,none⟩ (enc x4)).drew):=by rw[hiN4,hjN4,hx4,hy4];exact S1.out.swapped R (k) (k+1) (by omega) (by omega)
     have c4a:=S1.out.c1 R (by omega) (k) (by omega)
     have c4b:=S1.out.c1 R (by omega) (k+1) (by omega)
     have f4a:=S1.out.f1 R (by omega) (k) (by omega)
     have f4b:=S1.out.f1 R (by omega) (k+1) (by omega)
     obtain⟨u4,c4c⟩:=S1.out.c2 R (by omega) (k) (k+1) (by omega) (by omega) (enc y4)
     rw[←hjN4,←hiN4]at c4c
     rw[←hx4,←hiN4]at c4a
     rw[←hy4,←hjN4]at c4b
     rw[←hiN4]at f4a
     rw[←hjN4]at f4b
     clear S1 hx4 hy4 hiN4 hjN4 ek
     go_wp2_with fail
     go_big_region_o
     clear c4a c4b c4c f4a f4b
     generalize ((wr.setCell ⟨blk,off+iN4,none⟩ (enc y4)).setCell ⟨blk,off+jN4,none⟩ (enc x4)).drew=w2 at S2 ⊢
     clear ea4 ec4
     go_wp2
     go_roundg (i-1-(k+1))
     case measure=>omega
     case rel=>exact⟨k+1,swp dk k (k+1),by go_num,by omega,by omega,by omega,by rw[size_swp];exact hsk,S2,BJ E3.out.1 hak (by omega),permIn_trans _ _ _ _ _ E3.out.2 (swp_permIn _ _ _ _ _ (by omega) (by omega) (by omega) (by omega) (by omega))⟩
    ·obtain rfl:i=k+1:=by omega
     have hkz:¬ (k:Int)<((k+1:Nat):Int)-1:=by omega
     have E4:Hid (Merged (ltOf cf) d a m b dk):=⟨E3.out.2,λ_ h2=>Ci hO (by rw[←HM.out];exact h2) (by omega) (by omega) E1.out.1 E1.out.2 E3.out.1⟩
     go_wp2
     first|(go_end0;exact⟨rfl,dk,S1.out,E4.out⟩)|(refine bodyPost_ret (results_none rfl _ _ _) rfl ?_;exact⟨rfl,dk,S1.out,E4.out⟩)
theorem ED (enc:α->Value) (cf:α->α->Int) (hO:SWO (ltOf cf)) (F:Nat) (cb:Array Value) (blk off cap a m b:Nat) (d0 d:Array α) (w0 w:World) (eg:∀args w,(callFunc F args).run Tryz.prog w=.ok (.enter F args) w)
  (hcmp:CmpLays1 Tryz.prog F cb enc cf blk off d0.size w0) (R:Row1 enc w0 blk off d0) (hs:d0.size=d.size) (S:SW enc w0 blk off d w) (ham:a+1<m) (hmb:b=m+1) (hb:b<=d.size) (hsz:d.size<2305843009213693952) :
  Calls Tryz.prog 192 #[.slice (some ⟨blk,off,none⟩) d.size cap,.int .i64 a,.int .i64 m,.int .i64 b,.func (.func F) #[] cb] w (pu enc w0 blk off (Merged (ltOf cf) d a m b)):=by
 have mixed:Tryz.prog.follows Departure.mixedOrders=true:=by kernel_rfl
 have hcl0:=R.hO.cells
 simp only[Value.cells]at hcl0
 have hst:=R.hO.store Tryz.prog
 have HC:Aside _:=hcmp
 have S0:Aside (SW enc w0 blk off d w):=S
 have eq1:(((m:Int)-(a:Int)) == 1)=false:=by rw[beq_eq_false_iff_ne];omega
 have eq2:(((b:Int)-(m:Int)) == 1)=true:=by rw[beq_iff_eq];omega
 have HM:=Lib.hid hmb
 have hm1:b<=m+1:=by omega
 have hm2:m+1<=b:=by omega
 clear S hcmp hmb
 go_enter Tryz.func192,Tryz.ntmps192
 go_wp2
 go_loopg [14,15,16] b (λg1 vi vj vh wr=>∃(i j:Nat),vi=.int .i64 i/\vj=.int .i64 j/\a<=i/\i<=j/\j<=m/\j-i<=g1/\Aside (SW enc w0 blk off d wr)/\Hid ((i=a∨(ltOf cf) d[m]! d[i-1]! = false)/\(j=m∨(ltOf cf) d[m]! d[j]! = true)))
 case atStart=>exact⟨a,m,rfl,rfl,by omega,by omega,by omega,by omega,S0,⟨.inl rfl,.inl rfl⟩⟩
 case round =>
  clear S0
  obtain⟨i,j,rfl,rfl,hmi,hij,hjb,hg,S1,E1⟩:=hrel
  by_cases hlt:i<j
  ·have hltz:(i:Int)<(j:Int):=by omega
   obtain⟨h,hih,hhj,eh⟩:∃h:Nat,i<=h/\h<j/\((i:Int)+(j:Int)) / 2=(h:Int):=⟨(i+j) / 2,by omega,by omega,by omega⟩
   cases hlv:(ltOf cf) d[m]! d[h]! with
   | false =>
    have E2:Hid ((h+1=a∨(ltOf cf) d[m]! d[h+1-1]! = false)/\(j=m∨(ltOf cf) d[m]! d[j]! = true)):=⟨.inr hlv,E1.out.2⟩
    obtain⟨iN2,hiN2⟩:∃q,q=m:=⟨_,rfl⟩
    obtain⟨jN2,hjN2⟩:∃q,q=h:=⟨_,rfl⟩
    have ea2:((m:Int)).toNat=iN2:=by omega
    have pa2:(0:Int)<=(m:Int):=by omega
    have ba2:(m:Int)<(d.size:Int):=by omega
    have ra2:IntKind.i64.wrap ((m:Int))=(m:Int):=by rw[IntKind.wrap_i64];omega
    have ec2:((h:Int)).toNat=jN2:=by omega
    have pc2:(0:Int)<=(h:Int):=by omega
    have bc2:(h:Int)<(d.size:Int):=by omega
    have rc2:IntKind.i64.wrap ((h:Int))=(h:Int):=by rw[IntKind.wrap_i64];omega
    obtain⟨x2,hx2⟩:∃x,x=d[m]!:=⟨_,rfl⟩
    obtain⟨y2,hy2⟩:∃x,x=d[h]!:=⟨_,rfl⟩
    have l2a:=S1.out.cl R (by omega) (m) (by omega)
    have l2b:=S1.out.cl R (by omega) (h) (by omega)
    rw[←hx2,←hiN2]at l2a
    rw[←hy2,←hjN2]at l2b
    have hc2:=S1.out.cmp HC.out (by omega) x2 y2
    have hv2:¬ cf x2 y2<0:=by rw[hx2,hy2];exact of_decide_eq_false hlv
    have hd2:decide (cf x2 y2<0)=false:=decide_eq_false hv2
    clear hx2 hy2 hiN2 hjN2
    go_wp2_with fail
    go_quiet_grown (first|(go_at_fn F;refine Calls.grown_of (hc2 _ _)))
    have S2:Aside (SW enc w0 blk off d (grow (wr.drewN nq) osq)):=S1.out.grown nq osq
    clear l2a l2b hc2 S1
    generalize grow (wr.drewN nq) osq=w2 at S2 ⊢
    clear nq osq
    clear ea2 ec2
    clear hlv E1
    go_wp2
    go_roundg (j-(h+1))
    case measure=>omega
    case rel=>exact⟨h+1,j,by go_num,rfl,by omega,by omega,by omega,by omega,S2,E2⟩
   | true =>
    have E2:Hid ((i=a∨(ltOf cf) d[m]! d[i-1]! = false)/\(h=m∨(ltOf cf) d[m]! d[h]! = true)):=⟨E1.out.1,.inr hlv⟩
    obtain⟨iN3,hiN3⟩:∃q,q=m:=⟨_,rfl⟩
    obtain⟨jN3,hjN3⟩:∃q,q=h:=⟨_,rfl⟩
    have ea3:((m:Int)).toNat=iN3:=by omega
    have pa3:(0:Int)<=(m:Int):=by omega
    have ba3:(m:Int)<(d.size:Int):=by omega
    have ra3:IntKind.i64.wrap ((m:Int))=(m:Int):=by rw[IntKind.wrap_i64];omega
    have ec3:((h:Int)).toNat=jN3:=by omega
    have pc3:(0:Int)<=(h:Int):=by omega
    have bc3:(h:Int)<(d.size:Int):=by omega
    have rc3:IntKind.i64.wrap ((h:Int))=(h:Int):=by rw[IntKind.wrap_i64];omega
    obtain⟨x3,hx3⟩:∃x,x=d[m]!:=⟨_,rfl⟩
    obtain⟨y3,hy3⟩:∃x,x=d[h]!:=⟨_,rfl⟩
    have l3a:=S1.out.cl R (by omega) (m) (by omega)
    have l3b:=S1.out.cl R (by omega) (h) (by omega)
    rw[←hx3,←hiN3]at l3a
    rw[←hy3,←hjN3]at l3b
    have hc3:=S1.out.cmp HC.out (by omega) x3 y3
    have hv3:cf x3 y3<0:=by rw[hx3,hy3];exact of_decide_eq_true hlv
    have hd3:decide (cf x3 y3<0)=true:=decide_eq_true hv3
    clear hx3 hy3 hiN3 hjN3
    go_wp2_with fail
    go_quiet_grown (first|(go_at_fn F;refine Calls.grown_of (hc3 _ _)))
    have S2:Aside (SW enc w0 blk off d (grow (wr.drewN nq) osq)):=S1.out.grown nq osq
    clear l3a l3b hc3 S1
    generalize grow (wr.drewN nq) osq=w2 at S2 ⊢
    clear nq osq
    clear ea3 ec3
    clear hlv E1
    go_wp2
    go_roundg (h-i)
    case measure=>omega
    case rel=>exact⟨i,h,rfl,rfl,by omega,by omega,by omega,by omega,S2,E2⟩
  ·obtain rfl:i=j:=by omega
   have hltz:¬ (i:Int)<(i:Int):=by omega
   have E3:Hid (Rot d d m m (m+1)/\PermIn a b d d):=⟨jA (.inl rfl) (by omega) (by omega),permIn_refl _ _ _⟩
   go_wp2
   go_loopg [17] m (λg1 vk wr=>∃(k:Nat) (dk:Array α),vk=.int .i64 k/\i<=k/\k<=m/\k-i<=g1/\dk.size=d.size/\Aside (SW enc w0 blk off dk wr)/\Hid (Rot d dk k m (m+1)/\PermIn a b d dk))
   case atStart=>exact⟨m,d,rfl,by omega,by omega,by omega,rfl,S1,E3⟩
   case round =>
    clear S1 E3
    obtain⟨k,dk,rfl,hak,hki,hgk,hsk,S1,E3⟩:=hrel
    by_cases hk:i<k
    ·have hkz:decide ((k:Int) > (i:Int))=true:=decide_eq_true (by omega)
     have hkz':(i:Int)<(k:Int):=by omega
     obtain⟨iN4,hiN4⟩:∃q,q=k:=⟨_,rfl⟩
     obtain⟨jN4,hjN4⟩:∃q,q=k-1:=⟨_,rfl⟩
     have ea4:((k:Int)).toNat=iN4:=by omega
     have pa4:(0:Int)<=(k:Int):=by omega
     have ba4:(k:Int)<(d.size:Int):=by omega
     have ra4:IntKind.i64.wrap ((k:Int))=(k:Int):=by rw[IntKind.wrap_i64];omega
     have ec4:((k:Int)-1).toNat=jN4:=by omega
     have pc4:(0:Int)<=(k:Int)-1:=by omega
     have bc4:(k:Int)-1<(d.size:Int):=by omega
     have rc4:IntKind.i64.wrap ((k:Int)-1)=(k:Int)-1:=by rw[IntKind.wrap_i64];omega
     obtain⟨x4,hx4⟩:∃x,x=dk[k]!:=⟨_,rfl⟩
     obtain⟨y4,hy4⟩:∃x,x=dk[k-1]!:=⟨_,rfl⟩
     have S2:Aside (SW enc w0 blk off (swp dk (k) (k-1)) ((wr.setCell ⟨blk,off+iN4,none⟩ (enc y4)).setCell ⟨blk,off+jN4,none⟩ (enc x4)).drew):=by rw[hiN4,hjN4,hx4,hy4];exact S1.out.swapped R (k) (k-1) (by omega) (by omega)
     have c4a:=S1.out.c1 R (by omega) (k) (by omega)
     have c4b:=S1.out.c1 R (by omega) (k-1) (by omega)
     have f4a:=S1.out.f1 R (by omega) (k) (by omega)
     have f4b:=S1.out.f1 R (by omega) (k-1) (by omega)
     obtain⟨u4,c4c⟩:=S1.out.c2 R (by omega) (k) (k-1) (by omega) (by omega) (enc y4)
     rw[←hjN4,←hiN4]at c4c
     rw[←hx4,←hiN4]at c4a
     rw[←hy4,←hjN4]at c4b
     rw[←hiN4]at f4a
     rw[←hjN4]at f4b
     clear S1 hx4 hy4 hiN4 hjN4
     go_wp2_with fail
     go_big_region_o
     clear c4a c4b c4c f4a f4b
     generalize ((wr.setCell ⟨blk,off+iN4,none⟩ (enc y4)).setCell ⟨blk,off+jN4,none⟩ (enc x4)).drew=w2 at S2 ⊢
     clear ea4 ec4
     go_wp2
     go_roundg (k-1-i)
     case measure=>omega
     case rel=>exact⟨k-1,swp dk k (k-1),by congr 1;omega,by omega,by omega,by omega,by rw[size_swp];exact hsk,S2,BK E3.out.1 (by omega) hki (by omega),permIn_trans _ _ _ _ _ E3.out.2 (swp_permIn _ _ _ _ _ (by omega) (by omega) (by omega) (by omega) (by omega))⟩
    ·obtain rfl:i=k:=by omega
     have hkz:decide ((i:Int) > (i:Int))=false:=decide_eq_false (by omega)
     have hkz':¬ (i:Int)<(i:Int):=by omega
     have E4:Hid (Merged (ltOf cf) d a m b dk):=⟨E3.out.2,λh1 _=>by rw[HM.out];exact zv hO h1 (by omega) (by omega) E1.out.1 E1.out.2 E3.out.1⟩
     go_wp2
     first|(go_end0;exact⟨rfl,dk,S1.out,E4.out⟩)|(refine bodyPost_ret (results_none rfl _ _ _) rfl ?_;exact⟨rfl,dk,S1.out,E4.out⟩)
end Go.Proofs.YtfcbghmbbjolcaaGreatDoor
namespace Go.Proofs
open Go.Shelf
def kZ:Go.Shelf.Ren:=⟨fun|20=>153|n=>n,fun|24=>58|22=>35|3=>3|25=>102|4=>4|0=>0|n=>n,fun|n=>n⟩
theorem kb:Go.Proofs.SlLaysF.n20 Tryz.prog kZ:={
 mixed:=by kernel_rfl
 f20:=⟨Tryz.f153.name,by decide,Tryz.func153.trans (congrArg some (by kernel_rfl))⟩
 t0:=Tryz.underlying0
 a0:=Tryz.isAgg0
 z0:=Tryz.sizeOf0
 v0:=Tryz.zeroValue0
 t3:=Tryz.underlying3
 a3:=Tryz.isAgg3
 z3:=Tryz.sizeOf3
 v3:=Tryz.zeroValue3
 t4:=Tryz.underlying4
 a4:=Tryz.isAgg4
 z4:=Tryz.sizeOf4
 v4:=Tryz.zeroValue4
 t22:=Tryz.underlying35
 a22:=Tryz.isAgg35
 z22:=Tryz.sizeOf35
 v22:=Tryz.zeroValue35
 a24:=Tryz.isAgg58
 z24:=Tryz.sizeOf58
 t25:=Tryz.underlying102
 a25:=Tryz.isAgg102
 z25:=Tryz.sizeOf102
 v25:=Tryz.zeroValue102}
end Go.Proofs
