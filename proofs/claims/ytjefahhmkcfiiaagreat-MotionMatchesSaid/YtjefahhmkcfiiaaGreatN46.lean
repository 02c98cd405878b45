/- A part of the proof of this seat's statements, by an abstract machine: what each operation does to values, and what the law's functions compute. Conditions: as each law says. -/
import Derived.Test.YtjefahhmkcfiiaaGreatN45
import Derived.Test.YtjefahhmkcfiiaaGreatN18
import Derived.ScopeJumps
section
namespace Go.Proofs.YtjefahhmkcfiiaaGreat
open Go.AM
set_option maxHeartbeats 4000000
set_option maxRecDepth 10000
attribute [local irreducible] za
structure Ln(l:List Int)(L:List (List Int)):Prop where
 eq:L=qR za l
 n:l.length<2^31
 r:∀x∈l,zL x
theorem Ln.cl {l:List Int} {L:List (List Int)}(h:Ln l L):ClL L where
 full:=by rw[h.eq];exact wh l h.n h.r
 sum:=by rw[h.eq,ju.sum];exact h.n
theorem Ln.sum {l:List Int} {L:List (List Int)}(h:Ln l L):qi L=l.length:=by rw[h.eq];exact ju.sum l
theorem Ln.flat {l:List Int} {L:List (List Int)}(h:Ln l L):L.flatten=l:=by rw[h.eq];exact ju.flat l
theorem zil(L:List (List Int)):isB L 0=true:=by
 have:=vT L 0 (by omega)
 exact decide_eq_true (by omega)
theorem xd {L:List (List Int)}(h:ClL L) {k:Nat}(hk:k≤L.length):isB L (plc L k)=true:=decide_eq_true (by rw[yW h hk])
theorem zfL {L:List (List Int)}(h:ClL L) {i:Int}(hi:i<0∨(qi L:Int)<i):isB L i=false:=by
 refine decide_eq_false (fun e=>?_)
 have:=va h (Qx L i)
 omega
theorem Yr [Gi](l:List Int):CR Tryz.prog 90 [] [.p (zC za),.p (zh l),.p (.int .i64 0)] [] (is (.p (.bool true))):=by
 refine walk Tryz.func90 9 [] [3] [] ?_
 simp (maxSteps:=1000000) [go_sem,Tryz.f90]
 exact ret
theorem kM [Gi] {l:List Int} {L:List (List Int)}(h:Ln l L)(i:Int):CR Tryz.prog 37 [] [.p (zC za),.p (zh l),.p (.int .i64 i)] [] (is (.p (.bool (isB L i)))):=by
 refine walk Tryz.func37 7 [] [] [] ?_
 have hs:=h.sum
 by_cases c1:i<0
 ·rw[zfL h.cl (.inl c1)]
  simp (maxSteps:=1000000) [go_sem,Tryz.f37,c1]
  exact ret
 ·by_cases c2:(l.length:Int)<i
  ·rw[zfL h.cl (.inr (by omega))]
   simp (maxSteps:=1000000) [go_sem,Tryz.f37,c1,c2]
   exact ret
  ·by_cases c3:i=l.length
   ·have e:isB L i=true:=by rw[c3,←hs,←qc];exact xd h.cl (Nat.le_refl _)
    rw[e]
    subst c3
    have c1':¬((l.length:Int)<0):=by omega
    simp (maxSteps:=1000000) [go_sem,Tryz.f37,c1']
    exact ret
   ·obtain⟨n,rfl⟩:∃n:Nat,i=n:=⟨i.toNat,by omega⟩
    have c3':¬n=l.length:=by omega
    by_cases c4:n=0
    ·subst c4
     have e:isB L ((0:Nat):Int)=true:=zil L
     rw[e]
     have c2':¬((l.length:Int)<0):=by omega
     have c5:¬(0:Int)=l.length:=by omega
     have c6:¬l=[]:=fun e=>by subst e;simp at c3
     simp (maxSteps:=1000000) [go_sem,Tryz.f37,c2',c5]
     refine zn (Yr l) ?_
     simp (maxSteps:=1000000) [go_sem]
     exact ret
    ·obtain⟨m,rfl⟩:∃m,n=m+1:=⟨n-1,by omega⟩
     have hb:=UA kh l (m+1) m rfl (by omega) h.n h.r
     rw[KT l L h.eq h.cl m (by omega)]at hb
     generalize isB L ((m+1:Nat):Int)=q at hb
     have c1':¬((m:Int)+1<0):=by omega
     have c2':¬((l.length:Int)< (m:Int)+1):=by omega
     have c3'':¬((m:Int)+1=l.length):=by omega
     simp (maxSteps:=1000000) [go_sem,Tryz.f37,c1',c2',c3'']
     refine zn hb ?_
     simp (maxSteps:=1000000) [go_sem]
     exact ret
theorem zaT {L:List (List Int)}(h:ClL L) {i:Nat}(_:(i:Int)≤qi L)(hb:isB L i=false):∃j,i=j+1∧kf L (j:Nat)=kf L (i:Nat):=by
 have q1:=vT L i (by omega)
 have q2:=Jn L i
 have q3:=Qx L i
 have hne:¬(plc L (kf L i):Int)=i:=of_decide_eq_false hb
 exact⟨i-1,by omega,Vn h q3 (by omega) (fun c=>by have:=q2 c;omega)⟩
theorem ZV [Gi] {l:List Int} {L:List (List Int)}(h:Ln l L)(a:Int):CR Tryz.prog 87 [] [.p (zC za),.p (zh l),.p (.int .i64 a)] [] (is (.p (.int .i64 (plc L (kf L a):Nat)))):=by
 refine walk Tryz.func87 7 [] [] [] ?_
 have hs:=h.sum
 have hcl:=h.cl
 have hln:=h.n
 by_cases c1:a<0
 ·rw[za8 L c1,qV]
  have c2:¬(l.length:Int)<a:=by omega
  have c3:¬0<a:=by omega
  simp (maxSteps:=1000000) [go_sem,Tryz.f87,c2]
  refine loop (fun _:Unit=>True) (fun _=>[]) (fun _=>[]) (fun _=>0) () trivial (fun _ _=>?_)
  simp (maxSteps:=1000000) [go_sem,c1,c3]
  exact ret
 ·obtain⟨i0,hi0,hle,hk⟩:∃i0:Nat,(i0:Int)=min a l.length∧i0≤l.length∧kf L a=kf L (i0:Nat):=by
   by_cases c2:(l.length:Int)≤a
   ·exact⟨l.length,by omega,Nat.le_refl _,by rw[zby hcl (by omega),zby hcl (by omega)]⟩
   ·exact⟨a.toNat,by omega,by omega,by congr 1;omega⟩
  rw[hk]
  obtain⟨N,hN⟩:∃N,N=plc L (kf L (i0:Nat)):=⟨_,rfl⟩
  rw[←hN]
  by_cases c2:(l.length:Int)<a
  ·have e:i0=l.length:=by omega
   simp (maxSteps:=1000000) [go_sem,Tryz.f87,c2]
   refine loop (fun i:Nat=>i≤l.length∧N=plc L (kf L (i:Nat))) (fun i=>[(2,.p (.int .i64 (i:Nat)))]) (fun _=>[]) (fun i=>i) l.length ⟨Nat.le_refl _,by rw[hN,e]⟩ (fun i hi=>?_)
   obtain⟨h1,h2⟩:=hi
   by_cases c3:isB L i=true
   ·have e:N=i:=by have:(plc L (kf L i):Int)=i:=of_decide_eq_true c3;omega
    rw[e]
    by_cases c4:i=0
    ·subst c4
     simp (maxSteps:=1000000) [go_sem]
     exact ret
    ·have c4':(0:Int)<i:=by omega
     have c4'':0<i:=by omega
     have c5:¬(i:Int)<0:=by omega
     simp (maxSteps:=1000000) [go_sem,c4'',c5]
     refine zn (kM h i) ?_
     simp (maxSteps:=1000000) [go_sem,c3,c5]
     exact ret
   ·have c3':isB L i=false:=by simpa using c3
    obtain⟨j,hij,hj⟩:=zaT hcl (by omega) c3'
    have c4:(0:Int)<i:=by omega
    have c4':0<i:=by omega
    have w:IntKind.i64.wrap ((i:Int)-1)=(j:Int):=qC (by omega) hij
    simp (maxSteps:=1000000) [go_sem,c4']
    refine zn (kM h i) ?_
    simp (maxSteps:=1000000) [go_sem,c3',w]
    exact next j ⟨by omega,by rw[h2,hj]⟩ (by omega)
  ·have e:(i0:Int)=a:=by omega
   subst e
   have c2':¬l.length<i0:=by omega
   simp (maxSteps:=1000000) [go_sem,Tryz.f87,c2]
   refine loop (fun i:Nat=>i≤l.length∧N=plc L (kf L (i:Nat))) (fun i=>[(2,.p (.int .i64 (i:Nat)))]) (fun _=>[]) (fun i=>i) i0 ⟨hle,hN⟩ (fun i hi=>?_)
   obtain⟨h1,h2⟩:=hi
   by_cases c3:isB L i=true
   ·have e:N=i:=by have:(plc L (kf L i):Int)=i:=of_decide_eq_true c3;omega
    rw[e]
    by_cases c4:i=0
    ·subst c4
     simp (maxSteps:=1000000) [go_sem]
     exact ret
    ·have c4':(0:Int)<i:=by omega
     have c4'':0<i:=by omega
     have c5:¬(i:Int)<0:=by omega
     simp (maxSteps:=1000000) [go_sem,c4'',c5]
     refine zn (kM h i) ?_
     simp (maxSteps:=1000000) [go_sem,c3,c5]
     exact ret
   ·have c3':isB L i=false:=by simpa using c3
    obtain⟨j,hij,hj⟩:=zaT hcl (by omega) c3'
    have c4:(0:Int)<i:=by omega
    have c4':0<i:=by omega
    have w:IntKind.i64.wrap ((i:Int)-1)=(j:Int):=qC (by omega) hij
    simp (maxSteps:=1000000) [go_sem,c4']
    refine zn (kM h i) ?_
    simp (maxSteps:=1000000) [go_sem,c3',w]
    exact next j ⟨by omega,by rw[h2,hj]⟩ (by omega)
theorem zjO [Gi] {l:List Int} {L:List (List Int)}(h:Ln l L)(j:Nat)(hj:j<l.length):CR Tryz.prog 140 [] [.p (zC za),.p (zh l),.p (.int .i64 ((j+1:Nat):Int))] [] (is (.p (.int .i64 (plc L (kf L (j:Nat)):Nat)))):=by
 refine walk Tryz.func140 8 [] [] [] ?_
 have hs:=h.sum
 have hcl:=h.cl
 have hln:=h.n
 obtain⟨N,hN⟩:∃N,N=plc L (kf L (j:Nat)):=⟨_,rfl⟩
 rw[←hN]
 have w0:IntKind.i64.wrap (j:Int)=(j:Int):=Ym (by omega)
 simp (maxSteps:=1000000) [go_sem,Tryz.f140,w0]
 refine loop (fun i:Nat=>i≤l.length∧N=plc L (kf L (i:Nat))) (fun i=>[(7,.p (.int .i64 (i:Nat)))]) (fun _=>[]) (fun i=>i) j ⟨by omega,hN⟩ (fun i hi=>?_)
 obtain⟨h1,h2⟩:=hi
 by_cases c4:i=0
 ·subst c4
  have e:N=0:=by have:=vT L ((0:Nat):Int) (by omega);omega
  rw[e]
  simp (maxSteps:=1000000) [go_sem]
  exact ret
 ·have c4':(0:Int)<i:=by omega
  have c4'':0<i:=by omega
  by_cases c3:isB L i=true
  ·have e:N=i:=by have:(plc L (kf L i):Int)=i:=of_decide_eq_true c3;omega
   rw[e]
   simp (maxSteps:=1000000) [go_sem,c4'']
   refine zn (kM h i) ?_
   simp (maxSteps:=1000000) [go_sem,c3]
   exact ret
  ·have c3':isB L i=false:=by simpa using c3
   obtain⟨k,hik,hk⟩:=zaT hcl (by omega) c3'
   have w:IntKind.i64.wrap ((i:Int)-1)=(k:Int):=qC (by omega) hik
   simp (maxSteps:=1000000) [go_sem,c4'']
   refine zn (kM h i) ?_
   simp (maxSteps:=1000000) [go_sem,c3',w]
   exact next k ⟨by omega,by rw[h2,hk]⟩ (by omega)
theorem zcJ [Gi] {l:List Int} {L:List (List Int)}(h:Ln l L) {k:Nat}(hk:k<L.length):CR Tryz.prog 129 [] [.p (zC za),.p (zh l),.p (.int .i64 (plc L k:Nat))] [] (is (.p (.int .i64 (plc L (k+1):Nat)))):=by
 have hlt:plc L k<l.length:=by have:=qS h.cl hk (Nat.le_refl _);rw[qc,h.sum]at this;exact this
 have:=zdI kh l (plc L k) hlt h.n h.r
 rw[Ys l _ hlt,←h.eq,yW h.cl (by omega)]at this
 exact this
theorem zcN [Gi] {l:List Int} {L:List (List Int)}(h:Ln l L) {k:Nat}(hk:k<L.length):CR Tryz.prog 140 [] [.p (zC za),.p (zh l),.p (.int .i64 (plc L (k+1):Nat))] [] (is (.p (.int .i64 (plc L k:Nat)))):=by
 have h1:=j8 h.cl hk
 have h2:=va h.cl (k:=k+1) hk
 rw[h.sum]at h2
 obtain⟨j,hj⟩:∃j,plc L (k+1)=j+1:=⟨plc L (k+1)-1,by omega⟩
 have:=zjO h j (by omega)
 rw[Vn h.cl (k:=k) (by omega) (by omega) (fun _=>by omega)]at this
 rw[hj]
 exact this
theorem zaX [Gi] {l:List Int} {L:List (List Int)}(h:Ln l L)(a n:Int)(hn: -1000≤n∧n≤1000):CR Tryz.prog 88 [] [.p (zC za),.p (zh l),.p (.int .i64 a),.p (.int .i64 n)] [] (is (.p (.int .i64 (plc L (goK L a n):Nat)))):=by
 refine walk Tryz.func88 9 [] [] [] ?_
 have hs:=h.sum
 have hcl:=h.cl
 have hln:=h.n
 have hnum:=hcl.len
 obtain⟨G,hG⟩:∃G,G=goK L a n:=⟨_,rfl⟩
 have hG2:(G:Int)=max (min ((kf L a:Int)+n) L.length) 0:=by rw[hG];unfold goK;omega
 rw[←hG]
 simp (maxSteps:=1000000) [go_sem,Tryz.f88]
 refine zn (ZV h a) ?_
 simp (maxSteps:=1000000) [go_sem]
 refine loop (fun r:Nat×Int=>r.1≤L.length∧ -1000≤r.2∧r.2≤1000∧(G:Int)=max (min ((r.1:Int)+r.2) L.length) 0) (fun r=>[(3,.p (.int .i64 r.2)),(2,.p (.int .i64 (plc L r.1:Nat)))]) (fun _=>[]) (fun r=>L.length-r.1) (kf L a,n) ⟨Qx L a,hn.1,hn.2,hG2⟩ (fun r hr=>?_)
 obtain⟨p,m⟩:=r
 obtain⟨p1,p2,p3,p4⟩:=hr
 simp only at p1 p2 p3 p4
 have hp:=va hcl p1
 by_cases c:0<m∧p<L.length
 ·have c1:0<m:=c.1
  have c3:=qS hcl c.2 (Nat.le_refl _)
  rw[qc]at c3
  have c2:(plc L p:Int)<l.length:=by omega
  have c2':plc L p<l.length:=by omega
  have w2:IntKind.i64.wrap (m-1)=m-1:=wrap64 (by omega) (by omega)
  simp (maxSteps:=1000000) [go_sem,c1,c2]
  refine zn (zcJ h c.2) ?_
  simp (maxSteps:=1000000) [go_sem,w2]
  exact next (p+1,m-1) ⟨by show p+1≤L.length;omega,by show -1000≤m-1;omega,by show m-1≤1000;omega,by show(G:Int)=max (min (((p+1:Nat):Int)+(m-1)) L.length) 0;omega⟩ (by show L.length- (p+1)<L.length-p;omega)
 ·have hx:m≤0∨p=L.length:=by omega
  have two:¬0<m∨(0<m∧¬(plc L p:Int)<l.length∧¬plc L p<l.length):=by
   by_cases c1:0<m
   ·have:p=L.length:=by omega
    rw[this,qc];omega
   ·exact .inl c1
  rcases two with c1|⟨c1,c2,c3⟩
  ·simp (maxSteps:=1000000) [go_sem,c1]
   clear c1 c
   refine loop (fun r:Nat×Int=>r.1≤L.length∧ -1000≤r.2∧r.2≤1000∧(r.2≤0∨r.1=L.length)∧(G:Int)=max (min ((r.1:Int)+r.2) L.length) 0) (fun r=>[(3,.p (.int .i64 r.2)),(2,.p (.int .i64 (plc L r.1:Nat)))]) (fun _=>[]) (fun r=>r.1) (p,m) ⟨p1,p2,p3,hx,p4⟩ (fun r hr=>?_)
   clear p1 p2 p3 p4 hx hp
   obtain⟨p,m⟩:=r
   obtain⟨p1,p2,p3,hx,p4⟩:=hr
   simp only at p1 p2 p3 hx p4
   by_cases d1:m<0
   ·by_cases d2:0<p
    ·obtain⟨q,rfl⟩:∃q,p=q+1:=⟨p-1,by omega⟩
     have d3:=j8 hcl (k:=q) (by omega)
     have d4:(0:Int)<plc L (q+1):=by omega
     have d4':0<plc L (q+1):=by omega
     have w2:IntKind.i64.wrap (m+1)=m+1:=wrap64 (by omega) (by omega)
     simp (maxSteps:=1000000) [go_sem,d1,d4']
     refine zn (zcN h (k:=q) (by omega)) ?_
     simp (maxSteps:=1000000) [go_sem,w2]
     exact next (q,m+1) ⟨by show q≤L.length;omega,by show -1000≤m+1;omega,by show m+1≤1000;omega,.inl (by show m+1≤0;omega),by show(G:Int)=max (min ((q:Int)+(m+1)) L.length) 0;omega⟩ (by show q<q+1;omega)
    ·have e:G=p:=by omega
     rw[e]
     have e0:p=0:=by omega
     subst e0
     simp (maxSteps:=1000000) [go_sem,d1,qV]
     exact ret
   ·have e:G=p:=by omega
    rw[e]
    simp (maxSteps:=1000000) [go_sem,d1]
    exact ret
  ·simp (maxSteps:=1000000) [go_sem,c1,c2]
   clear c1 c c2 c3
   refine loop (fun r:Nat×Int=>r.1≤L.length∧ -1000≤r.2∧r.2≤1000∧(r.2≤0∨r.1=L.length)∧(G:Int)=max (min ((r.1:Int)+r.2) L.length) 0) (fun r=>[(3,.p (.int .i64 r.2)),(2,.p (.int .i64 (plc L r.1:Nat)))]) (fun _=>[]) (fun r=>r.1) (p,m) ⟨p1,p2,p3,hx,p4⟩ (fun r hr=>?_)
   clear p1 p2 p3 p4 hx hp
   obtain⟨p,m⟩:=r
   obtain⟨p1,p2,p3,hx,p4⟩:=hr
   simp only at p1 p2 p3 hx p4
   by_cases d1:m<0
   ·by_cases d2:0<p
    ·obtain⟨q,rfl⟩:∃q,p=q+1:=⟨p-1,by omega⟩
     have d3:=j8 hcl (k:=q) (by omega)
     have d4:(0:Int)<plc L (q+1):=by omega
     have d4':0<plc L (q+1):=by omega
     have w2:IntKind.i64.wrap (m+1)=m+1:=wrap64 (by omega) (by omega)
     simp (maxSteps:=1000000) [go_sem,d1,d4']
     refine zn (zcN h (k:=q) (by omega)) ?_
     simp (maxSteps:=1000000) [go_sem,w2]
     exact next (q,m+1) ⟨by show q≤L.length;omega,by show -1000≤m+1;omega,by show m+1≤1000;omega,.inl (by show m+1≤0;omega),by show(G:Int)=max (min ((q:Int)+(m+1)) L.length) 0;omega⟩ (by show q<q+1;omega)
    ·have e:G=p:=by omega
     rw[e]
     have e0:p=0:=by omega
     subst e0
     simp (maxSteps:=1000000) [go_sem,d1,qV]
     exact ret
   ·have e:G=p:=by omega
    rw[e]
    simp (maxSteps:=1000000) [go_sem,d1]
    exact ret
end Go.Proofs.YtjefahhmkcfiiaaGreat
end
section
namespace Go.AM
def Sem [Gi](P:Program)(c:Code)(Q:Exit→St→Prop)(S:St):Prop:=∀(E:Ent) (g:Gh) (a:Act) (w:World),SR E S g a w→c.wp P (post E Q) a w
theorem Sem.of [Gi] {P:Program}(D:List Nat) {c:Code} {Q:Exit→St→Prop} {S:St}(hm:P.follows .mixedOrders=true)(h:wpA P D c Q S)(hok:Zh D c=true:=by rfl):Sem P c Q S:=
 fun _ _ _ _ hS=>ZW hm c hok h hS
def ziD [Gi](P:Program)(y:Code)(Q:Exit→St→Prop):Exit→St→Prop:=fun e S=>match e with|.normal=>Sem P y Q S|e=>Q e S
@[go_sem] theorem zlo [Gi] {P : Program} {y : Code} {Q : Exit → St → Prop} {S : St} : ziD P y Q .normal S = Sem P y Q S := _root_.id rfl
@[go_sem] theorem znA [Gi] {P : Program} {y : Code} {Q : Exit → St → Prop} {S : St} : ziD P y Q .ret S = Q .ret S := _root_.id rfl
theorem Sem.seq [Gi] {P:Program} {x y:Code} {Q:Exit→St→Prop} {S:St}(h:Sem P x (ziD P y Q) S):Sem P (.seq x y) Q S:=by
 intro E g a w hS
 refine wp_seq (wp_mono (h E g a w hS) ?_)
 rintro e a' w' ⟨S',g',hq,hs⟩
 cases e with
 |normal=>exact hq E g' a' w' hs
 |_=>exact⟨S',g',hq,hs⟩
theorem Sem.WV [Gi] {P:Program}(D:List Nat) {x y:Code} {Q:Exit→St→Prop} {S:St}(hm:P.follows .mixedOrders=true)(h:wpA P D x (ziD P y Q) S)(hok:Zh D x=true:=by rfl):Sem P (.seq x y) Q S:=Sem.seq (Sem.of D hm h hok)
theorem Sem.mono [Gi] {P:Program} {c:Code} {Q Q':Exit→St→Prop} {S:St}(h:Sem P c Q S)(hq:∀e S',Q e S'→Q' e S'):Sem P c Q' S:=
 fun E g a w hS=>wp_mono (h E g a w hS) fun _ _ _ ⟨S',g',k,hs⟩=>⟨S',g',hq _ _ k,hs⟩
theorem Sem.label [Gi] {P:Program} {l:Nat} {y:Code} {Q:Exit→St→Prop} {S:St}(h:Sem P y Q S):Sem P (.seq (.label l) y) Q S:=by
 intro E g a w hS
 exact wp_seq (wp_label (h E g a w hS))
theorem Sem.goto [Gi] {P:Program} {l:Nat} {Q:Exit→St→Prop} {S:St}(h:Q (.goto l) S):Sem P (.goto l) Q S:=fun _ g _ _ hS=>wp_goto ⟨S,g,h,hS⟩
theorem Sem.skip [Gi] {P:Program} {Q:Exit→St→Prop} {S:St}(h:Q .normal S):Sem P .skip Q S:=fun _ g _ _ hS=>wp_skip ⟨S,g,h,hS⟩
theorem Sem.cond [Gi] {P:Program} {c:Operand} {x y:Code} {Q:Exit→St→Prop} {S:St}(b:Bool)(hc:S.ev c=.p (.bool b))(h:Sem P (if b then x else y) Q S):Sem P (.cond c x y) Q S:=by
 intro E g a w hS
 have hr:=hS.ev c
 rw[hc]at hr
 simp only[zd,zk]at hr
 cases b with
 |true=>exact wp_cond_true hr (h E g a w hS)
 |false=>exact wp_cond_false hr (h E g a w hS)
theorem Sem.clean [Gi] {P:Program} {c:Code} {Q:Exit→St→Prop} {S:St}(h:Sem P c Q {S with ts:=[]}):Sem P c Q S:=fun E g a w hS=>h E g a w hS.clean
theorem Sem.le [Gi] {P:Program} {c:Code} {Q:Exit→St→Prop} {S S1:St}(h:Sem P c Q S1)(hl:LeS S S1):Sem P c Q S:=fun E _ a w hS=>by
 obtain⟨g',h'⟩:=hS.le hl
 exact h E g' a w h'
def znM(Q:Exit→St→Prop):Exit→St→Prop:=fun e S=>match e with|.goto _=>False|e=>Q e S
@[go_sem] theorem znk {Q : Exit → St → Prop} {S : St} : znM Q .ret S = Q .ret S := _root_.id rfl
theorem Sem.scope [Gi] {P:Program} {c:Code} {Q:Exit→St→Prop} {S:St}(h:Sem P c (znM Q) S):Sem P (.scope c) Q S:=by
 intro E g a w hS
 refine wp_scope_straight (wp_mono (h E g a w hS) ?_)
 rintro e a' w' ⟨S',g',hq,hs⟩
 cases e with
 |goto l=>exact hq.elim
 |_=>exact⟨S',g',hq,hs⟩
def Jv {ι:Type}(l:Nat)(inv:ι→Prop)(st:ι→St)(Q:Exit→St→Prop):Exit→St→Prop:=fun e S=>match e with|.goto l'=>l'=l∧∃j,inv j∧LeS S (st j)|e=>Q e S
@[go_sem] theorem zmL {ι : Type} {l : Nat} {inv : ι → Prop} {st : ι → St} {Q : Exit → St → Prop} {S : St} : Jv l inv st Q .ret S = Q .ret S := _root_.id rfl
theorem Sem.jumps [Gi] {P:Program} {c rest:Code} {Q:Exit→St→Prop} {S:St} {ι:Type}(l:Nat)(inv:ι→Prop)(st:ι→St)(m:ι→Nat)(hf:findLabel c l=some rest)
  (first:Sem P c (Jv l inv st Q) S) (pass:∀i,inv i→Sem P rest (Jv l (fun j=>inv j∧m j<m i) st Q) (st i)):Sem P (.scope c) Q S:=by
 intro E g a w hS
 let J:Act→World→Prop:=fun a w=>∃i g,inv i∧SR E (st i) g a w
 let M:Act→World→Nat→Prop:=fun a w n=>∃i g,inv i∧SR E (st i) g a w∧m i≤n
 have hM:∀a w,∃n,(∃k,M a w k)→M a w n∧∀k,M a w k→n≤k:=by
  intro a w
  by_cases h:∃k,M a w k
  ·obtain⟨k,hk⟩:=h
   induction k using Nat.strongRecOn with
   |_ k ih=>
    by_cases h2:∃k',k'<k∧M a w k'
    ·obtain⟨k',h3,h4⟩:=h2
     exact ih k' h3 h4
    ·refine⟨k,fun _=>⟨hk,fun k' hk'=>?_⟩⟩
     by_cases h3:k'<k
     ·exact absurd ⟨k',h3,hk'⟩ h2
     ·omega
  ·exact⟨0,fun h'=>absurd h' h⟩
 let μ:Act→World→Nat:=fun a w=>Classical.choose (hM a w)
 have hμ:∀a w,(∃k,M a w k)→M a w (μ a w)∧∀k,M a w k→μ a w≤k:=fun a w=>Classical.choose_spec (hM a w)
 refine wp_scope_jumps l J μ hf (wp_mono (first E g a w hS) ?_) ?_
 ·rintro e a' w' ⟨S',g',hq,hs⟩
  cases e with
  |goto l'=>
   obtain⟨rfl,j,hj,hl⟩:=hq
   obtain⟨g2,h2⟩:=hs.le hl
   exact⟨rfl,j,g2,hj,h2⟩
  |_=>exact⟨S',g',hq,hs⟩
 ·rintro a w ⟨i0,g0,hi0,hs0⟩
  obtain⟨⟨i,g1,hi,hs1,hle⟩,_⟩:=hμ a w ⟨m i0,i0,g0,hi0,hs0,Nat.le_refl _⟩
  refine wp_mono (pass i hi E g1 a w hs1) ?_
  rintro e a' w' ⟨S',g',hq,hs⟩
  cases e with
  |goto l'=>
   obtain⟨rfl,j,⟨hj,hlt⟩,hl⟩:=hq
   obtain⟨g2,h2⟩:=hs.le hl
   refine⟨rfl,⟨j,g2,hj,h2⟩,?_⟩
   have:=(hμ a' w' ⟨m j,j,g2,hj,h2,Nat.le_refl _⟩).2 (m j) ⟨j,g2,hj,h2,Nat.le_refl _⟩
   omega
  |_=>exact⟨S',g',hq,hs⟩
theorem XD [Gi] {P:Program} {f:FuncId} {fn:Func} {c:Code} {ts:List (Nat×Option TypeId)}(nv:Nat)(ex:List Nat)(hf:P.funcs[f]?=some fn)(hb:fn.body=some c)(rm:List Nat)
  (hres:vo fn.results.toList=some ts) {pin:List Tok} {args:List AV} {rs:List (Tok×List AV)} {R:AV→List (Tok×List AV)→Prop} (hnv:args.length≤nv) (hn:args.length≤fn.ntmps)
  (h:Sem P c (ve P pin ts R) {n:=fn.ntmps,nv:=nv,vs:=xQ 0 args,ts:=[],rs:=rs,pin:=pin,ex:=ex,rm:=rm}):CR P f pin args rs R:=by
 intro w g vs hargs hG
 have hlen:vs.length=args.length:=by
  have h0:args.length≤nv:=hnv
  clear h0 h hnv hn
  induction args generalizing vs with
  |nil=>simp only[zt]at hargs;subst hargs;rfl
  |cons x xs ih=>simp only[zt]at hargs;obtain⟨v,vs',rfl,_,h2⟩:=hargs;simp[ih vs' h2]
 let E:Ent:=⟨w,g,hG.gl⟩
 have hS:SR E {n:=fn.ntmps,nv:=nv,vs:=xQ 0 args,ts:=[],rs:=rs,pin:=pin,ex:=ex,rm:=rm} g {tmps:=vs.toArray++Array.replicate (fn.ntmps-vs.toArray.size) undef,defers:=[]} w:=by
  refine⟨by simp;omega,rfl,fun t=>?_,hG.roots,hG.ur,hG.ut,fun b hb=>⟨hG.own b hb,.inr hb⟩,fun b _=>⟨rfl,rfl⟩,Ext.refl _ _,⟨rfl,rfl,rfl⟩,Nat.le_refl _,hG.frb,fun b t hk _=>⟨hk,fun _ hn=>hn⟩⟩
  unfold St.get
  split
  ·simp only[xx,Nat.zero_le,if_true,Nat.sub_zero]
   cases hx:args[t]? with
   |none=>simp only[qu,zd]
   |some x=>
    simp only[qu]
    obtain⟨v,hv,hr⟩:=hargs.get hx
    have hvl:=(List.getElem?_eq_some_iff.1 hv).1
    have:(vs.toArray++Array.replicate (fn.ntmps-vs.toArray.size) undef).getD t undef=v:=by
     simp[Array.getD_eq_getD_getElem?,Array.getElem?_append,hvl]
     have:=(List.getElem?_eq_some_iff.1 hv).2
     exact this
    rw[this];exact hr
  ·simp only[look,qu,zd]
 refine calls_of_wp hf hb (wp_mono (h E g _ w hS) ?_)
 rintro e a' w' ⟨S',g',hq,hs⟩
 have fin:uT P pin ts R S'→a'.defers=[]∧∃v,(results fn a'.tmps).run P w'=.ok v w'∧∃v' x rs' g'',Ending.returned v=.returned v'∧R x rs'∧zd g'' w' x v'∧GS g'' w' rs'∧Aft g w g'' w' pin:=fun h=>⟨hs.defers,VX hres hs h⟩
 cases e with
 |normal=>exact fin hq
 |ret=>exact fin hq
 |_=>exact hq.elim
end Go.AM
namespace Go.AM
theorem zel [Gi] {P:Program} {y:Code} {ι:Type} {l:Nat} {inv:ι→Prop} {st:ι→St} {Q:Exit→St→Prop} {S:St}(j:ι)(h1:inv j)(h2:LeS S (st j)):ziD P y (Jv l inv st Q) (.goto l) S:=⟨rfl,j,h1,h2⟩
theorem Sem.zlG [Gi] {P:Program} {c rest:Code} {Q:Exit→St→Prop} {S:St} {ι:Type}(l:Nat)(inv:ι→Prop)(st:ι→St)(m:ι→Nat)(hf:findLabel c l=some (.seq .skip rest))
  (first:(∀i,inv i→Sem P rest (Jv l inv st Q) (st i))→Sem P c (Jv l inv st Q) S) (pass:∀i,inv i→Sem P rest (Jv l (fun j=>inv j∧m j<m i) st Q) (st i)):Sem P (.scope c) Q S:=
 Sem.jumps l inv st m hf (first fun i hi=>(pass i hi).mono fun e S' h=>by
  cases e with
  |goto l'=>
   obtain⟨h1,j,h2,h3⟩:=h
   exact⟨h1,j,h2.1,h3⟩
  |_=>exact h) (fun i hi=>Sem.seq (Sem.skip (pass i hi)))
end Go.AM
end
section
namespace Go.Proofs.YtjefahhmkcfiiaaGreat
open Go.AM
set_option maxHeartbeats 4000000
set_option maxRecDepth 100000
def zbk(v:Row):Bool:=decide (v.a=4) || decide (v.a=5) || decide (v.a=8)
def zn4:Bool:=((yd 5).filter fun w=>decide (w.a=1)).all fun w=>(decide (w.t<44032) || decide (55203<w.f))&&(yd 4).all fun v=>zfi w v || zbk v
def znK:Bool:=((yd 6).filter fun w=>decide (w.a=2)).all fun w=>(decide (w.t<44032) || decide (55203<w.f))&&(yd 4).all fun v=>zfi w v || zbk v
theorem ziL:zn4=true:=by decide+kernel
theorem ziv:znK=true:=by decide+kernel
attribute [local irreducible] za
theorem XZ {k n x:Int}(hf:(((yd k).filter fun w=>decide (w.a=n)).all fun w=>(decide (w.t<44032) || decide (55203<w.f))&&(yd 4).all fun v=>zfi w v || zbk v)=true)(h:aL za k x=n)(hn:n≠0):
  zJ za x=0∨zJ za x=4∨zJ za x=5∨zJ za x=8:=by
 obtain⟨w,h1,h2,h3,h4⟩:=row_in (k:=k) (x:=x) (by rw[h];exact hn)
 have f:=List.all_eq_true.1 hf w (List.mem_filter.2 ⟨h1,decide_eq_true (by omega)⟩)
 simp only[Bool.and_eq_true,Bool.or_eq_true,decide_eq_true_eq]at f
 by_cases b0:zJ za x=0
 ·exact .inl b0
 ·have e:zJ za x=aL za 4 x:=by unfold zJ;rw[if_neg (by omega)]
  obtain⟨v,g1,g2,g3,g4⟩:=row_in (k:=4) (x:=x) (by rw[←e];exact b0)
  have f2:=List.all_eq_true.1 f.2 v g1
  rw[zbA h2 h3 g2 g3]at f2
  simp only[zbk,Bool.false_or,Bool.or_eq_true,decide_eq_true_eq]at f2
  omega
theorem zef {x:Int}(h:aL za 5 x=1):zJ za x=0∨zJ za x=4∨zJ za x=5∨zJ za x=8:=XZ ziL h (by decide)
theorem zen {x:Int}(h:ZC za x=2):zJ za x=0∨zJ za x=4∨zJ za x=5∨zJ za x=8:=by
 unfold ZC at h
 split at h
 ·exact XZ ziv h (by decide)
 ·split at h<;>exact absurd h (by decide)
def J8(p x:Int):Bool:=
 if zJ za x=6 then decide (zJ za p=6)
 else if zJ za x=0 then((decide (zJ za p=5)&&pcD x) || (decide (ZC za x=2)&&decide (ZC za p≠0)&&decide (ZC za p≠2)))
 else false
theorem zie {p x:Int}(h1:yV za p [] x=true)(h2:J8 p x=false)(pre:List Int):yV za p pre x=true:=by
 unfold yV at h1⊢
 by_cases c1:zJ za p=1∧zJ za x=2
 ·rw[if_pos c1]at h1;exact absurd h1 (by decide)
 rw[if_neg c1]at h1⊢
 by_cases c2:(QQ (zJ za p) || QQ (zJ za x))=true
 ·rw[if_pos c2]
 rw[if_neg c2]at h1⊢
 by_cases c3:Qr (zJ za p) (zJ za x)=true
 ·rw[if_pos c3]at h1;exact absurd h1 (by decide)
 rw[if_neg c3]at h1⊢
 by_cases c4:zJ za x=4∨zJ za x=5∨zJ za x=8∨zJ za p=7
 ·rw[if_pos c4]at h1;exact absurd h1 (by decide)
 rw[if_neg c4]
 unfold J8 at h2
 have hc:u9 za (p::pre) x=false:=by
  unfold u9
  split
  ·rename_i hx
   have hb:zJ za x=0:=by have:=zen hx;omega
   rw[if_neg (by omega),if_pos hb]at h2
   simp only[Bool.or_eq_false_iff,Bool.and_eq_false_iff,decide_eq_false_iff_not]at h2
   rw[Qk]
   by_cases q:ZC za p=2
   ·rw[if_pos q]
   ·rw[if_neg q,if_pos (by omega)]
  ·rfl
 have hp:Wh za p pre x=false:=by
  unfold Wh
  split
  ·rename_i hx
   have hb:zJ za x=0:=by have:=zef hx;omega
   rw[if_neg (by omega),if_pos hb]at h2
   simp only[Bool.or_eq_false_iff,Bool.and_eq_false_iff,decide_eq_false_iff_not,pcD]at h2
   rw[if_neg (by omega)]
  ·rfl
 have hf:vt za (p::pre) x=false:=by
  unfold vt
  split
  ·rename_i hx
   rw[if_pos hx]at h2
   have h2':=of_decide_eq_false h2
   rw[Qu,if_neg h2'];rfl
  ·rfl
 rw[hc,hp,hf];rfl
theorem XB [Gi] {e:PV}(hT:ZR e) {r:Int}(hr:zL r):CR Tryz.prog 202 [] [.p e,.p (.int .i32 r)] [] (is (.p (.int .i64 (zJ za r)))):=by
 obtain⟨c,b,j,f,p,h,rfl⟩:=hT
 rw[←Jm]
 exact Uu h _ _ _ _ je hr
theorem zbX [Gi] {e:PV}(hT:ZR e) {r:Int}(hr:zL r):CR Tryz.prog 204 [] [.p e,.p (.int .i32 r)] [] (is (.p (.int .i64 (ZC za r)))):=by
 obtain⟨c,b,j,f,p,h,rfl⟩:=hT
 rw[←zcy]
 exact zdW h _ _ _ _ je hr
theorem zjG [Gi] {e:PV}(hT:ZR e) {r:Int}(hr:zL r):CR Tryz.prog 203 [] [.p e,.p (.int .i32 r)] [] (is (.p (.bool (pcD r)))):=by
 obtain⟨c,b,j,f,p,h,rfl⟩:=hT
 rw[pcD,←zfE]
 exact zdv h _ _ _ _ je hr
theorem zfo [Gi] {e:PV}(hT:ZR e) {r:Int}(hr:zL r):CR Tryz.prog 131 [] [.p e,.p (.int .i32 r)] [] (is (.p (.bool (decide (aL za 8 r=1))))):=by
 obtain⟨c,b,j,f,p,h,rfl⟩:=hT
 rw[←zge]
 exact Yg h _ _ _ _ je hr
theorem zdj [Gi] {e:PV}(hT:ZR e) {p x:Int}(hp:zL p)(hx:zL x):CR Tryz.prog 237 [] [.p e,.p (.int .i32 p),.p (.int .i32 x)] [] (is (.p (.bool (J8 p x)))):=by
 refine walk Tryz.func237 7 [9,10,16] [] [] ?_
 have b1:=XB hT hp
 have b2:=XB hT hx
 have k1:=zbX hT hp
 have k2:=zbX hT hx
 have k3:=zjG hT hx
 unfold J8
 generalize zJ za p=bp at b1
 generalize zJ za x=bx at b2
 generalize ZC za p=cp at k1
 generalize ZC za x=cx at k2
 generalize pcD x=px at k3
 simp (maxSteps:=1000000) [go_sem,Tryz.f237]
 refine zn b2 ?_
 by_cases c1:bx=6
 ·simp (maxSteps:=1000000) [go_sem,c1]
  refine zn b1 ?_
  simp (maxSteps:=1000000) [go_sem]
  exact ret
 by_cases c2:bx=0
 ·simp (maxSteps:=1000000) [go_sem,c2]
  refine zn b1 ?_
  by_cases c3:bp=5
  ·simp (maxSteps:=1000000) [go_sem,c3]
   refine zn k3 ?_
   cases px with
   |true=>
    simp (maxSteps:=1000000) [go_sem]
    exact ret
   |false=>
    simp (maxSteps:=1000000) [go_sem]
    refine zn k2 ?_
    by_cases c4:cx=2
    ·simp (maxSteps:=1000000) [go_sem,c4]
     refine zn k1 ?_
     by_cases c5:cp=0
     ·simp (maxSteps:=1000000) [go_sem,c5]
      exact ret
     ·simp (maxSteps:=1000000) [go_sem,c5]
      refine zn k1 ?_
      simp (maxSteps:=1000000) [go_sem]
      exact ret
    ·simp (maxSteps:=1000000) [go_sem,c4]
     exact ret
  ·simp (maxSteps:=1000000) [go_sem,c3]
   refine zn k2 ?_
   by_cases c4:cx=2
   ·simp (maxSteps:=1000000) [go_sem,c4]
    refine zn k1 ?_
    by_cases c5:cp=0
    ·simp (maxSteps:=1000000) [go_sem,c5]
     exact ret
    ·simp (maxSteps:=1000000) [go_sem,c5]
     refine zn k1 ?_
     simp (maxSteps:=1000000) [go_sem]
     exact ret
   ·simp (maxSteps:=1000000) [go_sem,c4]
    exact ret
 ·simp (maxSteps:=1000000) [go_sem,c1,c2]
  exact ret
theorem VR [Gi] {e:PV}(hT:ZR e) {l:List Int} {L:List (List Int)}(h:Ln l L) {k:Nat}(hk:k<L.length):CR Tryz.prog 125 [] [.p e,.p (zh l),.p (.int .i64 (plc L k:Nat))] [] (is (.p (.int .i64 (plc L (k+1):Nat)))):=by
 have hlt:plc L k<l.length:=by have:=qS h.cl hk (Nat.le_refl _);rw[qc,h.sum]at this;exact this
 obtain⟨c,b,j,f,p,hv,rfl⟩:=hT
 have hd:=List.drop_eq_getElem_cons hlt
 have:=zfC hv je (ckP M0.1) (cxP M0.1) (Z9 M0.2) (qm M0.2) l h.n h.r (plc L k) l[plc L k] _ hd
 have hb:Beg (l.take (plc L k)).reverse l[plc L k]:=by
  by_cases c0:plc L k=0
  ·left;simp[c0]
  ·obtain⟨i,hi⟩:∃i,plc L k=i+1:=⟨plc L k-1,by omega⟩
   have hb:=KT l L h.eq h.cl i (by omega)
   have hb2:isB L ((i+1:Nat):Int)=true:=by rw[←hi];exact xd h.cl (by omega)
   rw[hb2]at hb
   refine .inr ⟨l[i]'(by omega),(l.take i).reverse,?_,?_⟩
   ·rw[hi];exact wX (by omega)
   ·simp only[hi];exact hb
 have e:wJ T0 (Zo T0 QV l[plc L k]).1 (l.drop (plc L k+1))=QJ za l[plc L k] (l.take (plc L k)).reverse (l.drop (plc L k+1)):=by
  rw[yF]
  exact zbb _ _ _ _ (Us.start hb)
 rw[e,Ys l _ hlt,←h.eq,yW h.cl (by omega)]at this
 exact this
theorem zh3 [Gi](e:PV)(l:List Int):CR Tryz.prog 125 [] [.p e,.p (zh l),.p (.int .i64 (l.length:Nat))] [] (is (.p (.int .i64 (l.length:Nat)))):=by
 refine walk Tryz.func125 11 [] [200007] [] ?_
 have g1:¬(l.length:Int)<0:=by omega
 simp (maxSteps:=1000000) [go_sem,Tryz.f125,g1]
 exact ret
end Go.Proofs.YtjefahhmkcfiiaaGreat
end
