/- A part of the proof of this seat's statements, by an abstract machine: what each operation does to values, and what the law's functions compute. Conditions: as each law says. -/
import Derived.Test.YthbmelihnabkaaaGreatT39
import Derived.Test.YthbmelihnabkaaaGreatT38
section
namespace Go.Proofs.YthbmelihnabkaaaGreat
open Go.AM
set_option maxHeartbeats 4000000
set_option maxRecDepth 10000
attribute [local irreducible] za
structure Tx where
 g:List Int
 f:Nat
 t:Nat
def txR(e:PV)(x:Tx)(L:List (List Int)):List (Tok×List AV):=
 [([0],[.p e,.lp [0,1] 0,.p (Q2 (pl L)),.p (.int .i64 (Zd L:Nat))]),([0,1],[.la [0,2] 1 0 x.g.length,.p (.int .i64 (x.f:Nat)),.p (.int .i64 (x.t:Nat))]),([0,2],rcs x.g)]
def txT:List Tok:=[[0],[0,1],[0,2]]
def W7:List (Tok×Tok):=[([0],[0,1]),([0,0],[0,2])]
attribute [go_sem] txR txT W7 ZF Zn
structure yd(x:Tx)(L:List (List Int)):Prop where
 ft:x.f≤x.t
 tl:x.t≤x.g.length
 n:(x.g.length:Int)≤4398046511104
 held:held x.g x.f x.t=L.flatten
 cl:ClL L
theorem yd.len {x:Tx} {L:List (List Int)}(h:yd x L):(x.g.length:Int)- (x.t-x.f)=Zd L:=by
 have:=yT x.g x.f x.t h.ft h.tl
 rw[h.held,yj]at this
 have h1:=h.ft
 have h2:=h.tl
 omega
theorem ym {e:PV}(h:Zl e):∃z y,e=.pt z y:=by
 obtain⟨c,b,j,f,p,_,rfl⟩:=h
 exact⟨_,_,rfl⟩
theorem Xf [Gi](e:PV) {x:Tx} {L:List (List Int)}(h:yd x L)(a:Int):CR Tryz.prog 18 txT [.lp [0] 0,.p (.int .i64 a)] (txR e x L) (keeps (txR e x L) (.int .i64 (plc L (kf L a):Nat))):=by
 refine Yr Tryz.func18 5 [] [] [] ?_
 simp (maxSteps:=1000000) [go_sem,Tryz.f18]
 refine zn (QV h.cl a) ?_
 simp (maxSteps:=1000000) [go_sem]
 exact KT
theorem zih [Gi](e:PV) {x:Tx} {L:List (List Int)}(h:yd x L)(a n:Int):CR Tryz.prog 21 txT [.lp [0] 0,.p (.int .i64 a),.p (.int .i64 n)] (txR e x L) (keeps (txR e x L) (.int .i64 (plc L (goK L a n):Nat))):=by
 refine Yr Tryz.func21 7 [] [] [] ?_
 simp (maxSteps:=1000000) [go_sem,Tryz.f21]
 refine zn (zl2 h.cl a n) ?_
 simp (maxSteps:=1000000) [go_sem]
 exact KT
theorem zi0 [Gi](e:PV) {x:Tx} {L:List (List Int)}(h:yd x L):CR Tryz.prog 32 txT [.lp [0] 0] (txR e x L) (keeps (txR e x L) (.int .i64 (Zd L:Nat))):=by
 refine Yr Tryz.func32 3 [] [] [] ?_
 simp (maxSteps:=1000000) [go_sem,Tryz.f32]
 have hn:=h.n
 refine call W7 (jV x.g x.f x.t h.ft h.tl (by omega)) ?_
 rintro _ _ ⟨rfl,rfl⟩
 simp (maxSteps:=1000000) [go_sem,h.len]
 exact KT
theorem ug [Gi](e:PV) {x:Tx} {L:List (List Int)}(h:yd x L):CR Tryz.prog 19 txT [.lp [0] 0] (txR e x L) (keeps (txR e x L) (zh L.flatten)):=by
 refine Yr Tryz.func19 3 [] [] [] ?_
 simp (maxSteps:=1000000) [go_sem,Tryz.f19]
 refine call W7 (xI x.g x.f x.t h.ft h.tl h.n) ?_
 rintro _ _ ⟨rfl,rfl⟩
 rw[h.held]
 simp (maxSteps:=1000000) [go_sem]
 exact KT
def znX(e:PV)(L:List (List Int)):AV→List (Tok×List AV)→Prop:=fun x rs=>∃X:Tx,yd X L∧X.g.length=Zd L+8∧x=.lp [0] 0∧rs=txR e X L
def zoh(e:PV)(L:List (List Int)):AV→List (Tok×List AV)→Prop:=fun x rs=>∃X:Tx,yd X L∧X.g.length=Zd L+8∧x=.lp [18] 0∧rs=[([13,0],[.la [13,0,0] 1 0 X.g.length,.p (.int .i64 (X.f:Nat)),.p (.int .i64 (X.t:Nat))]),([13,0,0],rcs X.g),([18],[.p e,.lp [13,0] 0,.p (Q2 (pl L)),.p (.int .i64 (Zd L:Nat))])]
theorem zjT(l:List Int)(hn:l.length<2^31)(hr:∀x∈l,zD x):ClL (z8 za l)where
 full:=JA l hn hr
 sum:=by rw[kj.sum];exact hn
theorem zgg [Gi] {e:PV}(hT:Zl e)(l:List Int)(hn:l.length<2^20)(hr:∀x∈l,zD x):CR Tryz.prog 58 [] [.p e,.p (zh l)] [] (is (.p (zh (qv za l)))):=by
 obtain⟨c,b,j,f,p,h,rfl⟩:=hT
 have:=zlR h Z7 zdZ M0.1 (ZD M0.2) (qe M0.2) l hn hr
 rw[zkx]at this
 exact this
theorem zbq [Gi] {e:PV}(hT:Zl e)(l:List Int)(hn:l.length<2^20)(hr:∀x∈l,zD x)(hs:(qv za l).length≤65536):CR Tryz.prog 17 [] [.p e,.p (zh l)] [] (znX e (z8 za (qv za l))):=by
 refine CR.ren (R:=zoh e (z8 za (qv za l))) ?_ 100 ?_
 ·refine walk Tryz.func17 5 [] [] [] ?_
  have hr2:=kj.rune l hn hr
  have hnf:=zgg hT l hn hr
  generalize qv za l=s at hs hr2 hnf
  have hcl:=zjT s (by omega) hr2
  have hio:=zea hT s (by omega) hr2
  have hsum:Zd (z8 za s)=s.length:=kj.sum s
  have hfl:(z8 za s).flatten=s:=kj.flat s
  generalize z8 za s=L at hcl hio hsum hfl
  obtain⟨z,y,rfl⟩:=ym hT
  simp (maxSteps:=1000000) [go_sem,Tryz.f17]
  refine zn hnf ?_
  have g:¬(65536:Int)<s.length:=by omega
  simp (maxSteps:=1000000) [go_sem,g]
  refine call [] (zg2 s (by omega)) ?_
  rintro _ _ ⟨l',rfl,hl',rfl,hh⟩
  simp (maxSteps:=1000000) [go_sem]
  refine zn hio ?_
  simp (maxSteps:=1000000) [go_sem]
  refine zi [[13,0],[13,0,0],[18]] (.lp [18] 0) (by simp) (by simp[go_sem,zd,leA,leT]) ⟨⟨l',s.length,s.length+8⟩,⟨by simp,by simp[hl'],by simp only[hl'];omega,by rw[hfl];exact hh,hcl⟩,by rw[hl',hsum],rfl,?_⟩
  simp (maxSteps:=1000000) [go_sem]
 ·rintro x rs ⟨X,h1,h2,rfl,rfl⟩
  exact⟨[([0],[18]),([0,1],[13,0]),([0,2],[13,0,0])],by simp[go_sem],by simp,X,h1,h2,by simp[go_sem],by simp[go_sem]⟩
end Go.Proofs.YthbmelihnabkaaaGreat
end
section
namespace Go.Proofs.YthbmelihnabkaaaGreat
open Go.AM
set_option maxHeartbeats 4000000
set_option maxRecDepth 10000
attribute [local irreducible] za
structure Ln(l:List Int)(L:List (List Int)):Prop where
 eq:L=z8 za l
 n:l.length<2^31
 r:∀x∈l,zD x
theorem Ln.cl {l:List Int} {L:List (List Int)}(h:Ln l L):ClL L where
 full:=by rw[h.eq];exact JA l h.n h.r
 sum:=by rw[h.eq,kj.sum];exact h.n
theorem Ln.sum {l:List Int} {L:List (List Int)}(h:Ln l L):Zd L=l.length:=by rw[h.eq];exact kj.sum l
theorem Ln.flat {l:List Int} {L:List (List Int)}(h:Ln l L):L.flatten=l:=by rw[h.eq];exact kj.flat l
theorem zcZ(L:List (List Int)):isB L 0=true:=by
 have:=vK L 0 (by omega)
 exact decide_eq_true (by omega)
theorem zat {L:List (List Int)}(h:ClL L) {k:Nat}(hk:k≤L.length):isB L (plc L k)=true:=decide_eq_true (by rw[VO h hk])
theorem zfA {L:List (List Int)}(h:ClL L) {i:Int}(hi:i<0∨(Zd L:Int)<i):isB L i=false:=by
 refine decide_eq_false (fun e=>?_)
 have:=yY h (yp L i)
 omega
theorem Wj [Gi](l:List Int):CR Tryz.prog 75 [] [.p (zI za),.p (zh l),.p (.int .i64 0)] [] (is (.p (.bool true))):=by
 refine walk Tryz.func75 9 [] [3] [] ?_
 simp (maxSteps:=1000000) [go_sem,Tryz.f75]
 exact ret
theorem y5 [Gi] {l:List Int} {L:List (List Int)}(h:Ln l L)(i:Int):CR Tryz.prog 27 [] [.p (zI za),.p (zh l),.p (.int .i64 i)] [] (is (.p (.bool (isB L i)))):=by
 refine walk Tryz.func27 7 [] [] [] ?_
 have hs:=h.sum
 by_cases c1:i<0
 ·rw[zfA h.cl (.inl c1)]
  simp (maxSteps:=1000000) [go_sem,Tryz.f27,c1]
  exact ret
 ·by_cases c2:(l.length:Int)<i
  ·rw[zfA h.cl (.inr (by omega))]
   simp (maxSteps:=1000000) [go_sem,Tryz.f27,c1,c2]
   exact ret
  ·by_cases c3:i=l.length
   ·have e:isB L i=true:=by rw[c3,←hs,←qF];exact zat h.cl (Nat.le_refl _)
    rw[e]
    subst c3
    have c1':¬((l.length:Int)<0):=by omega
    simp (maxSteps:=1000000) [go_sem,Tryz.f27,c1']
    exact ret
   ·obtain⟨n,rfl⟩:∃n:Nat,i=n:=⟨i.toNat,by omega⟩
    have c3':¬n=l.length:=by omega
    by_cases c4:n=0
    ·subst c4
     have e:isB L ((0:Nat):Int)=true:=zcZ L
     rw[e]
     have c2':¬((l.length:Int)<0):=by omega
     have c5:¬(0:Int)=l.length:=by omega
     have c6:¬l=[]:=fun e=>by subst e;simp at c3
     simp (maxSteps:=1000000) [go_sem,Tryz.f27,c2',c5]
     refine zn (Wj l) ?_
     simp (maxSteps:=1000000) [go_sem]
     exact ret
    ·obtain⟨m,rfl⟩:∃m,n=m+1:=⟨n-1,by omega⟩
     have hb:=ue yS l (m+1) m rfl (by omega) h.n h.r
     rw[Vh l L h.eq h.cl m (by omega)]at hb
     generalize isB L ((m+1:Nat):Int)=q at hb
     have c1':¬((m:Int)+1<0):=by omega
     have c2':¬((l.length:Int)< (m:Int)+1):=by omega
     have c3'':¬((m:Int)+1=l.length):=by omega
     simp (maxSteps:=1000000) [go_sem,Tryz.f27,c1',c2',c3'']
     refine zn hb ?_
     simp (maxSteps:=1000000) [go_sem]
     exact ret
theorem zbd {L:List (List Int)}(h:ClL L) {i:Nat}(_:(i:Int)≤Zd L)(hb:isB L i=false):∃j,i=j+1∧kf L (j:Nat)=kf L (i:Nat):=by
 have q1:=vK L i (by omega)
 have q2:=K0 L i
 have q3:=yp L i
 have hne:¬(plc L (kf L i):Int)=i:=of_decide_eq_false hb
 exact⟨i-1,by omega,Vd h q3 (by omega) (fun c=>by have:=q2 c;omega)⟩
theorem XJ [Gi] {l:List Int} {L:List (List Int)}(h:Ln l L)(a:Int):CR Tryz.prog 26 [] [.p (zI za),.p (zh l),.p (.int .i64 a)] [] (is (.p (.int .i64 (plc L (kf L a):Nat)))):=by
 refine walk Tryz.func26 7 [] [] [] ?_
 have hs:=h.sum
 have hcl:=h.cl
 have hln:=h.n
 by_cases c1:a<0
 ·rw[zar L c1,Zr]
  have c2:¬(l.length:Int)<a:=by omega
  have c3:¬0<a:=by omega
  simp (maxSteps:=1000000) [go_sem,Tryz.f26,c2]
  refine loop (fun _:Unit=>True) (fun _=>[]) (fun _=>[]) (fun _=>0) () trivial (fun _ _=>?_)
  simp (maxSteps:=1000000) [go_sem,c1,c3]
  exact ret
 ·obtain⟨i0,hi0,hle,hk⟩:∃i0:Nat,(i0:Int)=min a l.length∧i0≤l.length∧kf L a=kf L (i0:Nat):=by
   by_cases c2:(l.length:Int)≤a
   ·exact⟨l.length,by omega,Nat.le_refl _,by rw[zbm hcl (by omega),zbm hcl (by omega)]⟩
   ·exact⟨a.toNat,by omega,by omega,by congr 1;omega⟩
  rw[hk]
  obtain⟨N,hN⟩:∃N,N=plc L (kf L (i0:Nat)):=⟨_,rfl⟩
  rw[←hN]
  by_cases c2:(l.length:Int)<a
  ·have e:i0=l.length:=by omega
   simp (maxSteps:=1000000) [go_sem,Tryz.f26,c2]
   refine loop (fun i:Nat=>i≤l.length∧N=plc L (kf L (i:Nat))) (fun i=>[(2,.p (.int .i64 (i:Nat)))]) (fun _=>[]) (fun i=>i) l.length ⟨Nat.le_refl _,by rw[hN,e]⟩ (fun i hi=>?_)
   obtain⟨h1,h2⟩:=hi
   by_cases c3:isB L i=true
   ·have e:N=i:=by have:(plc L (kf L i):Int)=i:=of_decide_eq_true c3;omega
    rw[e]
    by_cases c4:i=0
    ·subst c4
     simp (maxSteps:=1000000) [go_sem]
     exact ret
    ·have c4':(0:Int)<i:=by omega
     have c4'':0<i:=by omega
     have c5:¬(i:Int)<0:=by omega
     simp (maxSteps:=1000000) [go_sem,c4'',c5]
     refine zn (y5 h i) ?_
     simp (maxSteps:=1000000) [go_sem,c3,c5]
     exact ret
   ·have c3':isB L i=false:=by simpa using c3
    obtain⟨j,hij,hj⟩:=zbd hcl (by omega) c3'
    have c4:(0:Int)<i:=by omega
    have c4':0<i:=by omega
    have w:IntKind.i64.wrap ((i:Int)-1)=(j:Int):=zL (by omega) hij
    simp (maxSteps:=1000000) [go_sem,c4']
    refine zn (y5 h i) ?_
    simp (maxSteps:=1000000) [go_sem,c3',w]
    exact next j ⟨by omega,by rw[h2,hj]⟩ (by omega)
  ·have e:(i0:Int)=a:=by omega
   subst e
   have c2':¬l.length<i0:=by omega
   simp (maxSteps:=1000000) [go_sem,Tryz.f26,c2]
   refine loop (fun i:Nat=>i≤l.length∧N=plc L (kf L (i:Nat))) (fun i=>[(2,.p (.int .i64 (i:Nat)))]) (fun _=>[]) (fun i=>i) i0 ⟨hle,hN⟩ (fun i hi=>?_)
   obtain⟨h1,h2⟩:=hi
   by_cases c3:isB L i=true
   ·have e:N=i:=by have:(plc L (kf L i):Int)=i:=of_decide_eq_true c3;omega
    rw[e]
    by_cases c4:i=0
    ·subst c4
     simp (maxSteps:=1000000) [go_sem]
     exact ret
    ·have c4':(0:Int)<i:=by omega
     have c4'':0<i:=by omega
     have c5:¬(i:Int)<0:=by omega
     simp (maxSteps:=1000000) [go_sem,c4'',c5]
     refine zn (y5 h i) ?_
     simp (maxSteps:=1000000) [go_sem,c3,c5]
     exact ret
   ·have c3':isB L i=false:=by simpa using c3
    obtain⟨j,hij,hj⟩:=zbd hcl (by omega) c3'
    have c4:(0:Int)<i:=by omega
    have c4':0<i:=by omega
    have w:IntKind.i64.wrap ((i:Int)-1)=(j:Int):=zL (by omega) hij
    simp (maxSteps:=1000000) [go_sem,c4']
    refine zn (y5 h i) ?_
    simp (maxSteps:=1000000) [go_sem,c3',w]
    exact next j ⟨by omega,by rw[h2,hj]⟩ (by omega)
theorem zj1 [Gi] {l:List Int} {L:List (List Int)}(h:Ln l L)(j:Nat)(hj:j<l.length):CR Tryz.prog 78 [] [.p (zI za),.p (zh l),.p (.int .i64 ((j+1:Nat):Int))] [] (is (.p (.int .i64 (plc L (kf L (j:Nat)):Nat)))):=by
 refine walk Tryz.func78 8 [] [] [] ?_
 have hs:=h.sum
 have hcl:=h.cl
 have hln:=h.n
 obtain⟨N,hN⟩:∃N,N=plc L (kf L (j:Nat)):=⟨_,rfl⟩
 rw[←hN]
 have w0:IntKind.i64.wrap (j:Int)=(j:Int):=Jq (by omega)
 simp (maxSteps:=1000000) [go_sem,Tryz.f78,w0]
 refine loop (fun i:Nat=>i≤l.length∧N=plc L (kf L (i:Nat))) (fun i=>[(7,.p (.int .i64 (i:Nat)))]) (fun _=>[]) (fun i=>i) j ⟨by omega,hN⟩ (fun i hi=>?_)
 obtain⟨h1,h2⟩:=hi
 by_cases c4:i=0
 ·subst c4
  have e:N=0:=by have:=vK L ((0:Nat):Int) (by omega);omega
  rw[e]
  simp (maxSteps:=1000000) [go_sem]
  exact ret
 ·have c4':(0:Int)<i:=by omega
  have c4'':0<i:=by omega
  by_cases c3:isB L i=true
  ·have e:N=i:=by have:(plc L (kf L i):Int)=i:=of_decide_eq_true c3;omega
   rw[e]
   simp (maxSteps:=1000000) [go_sem,c4'']
   refine zn (y5 h i) ?_
   simp (maxSteps:=1000000) [go_sem,c3]
   exact ret
  ·have c3':isB L i=false:=by simpa using c3
   obtain⟨k,hik,hk⟩:=zbd hcl (by omega) c3'
   have w:IntKind.i64.wrap ((i:Int)-1)=(k:Int):=zL (by omega) hik
   simp (maxSteps:=1000000) [go_sem,c4'']
   refine zn (y5 h i) ?_
   simp (maxSteps:=1000000) [go_sem,c3',w]
   exact next k ⟨by omega,by rw[h2,hk]⟩ (by omega)
theorem zdk [Gi] {l:List Int} {L:List (List Int)}(h:Ln l L) {k:Nat}(hk:k<L.length):CR Tryz.prog 77 [] [.p (zI za),.p (zh l),.p (.int .i64 (plc L k:Nat))] [] (is (.p (.int .i64 (plc L (k+1):Nat)))):=by
 have hlt:plc L k<l.length:=by have:=ZG h.cl hk (Nat.le_refl _);rw[qF,h.sum]at this;exact this
 have:=ziI yS l (plc L k) hlt h.n h.r
 rw[JI l _ hlt,←h.eq,VO h.cl (by omega)]at this
 exact this
theorem zch [Gi] {l:List Int} {L:List (List Int)}(h:Ln l L) {k:Nat}(hk:k<L.length):CR Tryz.prog 78 [] [.p (zI za),.p (zh l),.p (.int .i64 (plc L (k+1):Nat))] [] (is (.p (.int .i64 (plc L k:Nat)))):=by
 have h1:=xh h.cl hk
 have h2:=yY h.cl (k:=k+1) hk
 rw[h.sum]at h2
 obtain⟨j,hj⟩:∃j,plc L (k+1)=j+1:=⟨plc L (k+1)-1,by omega⟩
 have:=zj1 h j (by omega)
 rw[Vd h.cl (k:=k) (by omega) (by omega) (fun _=>by omega)]at this
 rw[hj]
 exact this
theorem zll [Gi] {l:List Int} {L:List (List Int)}(h:Ln l L)(a n:Int)(hn: -1000≤n∧n≤1000):CR Tryz.prog 30 [] [.p (zI za),.p (zh l),.p (.int .i64 a),.p (.int .i64 n)] [] (is (.p (.int .i64 (plc L (goK L a n):Nat)))):=by
 refine walk Tryz.func30 9 [] [] [] ?_
 have hs:=h.sum
 have hcl:=h.cl
 have hln:=h.n
 have hnum:=hcl.len
 obtain⟨G,hG⟩:∃G,G=goK L a n:=⟨_,rfl⟩
 have hG2:(G:Int)=max (min ((kf L a:Int)+n) L.length) 0:=by rw[hG];unfold goK;omega
 rw[←hG]
 simp (maxSteps:=1000000) [go_sem,Tryz.f30]
 refine zn (XJ h a) ?_
 simp (maxSteps:=1000000) [go_sem]
 refine loop (fun r:Nat×Int=>r.1≤L.length∧ -1000≤r.2∧r.2≤1000∧(G:Int)=max (min ((r.1:Int)+r.2) L.length) 0) (fun r=>[(3,.p (.int .i64 r.2)),(2,.p (.int .i64 (plc L r.1:Nat)))]) (fun _=>[]) (fun r=>L.length-r.1) (kf L a,n) ⟨yp L a,hn.1,hn.2,hG2⟩ (fun r hr=>?_)
 obtain⟨p,m⟩:=r
 obtain⟨p1,p2,p3,p4⟩:=hr
 simp only at p1 p2 p3 p4
 have hp:=yY hcl p1
 by_cases c:0<m∧p<L.length
 ·have c1:0<m:=c.1
  have c3:=ZG hcl c.2 (Nat.le_refl _)
  rw[qF]at c3
  have c2:(plc L p:Int)<l.length:=by omega
  have c2':plc L p<l.length:=by omega
  have w2:IntKind.i64.wrap (m-1)=m-1:=wrap64 (by omega) (by omega)
  simp (maxSteps:=1000000) [go_sem,c1,c2]
  refine zn (zdk h c.2) ?_
  simp (maxSteps:=1000000) [go_sem,w2]
  exact next (p+1,m-1) ⟨by show p+1≤L.length;omega,by show -1000≤m-1;omega,by show m-1≤1000;omega,by show(G:Int)=max (min (((p+1:Nat):Int)+(m-1)) L.length) 0;omega⟩ (by show L.length- (p+1)<L.length-p;omega)
 ·have hx:m≤0∨p=L.length:=by omega
  have two:¬0<m∨(0<m∧¬(plc L p:Int)<l.length∧¬plc L p<l.length):=by
   by_cases c1:0<m
   ·have:p=L.length:=by omega
    rw[this,qF];omega
   ·exact .inl c1
  rcases two with c1|⟨c1,c2,c3⟩
  ·simp (maxSteps:=1000000) [go_sem,c1]
   clear c1 c
   refine loop (fun r:Nat×Int=>r.1≤L.length∧ -1000≤r.2∧r.2≤1000∧(r.2≤0∨r.1=L.length)∧(G:Int)=max (min ((r.1:Int)+r.2) L.length) 0) (fun r=>[(3,.p (.int .i64 r.2)),(2,.p (.int .i64 (plc L r.1:Nat)))]) (fun _=>[]) (fun r=>r.1) (p,m) ⟨p1,p2,p3,hx,p4⟩ (fun r hr=>?_)
   clear p1 p2 p3 p4 hx hp
   obtain⟨p,m⟩:=r
   obtain⟨p1,p2,p3,hx,p4⟩:=hr
   simp only at p1 p2 p3 hx p4
   by_cases d1:m<0
   ·by_cases d2:0<p
    ·obtain⟨q,rfl⟩:∃q,p=q+1:=⟨p-1,by omega⟩
     have d3:=xh hcl (k:=q) (by omega)
     have d4:(0:Int)<plc L (q+1):=by omega
     have d4':0<plc L (q+1):=by omega
     have w2:IntKind.i64.wrap (m+1)=m+1:=wrap64 (by omega) (by omega)
     simp (maxSteps:=1000000) [go_sem,d1,d4']
     refine zn (zch h (k:=q) (by omega)) ?_
     simp (maxSteps:=1000000) [go_sem,w2]
     exact next (q,m+1) ⟨by show q≤L.length;omega,by show -1000≤m+1;omega,by show m+1≤1000;omega,.inl (by show m+1≤0;omega),by show(G:Int)=max (min ((q:Int)+(m+1)) L.length) 0;omega⟩ (by show q<q+1;omega)
    ·have e:G=p:=by omega
     rw[e]
     have e0:p=0:=by omega
     subst e0
     simp (maxSteps:=1000000) [go_sem,d1,Zr]
     exact ret
   ·have e:G=p:=by omega
    rw[e]
    simp (maxSteps:=1000000) [go_sem,d1]
    exact ret
  ·simp (maxSteps:=1000000) [go_sem,c1,c2]
   clear c1 c c2 c3
   refine loop (fun r:Nat×Int=>r.1≤L.length∧ -1000≤r.2∧r.2≤1000∧(r.2≤0∨r.1=L.length)∧(G:Int)=max (min ((r.1:Int)+r.2) L.length) 0) (fun r=>[(3,.p (.int .i64 r.2)),(2,.p (.int .i64 (plc L r.1:Nat)))]) (fun _=>[]) (fun r=>r.1) (p,m) ⟨p1,p2,p3,hx,p4⟩ (fun r hr=>?_)
   clear p1 p2 p3 p4 hx hp
   obtain⟨p,m⟩:=r
   obtain⟨p1,p2,p3,hx,p4⟩:=hr
   simp only at p1 p2 p3 hx p4
   by_cases d1:m<0
   ·by_cases d2:0<p
    ·obtain⟨q,rfl⟩:∃q,p=q+1:=⟨p-1,by omega⟩
     have d3:=xh hcl (k:=q) (by omega)
     have d4:(0:Int)<plc L (q+1):=by omega
     have d4':0<plc L (q+1):=by omega
     have w2:IntKind.i64.wrap (m+1)=m+1:=wrap64 (by omega) (by omega)
     simp (maxSteps:=1000000) [go_sem,d1,d4']
     refine zn (zch h (k:=q) (by omega)) ?_
     simp (maxSteps:=1000000) [go_sem,w2]
     exact next (q,m+1) ⟨by show q≤L.length;omega,by show -1000≤m+1;omega,by show m+1≤1000;omega,.inl (by show m+1≤0;omega),by show(G:Int)=max (min ((q:Int)+(m+1)) L.length) 0;omega⟩ (by show q<q+1;omega)
    ·have e:G=p:=by omega
     rw[e]
     have e0:p=0:=by omega
     subst e0
     simp (maxSteps:=1000000) [go_sem,d1,Zr]
     exact ret
   ·have e:G=p:=by omega
    rw[e]
    simp (maxSteps:=1000000) [go_sem,d1]
    exact ret
end Go.Proofs.YthbmelihnabkaaaGreat
end
section
namespace Go.Proofs.YthbmelihnabkaaaGreat
open Go.AM
set_option maxHeartbeats 4000000
set_option maxRecDepth 100000
def zaG(v:Row):Bool:=decide (v.a=4) || decide (v.a=5) || decide (v.a=8)
def zon:Bool:=((kT 5).filter fun w=>decide (w.a=1)).all fun w=>(decide (w.t<44032) || decide (55203<w.f))&&(kT 4).all fun v=>zen w v || zaG v
def znG:Bool:=((kT 6).filter fun w=>decide (w.a=2)).all fun w=>(decide (w.t<44032) || decide (55203<w.f))&&(kT 4).all fun v=>zen w v || zaG v
theorem zjx:zon=true:=by decide+kernel
theorem zjb:znG=true:=by decide+kernel
attribute [local irreducible] za
theorem X9 {k n x:Int}(hf:(((kT k).filter fun w=>decide (w.a=n)).all fun w=>(decide (w.t<44032) || decide (55203<w.f))&&(kT 4).all fun v=>zen w v || zaG v)=true)(h:aL za k x=n)(hn:n≠0):
  zE za x=0∨zE za x=4∨zE za x=5∨zE za x=8:=by
 obtain⟨w,h1,h2,h3,h4⟩:=row_in (k:=k) (x:=x) (by rw[h];exact hn)
 have f:=List.all_eq_true.1 hf w (List.mem_filter.2 ⟨h1,decide_eq_true (by omega)⟩)
 simp only[Bool.and_eq_true,Bool.or_eq_true,decide_eq_true_eq]at f
 by_cases b0:zE za x=0
 ·exact .inl b0
 ·have e:zE za x=aL za 4 x:=by unfold zE;rw[if_neg (by omega)]
  obtain⟨v,g1,g2,g3,g4⟩:=row_in (k:=4) (x:=x) (by rw[←e];exact b0)
  have f2:=List.all_eq_true.1 f.2 v g1
  rw[zaN h2 h3 g2 g3]at f2
  simp only[zaG,Bool.false_or,Bool.or_eq_true,decide_eq_true_eq]at f2
  omega
theorem zd9 {x:Int}(h:aL za 5 x=1):zE za x=0∨zE za x=4∨zE za x=5∨zE za x=8:=X9 zjx h (by decide)
theorem zei {x:Int}(h:ZB za x=2):zE za x=0∨zE za x=4∨zE za x=5∨zE za x=8:=by
 unfold ZB at h
 split at h
 ·exact X9 zjb h (by decide)
 ·split at h<;>exact absurd h (by decide)
def Yo(p x:Int):Bool:=
 if zE za x=6 then decide (zE za p=6)
 else if zE za x=0 then((decide (zE za p=5)&&pcD x) || (decide (ZB za x=2)&&decide (ZB za p≠0)&&decide (ZB za p≠2)))
 else false
theorem ziU {p x:Int}(h1:yA za p [] x=true)(h2:Yo p x=false)(pre:List Int):yA za p pre x=true:=by
 unfold yA at h1⊢
 by_cases c1:zE za p=1∧zE za x=2
 ·rw[if_pos c1]at h1;exact absurd h1 (by decide)
 rw[if_neg c1]at h1⊢
 by_cases c2:(QA (zE za p) || QA (zE za x))=true
 ·rw[if_pos c2]
 rw[if_neg c2]at h1⊢
 by_cases c3:Qi (zE za p) (zE za x)=true
 ·rw[if_pos c3]at h1;exact absurd h1 (by decide)
 rw[if_neg c3]at h1⊢
 by_cases c4:zE za x=4∨zE za x=5∨zE za x=8∨zE za p=7
 ·rw[if_pos c4]at h1;exact absurd h1 (by decide)
 rw[if_neg c4]
 unfold Yo at h2
 have hc:uI za (p::pre) x=false:=by
  unfold uI
  split
  ·rename_i hx
   have hb:zE za x=0:=by have:=zei hx;omega
   rw[if_neg (by omega),if_pos hb]at h2
   simp only[Bool.or_eq_false_iff,Bool.and_eq_false_iff,decide_eq_false_iff_not]at h2
   rw[Qe]
   by_cases q:ZB za p=2
   ·rw[if_pos q]
   ·rw[if_neg q,if_pos (by omega)]
  ·rfl
 have hp:uG za p pre x=false:=by
  unfold uG
  split
  ·rename_i hx
   have hb:zE za x=0:=by have:=zd9 hx;omega
   rw[if_neg (by omega),if_pos hb]at h2
   simp only[Bool.or_eq_false_iff,Bool.and_eq_false_iff,decide_eq_false_iff_not,pcD]at h2
   rw[if_neg (by omega)]
  ·rfl
 have hf:vb za (p::pre) x=false:=by
  unfold vb
  split
  ·rename_i hx
   rw[if_pos hx]at h2
   have h2':=of_decide_eq_false h2
   rw[Qk,if_neg h2'];rfl
  ·rfl
 rw[hc,hp,hf];rfl
theorem XT [Gi] {e:PV}(hT:Zl e) {r:Int}(hr:zD r):CR Tryz.prog 193 [] [.p e,.p (.int .i32 r)] [] (is (.p (.int .i64 (zE za r)))):=by
 obtain⟨c,b,j,f,p,h,rfl⟩:=hT
 rw[←JR]
 exact UE h _ _ _ _ Z7 hr
theorem zb0 [Gi] {e:PV}(hT:Zl e) {r:Int}(hr:zD r):CR Tryz.prog 195 [] [.p e,.p (.int .i32 r)] [] (is (.p (.int .i64 (ZB za r)))):=by
 obtain⟨c,b,j,f,p,h,rfl⟩:=hT
 rw[←zds]
 exact zdK h _ _ _ _ Z7 hr
theorem zjq [Gi] {e:PV}(hT:Zl e) {r:Int}(hr:zD r):CR Tryz.prog 194 [] [.p e,.p (.int .i32 r)] [] (is (.p (.bool (pcD r)))):=by
 obtain⟨c,b,j,f,p,h,rfl⟩:=hT
 rw[pcD,←zf8]
 exact zbW h _ _ _ _ Z7 hr
theorem zd3 [Gi] {e:PV}(hT:Zl e) {r:Int}(hr:zD r):CR Tryz.prog 172 [] [.p e,.p (.int .i32 r)] [] (is (.p (.bool (decide (aL za 8 r=1))))):=by
 obtain⟨c,b,j,f,p,h,rfl⟩:=hT
 rw[←zld]
 exact zeP h _ _ _ _ Z7 hr
theorem zby [Gi] {e:PV}(hT:Zl e) {p x:Int}(hp:zD p)(hx:zD x):CR Tryz.prog 200 [] [.p e,.p (.int .i32 p),.p (.int .i32 x)] [] (is (.p (.bool (Yo p x)))):=by
 refine walk Tryz.func200 7 [9,10,16] [] [] ?_
 have b1:=XT hT hp
 have b2:=XT hT hx
 have k1:=zb0 hT hp
 have k2:=zb0 hT hx
 have k3:=zjq hT hx
 unfold Yo
 generalize zE za p=bp at b1
 generalize zE za x=bx at b2
 generalize ZB za p=cp at k1
 generalize ZB za x=cx at k2
 generalize pcD x=px at k3
 simp (maxSteps:=1000000) [go_sem,Tryz.f200]
 refine zn b2 ?_
 by_cases c1:bx=6
 ·simp (maxSteps:=1000000) [go_sem,c1]
  refine zn b1 ?_
  simp (maxSteps:=1000000) [go_sem]
  exact ret
 by_cases c2:bx=0
 ·simp (maxSteps:=1000000) [go_sem,c2]
  refine zn b1 ?_
  by_cases c3:bp=5
  ·simp (maxSteps:=1000000) [go_sem,c3]
   refine zn k3 ?_
   cases px with
   |true=>
    simp (maxSteps:=1000000) [go_sem]
    exact ret
   |false=>
    simp (maxSteps:=1000000) [go_sem]
    refine zn k2 ?_
    by_cases c4:cx=2
    ·simp (maxSteps:=1000000) [go_sem,c4]
     refine zn k1 ?_
     by_cases c5:cp=0
     ·simp (maxSteps:=1000000) [go_sem,c5]
      exact ret
     ·simp (maxSteps:=1000000) [go_sem,c5]
      refine zn k1 ?_
      simp (maxSteps:=1000000) [go_sem]
      exact ret
    ·simp (maxSteps:=1000000) [go_sem,c4]
     exact ret
  ·simp (maxSteps:=1000000) [go_sem,c3]
   refine zn k2 ?_
   by_cases c4:cx=2
   ·simp (maxSteps:=1000000) [go_sem,c4]
    refine zn k1 ?_
    by_cases c5:cp=0
    ·simp (maxSteps:=1000000) [go_sem,c5]
     exact ret
    ·simp (maxSteps:=1000000) [go_sem,c5]
     refine zn k1 ?_
     simp (maxSteps:=1000000) [go_sem]
     exact ret
   ·simp (maxSteps:=1000000) [go_sem,c4]
    exact ret
 ·simp (maxSteps:=1000000) [go_sem,c1,c2]
  exact ret
theorem va [Gi] {e:PV}(hT:Zl e) {l:List Int} {L:List (List Int)}(h:Ln l L) {k:Nat}(hk:k<L.length):CR Tryz.prog 136 [] [.p e,.p (zh l),.p (.int .i64 (plc L k:Nat))] [] (is (.p (.int .i64 (plc L (k+1):Nat)))):=by
 have hlt:plc L k<l.length:=by have:=ZG h.cl hk (Nat.le_refl _);rw[qF,h.sum]at this;exact this
 obtain⟨c,b,j,f,p,hv,rfl⟩:=hT
 have hd:=List.drop_eq_getElem_cons hlt
 have:=zkk hv Z7 (ckP M0.1) (cxP M0.1) (ZD M0.2) (qe M0.2) l h.n h.r (plc L k) l[plc L k] _ hd
 have hb:Beg (l.take (plc L k)).reverse l[plc L k]:=by
  by_cases c0:plc L k=0
  ·left;simp[c0]
  ·obtain⟨i,hi⟩:∃i,plc L k=i+1:=⟨plc L k-1,by omega⟩
   have hb:=Vh l L h.eq h.cl i (by omega)
   have hb2:isB L ((i+1:Nat):Int)=true:=by rw[←hi];exact zat h.cl (by omega)
   rw[hb2]at hb
   refine .inr ⟨l[i]'(by omega),(l.take i).reverse,?_,?_⟩
   ·rw[hi];exact ux (by omega)
   ·simp only[hi];exact hb
 have e:kK T0 (q9 T0 Qo l[plc L k]).1 (l.drop (plc L k+1))=QW za l[plc L k] (l.take (plc L k)).reverse (l.drop (plc L k+1)):=by
  rw[yz]
  exact zbj _ _ _ _ (VF.start hb)
 rw[e,JI l _ hlt,←h.eq,VO h.cl (by omega)]at this
 exact this
theorem zjA [Gi](e:PV)(l:List Int):CR Tryz.prog 136 [] [.p e,.p (zh l),.p (.int .i64 (l.length:Nat))] [] (is (.p (.int .i64 (l.length:Nat)))):=by
 refine walk Tryz.func136 11 [] [200007] [] ?_
 have g1:¬(l.length:Int)<0:=by omega
 simp (maxSteps:=1000000) [go_sem,Tryz.f136,g1]
 exact ret
end Go.Proofs.YthbmelihnabkaaaGreat
end
section
namespace Go.Proofs.YthbmelihnabkaaaGreat
open Go.AM
set_option maxHeartbeats 1000000
set_option maxRecDepth 10000
attribute [local irreducible] za
theorem X0(t:zQ):∀(xs ys:List Int) (s:yQ) (m:Nat),kK t s xs<m→m≤xs.length→xs.take m=ys.take m→kK t s ys=kK t s xs
 |xs,ys,_,0,h,_,_=>absurd h (Nat.not_lt_zero _)
 | [],_,_,m+1,_,h,_=>by simp at h
 |x::xs,[],_,m+1,_,_,h=>by simp at h
 |x::xs,y::ys,s,m+1,h1,h2,h3=>by
  simp only[List.take_succ_cons,List.cons.injEq]at h3
  obtain⟨rfl,h3⟩:=h3
  unfold kK at h1⊢
  split
  ·rfl
  ·rename_i hc
   rw[if_neg hc]at h1
   rw[X0 t xs ys _ m (by omega) (by simpa using h2) h3]
theorem XU(t:zQ):∀(k:Nat) (l l':List Int) (n:Nat),plc (jO t l) k<n→k≤(jO t l).length→n≤l.length→l.take n=l'.take n→(jO t l').take k=(jO t l).take k
 |0,_,_,_,_,_,_,_=>by simp
 |k+1,[],_,_,_,h,_,_=>by simp[jO,xi]at h
 |k+1,x::xs,l',n,h1,h2,h3,h4=>by
  rw[Wd]at h1 h2⊢
  obtain⟨r,hr⟩:∃r,r=kK t (q9 t Qo x).1 xs:=⟨_,rfl⟩
  have hrl:=za5 t xs (q9 t Qo x).1
  rw[←hr]at h1 h2 hrl⊢
  rw[kh]at h1
  simp only[List.length_cons,List.length_take]at h1 h2 h3
  obtain⟨n,rfl⟩:∃n',n=n'+1:=⟨n-1,by omega⟩
  cases l' with
  |nil=>simp at h4
  |cons y ys=>
   simp only[List.take_succ_cons,List.cons.injEq]at h4
   obtain⟨rfl,h4⟩:=h4
   have er:kK t (q9 t Qo x).1 ys=r:=by rw[hr];exact X0 t xs ys _ n (by rw[←hr];omega) (by omega) h4
   have e1:ys.take r=xs.take r:=by
    have:=congrArg (List.take r) h4
    rw[List.take_take,List.take_take,Nat.min_eq_left (by omega)]at this
    exact this.symm
   have e2:(xs.drop r).take (n-r)=(ys.drop r).take (n-r):=by
    have:=congrArg (List.drop r) h4
    rw[List.drop_take,List.drop_take]at this
    exact this
   rw[Wd,er,e1,List.take_succ_cons,List.take_succ_cons]
   congr 1
   exact XU t k _ _ (n-r) (by omega) (by omega) (by rw[List.length_drop];omega) e2
theorem V8(t:zQ):∀(k:Nat) (l:List Int),k≤(jO t l).length→jO t (l.drop (plc (jO t l) k))=(jO t l).drop k
 |0,l,_=>by rw[Zr];simp
 |k+1,[],h=>by simp[jO,xi]at h
 |k+1,x::xs,h=>by
  rw[Wd]at h⊢
  obtain⟨r,hr⟩:∃r,r=kK t (q9 t Qo x).1 xs:=⟨_,rfl⟩
  have hrl:=za5 t xs (q9 t Qo x).1
  rw[←hr]at h hrl⊢
  have e:(x::xs.take r).length=r+1:=by rw[List.length_cons,List.length_take];omega
  rw[kh,e,List.drop_succ_cons]
  have e2:(x::xs).drop (r+1+plc (jO t (xs.drop r)) k)=(xs.drop r).drop (plc (jO t (xs.drop r)) k):=by
   have:r+1+plc (jO t (xs.drop r)) k=(r+plc (jO t (xs.drop r)) k)+1:=by omega
   rw[this,List.drop_succ_cons,List.drop_drop]
  rw[e2]
  exact V8 t k (xs.drop r) (by simpa using h)
theorem zbH(L:List (List Int))(i d:Nat):plc L (i+d)=plc L i+plc (L.drop i) d:=by
 unfold plc Zd
 rw[List.take_add,List.map_append,List.sum_append]
theorem zem {l l':List Int} {L L':List (List Int)}(hL:L=z8 za l)(hL':L'=z8 za l') {b k:Nat}(hb:b≤l.length)(hs:l.take b=l'.take b)(hk:k≤L.length)(hp:k=0∨plc L k<b):L'.take k=L.take k:=by
 rcases hp with rfl|hp
 ·simp
 ·subst hL;subst hL'
  rw[←Vl,←Vl]at*
  exact XU T0 k l l' b hp hk hb hs
theorem zhe {l l':List Int} {L L':List (List Int)}(hL:L=z8 za l)(hL':L'=z8 za l') {i j:Nat}(hi:i≤L'.length)(hj:j≤L.length)(hs:l.drop (plc L j)=l'.drop (plc L' i)):L'.drop i=L.drop j:=by
 subst hL;subst hL'
 rw[←Vl]at*
 rw[←Vl]at*
 rw[←V8 T0 i l' hi,←V8 T0 j l hj,hs]
end Go.Proofs.YthbmelihnabkaaaGreat
end
