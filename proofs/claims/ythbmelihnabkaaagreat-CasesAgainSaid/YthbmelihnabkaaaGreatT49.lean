/- A part of the proof of this seat's statements, by an abstract machine: what each operation does to values, and what the law's functions compute. Conditions: as each law says. -/
import Derived.Test.YthbmelihnabkaaaGreatT48
import Derived.Test.YthbmelihnabkaaaGreatT42
section
namespace Go.Proofs.YthbmelihnabkaaaGreat
open Go.AM
set_option maxHeartbeats 4000000
set_option maxRecDepth 10000
attribute [local irreducible] za
theorem Ut [Gi] {e:PV}(hT:Zl e) {l:List Int} {L:List (List Int)}(h:Ln l L)(a:Int):CR Tryz.prog 132 [] [.p e,.p (zh l),.p (.int .i64 a)] [] (is (.p (.int .i64 (plc L (kf L a):Nat)))):=by
 refine VD 9 [] Tryz.func132 rfl [] rfl (by simp) (by simp) ?_
 have hs:=h.sum
 have hcl:=h.cl
 have hln:=h.n
 refine Sem.kJ [] mixed ?_
 simp (maxSteps:=1000000) [go_sem,Tryz.f132]
 refine Sem.scope ?_
 refine Sem.kJ [] mixed ?_
 by_cases c1:a≤0
 ·have e1:plc L (kf L a)=0:=by
   by_cases c0:a<0
   ·rw[zar L c0,Zr]
   ·have:=vK L a (by omega);omega
  rw[e1]
  simp (maxSteps:=1000000) [go_sem,c1]
  exact ret
 by_cases c2:(l.length:Int)≤a
 ·rw[zbm hcl (by omega),qF,hs]
  simp (maxSteps:=1000000) [go_sem,c1,c2]
  exact ret
 obtain⟨n,rfl⟩:∃n:Nat,a=n:=⟨a.toNat,by omega⟩
 simp (maxSteps:=1000000) [go_sem]
 have c1':¬n=0:=by omega
 have c2':¬l.length≤n:=by omega
 simp (maxSteps:=1000000) [go_sem,c1',c2']
 refine Sem.kJ [] mixed ?_
 simp (maxSteps:=1000000) [go_sem]
 refine call [] (zk1 hT h n (by omega)) ?_
 rintro _ _ ⟨k0,⟨k1,k2,rfl⟩,rfl⟩
 simp (maxSteps:=1000000) [go_sem]
 refine Sem.label (Sem.kJ [] mixed ?_)
 simp (maxSteps:=1000000) [go_sem]
 obtain⟨N,hN⟩:∃N,N=kf L (n:Nat):=⟨_,rfl⟩
 rw[←hN]
 refine loop (fun k:Nat=>k<L.length∧plc L k≤n) (fun k=>[(7,.p (.int .i64 (plc L k:Nat))),(8,.zX)]) (fun _=>[]) (fun k=>L.length-k) k0 ⟨k1,k2⟩ (fun k hk=>?_)
 obtain⟨h1,h2⟩:=hk
 have hlt:=xh hcl h1
 by_cases c3:plc L k<n
 ·have c3':(plc L k:Int)<n:=by omega
  have hX:=va hT h h1
  simp (maxSteps:=1000000) [go_sem,c3']
  refine zn hX ?_
  by_cases c4:n<plc L (k+1)
  ·have c4':(n:Int)<plc L (k+1):=by omega
   have e1:N=k:=by rw[hN];exact Vd hcl (by omega) (by omega) (fun _=>by omega)
   rw[e1]
   simp (maxSteps:=1000000) [go_sem,c4']
   refine Sem.of [] mixed ?_
   simp (maxSteps:=1000000) [go_sem]
   exact ret
  ·have c4':¬(n:Int)<plc L (k+1):=by omega
   have k3:k+1<L.length:=by
    refine Nat.lt_of_le_of_ne (by omega) (fun e=>?_)
    rw[e,qF]at c4;omega
   simp (maxSteps:=1000000) [go_sem,c4']
   exact next (k+1) ⟨k3,by omega⟩ (by omega)
 ·have c3':¬(plc L k:Int)<n:=by omega
  have e1:N=k:=by rw[hN];exact Vd hcl (by omega) (by omega) (fun _=>by omega)
  rw[e1]
  simp (maxSteps:=1000000) [go_sem,c3']
  refine Sem.of [] mixed ?_
  simp (maxSteps:=1000000) [go_sem]
  exact ret
theorem zj4 [Gi] {e:PV}(hT:Zl e) {l:List Int} {L:List (List Int)}(h:Ln l L) {k:Nat}(hk:k<L.length):CR Tryz.prog 133 [] [.p e,.p (zh l),.p (.int .i64 (plc L (k+1):Nat))] [] (is (.p (.int .i64 (plc L k:Nat)))):=by
 refine walk Tryz.func133 7 [] [] [] ?_
 have hs:=h.sum
 have hln:=h.n
 have h1:=xh h.cl hk
 have h2:=yY h.cl (k:=k+1) hk
 have hf:=Ut hT h ((plc L (k+1):Int)-1)
 rw[Vd h.cl (k:=k) (by omega) (by omega) (fun _=>by omega)]at hf
 have w1:IntKind.i64.wrap ((l.length:Int)+1)=(l.length:Int)+1:=wrap64 (by omega) (by omega)
 have w2:max (min (plc L (k+1):Int) ((l.length:Int)+1)) 0=plc L (k+1):=by omega
 have w3:IntKind.i64.wrap ((plc L (k+1):Int)-1)=(plc L (k+1):Int)-1:=wrap64 (by omega) (by omega)
 simp (maxSteps:=1000000) [go_sem,Tryz.f133,w1,w2,w3]
 refine zn hf ?_
 simp (maxSteps:=1000000) [go_sem]
 exact ret
theorem zfy(L:List (List Int))(a:Int):cnt (pl L) a≤L.length:=by have:=Ur (pl L) a;rwa[qq]at this
theorem zjD [Gi] {e:PV}(hT:Zl e) {l:List Int} {L:List (List Int)}(h:Ln l L)(a:Int):CR Tryz.prog 135 [] [.p e,.p (zh l),.p (.int .i64 a)] [] (is (.p (.int .i64 (plc L (cnt (pl L) a):Nat)))):=by
 refine walk Tryz.func135 8 [] [] [] ?_
 have hs:=h.sum
 have q3:=yp L a
 have hF:=Ut hT h a
 by_cases c1:a≤(plc L (kf L a):Int)
 ·rw[XX h.cl c1]
  simp (maxSteps:=1000000) [go_sem,Tryz.f135]
  refine zn hF ?_
  simp (maxSteps:=1000000) [go_sem,c1]
  exact ret
 ·by_cases c2:kf L a<L.length
  ·rw[zcJ h.cl (by omega) c2]
   simp (maxSteps:=1000000) [go_sem,Tryz.f135]
   refine zn hF ?_
   simp (maxSteps:=1000000) [go_sem,c1]
   refine zn (va hT h c2) ?_
   simp (maxSteps:=1000000) [go_sem]
   exact ret
  ·have e1:kf L a=L.length:=by omega
   rw[e1,qF,hs]at c1 hF
   rw[zgh h.cl (by omega),qF,hs]
   simp (maxSteps:=1000000) [go_sem,Tryz.f135]
   refine zn hF ?_
   simp (maxSteps:=1000000) [go_sem,c1]
   refine zn (zjA e l) ?_
   simp (maxSteps:=1000000) [go_sem]
   exact ret
theorem zgj {l:List Int} {L:List (List Int)}(h:Ln l L) {k:Nat}(hk:k<L.length):∃x,l[plc L k]?=some x∧(L[k]?.getD [])[0]?.getD 0=x∧zD x:=by
 obtain⟨x,c',e,hx⟩:=h.cl.full.r L[k] (List.getElem_mem hk)
 refine⟨x,?_,by rw[List.getElem?_eq_getElem hk];simp[e],hx⟩
 have e1:l=(L.take k).flatten++(L[k]++(L.drop (k+1)).flatten):=by
  have:=congrArg List.flatten (List.take_append_drop k L)
  rw[List.drop_eq_getElem_cons hk,List.flatten_append,List.flatten_cons,h.flat]at this
  exact this.symm
 have e2:plc L k=(L.take k).flatten.length:=by rw[yj];rfl
 rw[e1,e2,List.getElem?_append_right (Nat.le_refl _),e]
 simp
theorem V9 [Gi] {e:PV}(hT:Zl e) {l:List Int} {L:List (List Int)}(h:Ln l L) {k:Nat}(hk:k<L.length):CR Tryz.prog 134 [] [.p e,.p (zh l),.p (.int .i64 (plc L k:Nat))] [] (is (.p (.bool (QX L k)))):=by
 refine walk Tryz.func134 7 [] [] [] ?_
 obtain⟨x,x1,x2,hx⟩:=zgj h hk
 have hlt:plc L k<l.length:=(List.getElem?_eq_some_iff.1 x1).1
 have em:elemAt (zx l) (plc L k)=.int .i32 x:=by rw[Qn hlt,(List.getElem?_eq_some_iff.1 x1).2]
 have e1:QX L k=decide (aL za 8 x=1):=by rw[QX,x2]
 have g:(plc L k:Int)<l.length:=by omega
 rw[e1]
 simp (maxSteps:=1000000) [go_sem,Tryz.f134,g,em]
 refine zn (zd3 hT hx) ?_
 simp (maxSteps:=1000000) [go_sem]
 exact ret
theorem Jb [Gi](e:PV)(l:List Int):CR Tryz.prog 134 [] [.p e,.p (zh l),.p (.int .i64 (l.length:Nat))] [] (is (.p (.bool false))):=by
 refine walk Tryz.func134 7 [] [] [] ?_
 have em:elemAt (zx l) l.length=.int .i8 0:=by
  unfold elemAt
  rw[List.getD_eq_getElem?_getD,List.getElem?_eq_none (by rw[zB];omega)];rfl
 simp (maxSteps:=1000000) [go_sem,Tryz.f134,em]
 exact ret
def wW(L:List (List Int))(k:Nat):Nat:=fwW L true (L.length-fwW L false (L.length-k) k) (fwW L false (L.length-k) k)
def YF(L:List (List Int))(k:Nat):Nat:=bkW L true (bkW L false k)
theorem Vs(L:List (List Int))(q:Bool)(p:Nat):bkW L q (p+1)=if QX L p=q then bkW L q p else p+1:=rfl
theorem WB(L:List (List Int))(q:Bool) {p:Nat}(h:p<L.length):fwW L q (L.length-p) p=if QX L p=q then fwW L q (L.length- (p+1)) (p+1)else p:=by
 have:L.length-p=(L.length- (p+1))+1:=by omega
 rw[this];rfl
theorem ui(L:List (List Int))(q:Bool):fwW L q (L.length-L.length) L.length=L.length:=by rw[Nat.sub_self];rfl
theorem UG [Gi] {e:PV}(hT:Zl e) {l:List Int} {L:List (List Int)}(h:Ln l L)(a:Int):CR Tryz.prog 79 [] [.p e,.p (zh l),.p (.int .i64 a)] [] (is (.p (.int .i64 (plc L (YF L (kf L a)):Nat)))):=by
 refine walk Tryz.func79 10 [] [] [] ?_
 have hcl:=h.cl
 obtain⟨R,hR⟩:∃R,R=YF L (kf L a):=⟨_,rfl⟩
 have q3:=yp L a
 rw[←hR]
 simp (maxSteps:=1000000) [go_sem,Tryz.f79]
 refine zn (Ut hT h a) ?_
 simp (maxSteps:=1000000) [go_sem]
 refine loop (fun r:Nat×Bool=>r.1≤L.length∧R=bkW L true (if r.2 then r.1 else bkW L false r.1)) (fun r=>[(2,.p (.int .i64 (plc L r.1:Nat))),(7,.p (.bool r.2)),(8,.zX),(9,.zX)]) (fun _=>[]) (fun r=>r.1) (kf L a,false) ⟨q3,by rw[hR];rfl⟩ (fun r hr=>?_)
 obtain⟨k,b⟩:=r
 obtain⟨h1,h2⟩:=hr
 simp only at h1 h2
 by_cases c0:k=0
 ·subst c0
  have e1:R=0:=by rw[h2];cases b<;>rfl
  rw[e1]
  simp (maxSteps:=1000000) [go_sem,Zr]
  exact ret
 ·obtain⟨p,rfl⟩:∃p,k=p+1:=⟨k-1,by omega⟩
  have hp:p<L.length:=by omega
  have g1:=xh hcl hp
  have g2:(0:Int)<plc L (p+1):=by omega
  have g3:0<plc L (p+1):=by omega
  have hI:=V9 hT h hp
  rw[Vs]at h2
  simp (maxSteps:=1000000) [go_sem,g3]
  refine zn (zj4 hT h hp) ?_
  simp (maxSteps:=1000000) [go_sem]
  refine zn hI ?_
  cases hb:QX L p with
  |true=>
   rw[hb]at h2
   cases b with
   |true=>
    simp (maxSteps:=1000000) [go_sem]
    exact next (p,true) ⟨by show p≤L.length;omega,by rw[h2];simp[Vs,hb]⟩ (by show p<p+1;omega)
   |false=>
    simp (maxSteps:=1000000) [go_sem]
    exact next (p,true) ⟨by show p≤L.length;omega,by rw[h2];simp[Vs,hb]⟩ (by show p<p+1;omega)
  |false=>
   rw[hb]at h2
   cases b with
   |true=>
    have e1:R=p+1:=by rw[h2];simp[Vs,hb]
    rw[e1]
    simp (maxSteps:=1000000) [go_sem]
    exact ret
   |false=>
    simp (maxSteps:=1000000) [go_sem]
    exact next (p,false) ⟨by show p≤L.length;omega,by rw[h2];simp⟩ (by show p<p+1;omega)
end Go.Proofs.YthbmelihnabkaaaGreat
end
section
namespace Go.Proofs.YthbmelihnabkaaaGreat
open Go.AM
set_option maxHeartbeats 4000000
set_option maxRecDepth 10000
attribute [local irreducible] za
theorem XY [Gi] {e:PV}(hT:Zl e) {l:List Int} {L:List (List Int)}(h:Ln l L)(a:Int):CR Tryz.prog 80 [] [.p e,.p (zh l),.p (.int .i64 a)] [] (is (.p (.int .i64 (plc L (wW L (cnt (pl L) a)):Nat)))):=by
 refine VD 7 [] Tryz.func80 rfl [] rfl (by simp) (by simp) ?_
 have hs:=h.sum
 have hcl:=h.cl
 have hc:=zfy L a
 obtain⟨N,hN⟩:∃N,N=wW L (cnt (pl L) a):=⟨_,rfl⟩
 rw[←hN]
 refine Sem.kJ [] mixed ?_
 simp (maxSteps:=1000000) [go_sem,Tryz.f80]
 refine Sem.zmJ (ι:=Nat) 0 (fun k=>k≤L.length∧N=wW L k) (fun k=>{n:=35,nv:=7,vs:=[(0,.p e),(1,.p (.sl 1 (zx l))),(2,.p (.int .i64 (plc L k:Nat))),(6,.p (.int .i64 0))],ts:=[],rs:=[]}) (fun k=>L.length-k) rfl (fun hr=>?_) (fun k hk=>?_)
 ·refine Sem.kJ [] mixed ?_
  simp (maxSteps:=1000000) [go_sem]
  refine zn (zjD hT h a) ?_
  simp (maxSteps:=1000000) [go_sem]
  exact Sem.label (Sem.clean (hr (cnt (pl L) a) ⟨hc,hN⟩))
 ·obtain⟨h1,h2⟩:=hk
  by_cases c1:k<L.length
  ·have g1:=ZG hcl c1 (Nat.le_refl _)
   rw[qF,hs]at g1
   have g2:(plc L k:Int)<l.length:=by omega
   have hI:=V9 hT h c1
   refine Sem.seq (Sem.kJ [] mixed ?_)
   simp (maxSteps:=1000000) [go_sem,g2]
   refine zn hI ?_
   cases hb:QX L k with
   |false=>
    simp (maxSteps:=1000000) [go_sem]
    refine Sem.cond true rfl ?_
    refine Sem.kJ [] mixed ?_
    simp (maxSteps:=1000000) [go_sem]
    refine zn (va hT h c1) ?_
    simp (maxSteps:=1000000) [go_sem]
    refine Sem.goto ?_
    refine zeJ (k+1) ⟨⟨c1,?_⟩,?_⟩ ?_
    ·rw[h2,wW,WB L false c1,if_pos hb];rfl
    ·show L.length- (k+1)<L.length-k;omega
    ·simp[go_sem,LeS,leV,leR,leA]
   |true=>
    have e1:N=fwW L true (L.length-k) k:=by rw[h2,wW,WB L false c1,if_neg (by rw[hb];decide)]
    simp (maxSteps:=1000000) [go_sem]
    refine Sem.cond false rfl (Sem.skip ?_)
    simp (maxSteps:=1000000) [go_sem]
    refine Sem.of [] mixed ?_
    simp (maxSteps:=1000000) [go_sem]
    refine loop (fun k:Nat=>k≤L.length∧N=fwW L true (L.length-k) k) (fun k=>[(2,.p (.int .i64 (plc L k:Nat)))]) (fun _=>[]) (fun k=>L.length-k) k ⟨h1,e1⟩ (fun k hk=>?_)
    obtain⟨h1,h2⟩:=hk
    by_cases c1:k<L.length
    ·have hI:=V9 hT h c1
     simp (maxSteps:=1000000) [go_sem]
     refine zn hI ?_
     cases hb:QX L k with
     |false=>
      have e1:N=k:=by rw[h2,WB L true c1,if_neg (by rw[hb];decide)]
      rw[e1]
      simp (maxSteps:=1000000) [go_sem]
      exact ret
     |true=>
      simp (maxSteps:=1000000) [go_sem]
      refine zn (va hT h c1) ?_
      simp (maxSteps:=1000000) [go_sem]
      exact next (k+1) ⟨c1,by rw[h2,WB L true c1,if_pos hb]⟩ (by omega)
    ·obtain rfl:k=L.length:=by omega
     have hZ:=Jb e l
     rw[←hs,←qF]at hZ
     rw[ui]at h2
     rw[h2]
     simp (maxSteps:=1000000) [go_sem]
     refine zn hZ ?_
     simp (maxSteps:=1000000) [go_sem]
     exact ret
  ·obtain rfl:k=L.length:=by omega
   have e1:N=L.length:=by rw[h2,wW,ui,ui]
   have g1:¬plc L L.length<l.length:=by rw[qF,hs];omega
   have g2:¬(plc L L.length:Int)<l.length:=by omega
   have hZ:=Jb e l
   have em:elemAt (zx l) (plc L L.length)=.int .i8 0:=by
    unfold elemAt
    rw[List.getD_eq_getElem?_getD,List.getElem?_eq_none (by rw[zB];omega)];rfl
   rw[←hs,←qF]at hZ
   rw[e1]
   refine Sem.seq (Sem.kJ [] mixed ?_)
   simp (maxSteps:=1000000) [go_sem,g2]
   refine Sem.cond false rfl (Sem.skip ?_)
   simp (maxSteps:=1000000) [go_sem]
   refine Sem.of [] mixed ?_
   simp (maxSteps:=1000000) [go_sem]
   refine loop (fun _:Unit=>True) (fun _=>[]) (fun _=>[]) (fun _=>0) () trivial (fun _ _=>?_)
   simp (maxSteps:=1000000) [go_sem]
   refine zn hZ ?_
   simp (maxSteps:=1000000) [go_sem]
   exact ret
def zf7:OT:=.now 0 2 (.now 1 2 (.now 2 2 (.now 4 0 (.now 5 0 (.now 6 0 (.now 7 0 (.now 9 2 (.mk [(3,.mk [(8,.mk [(10,.now 11 0 (.mk []))])]),(8,.now 3 0 (.mk [(10,.now 11 0 (.mk []))]))]))))))))
def zcB(L:List (List Int))(a n:Int):Nat:=if n<0 then YF L (kf L a)else if n=0 then kf L a else wW L (cnt (pl L) a)
theorem zjk [Gi] {e:PV}(hT:Zl e) {x:Tx} {L:List (List Int)}(h:yd x L)(hl:Ln L.flatten L)(a n:Int):CR Tryz.prog 31 txT [.lp [0] 0,.p (.int .i64 a),.p (.int .i64 n)] (txR e x L) (keeps (txR e x L) (.int .i64 (plc L (zcB L a n):Nat))):=by
 refine Yr Tryz.func31 7 [] [200004,200007] [] ?_
 have hA:=xI x.g x.f x.t h.ft h.tl h.n
 obtain⟨z,y,rfl⟩:=ym hT
 unfold zcB
 by_cases c1:n<0
 ·rw[if_pos c1]
  simp (maxSteps:=1000000) [go_sem,Tryz.f31,c1]
  refine Zc zf7 (by kernel_rfl) ?_
  simp (maxSteps:=1000000) [go_sem,zf7]
  constructor
  ·refine call W7 hA ?_
   rintro _ _ ⟨rfl,rfl⟩
   rw[h.held]
   simp (maxSteps:=1000000) [go_sem]
   refine zn (UG hT hl a) ?_
   simp (maxSteps:=1000000) [go_sem]
   exact KT
  ·refine call W7 hA ?_
   rintro _ _ ⟨rfl,rfl⟩
   rw[h.held]
   simp (maxSteps:=1000000) [go_sem]
   refine zn (UG hT hl a) ?_
   simp (maxSteps:=1000000) [go_sem]
   exact KT
 ·rw[if_neg c1]
  by_cases c2:n=0
  ·rw[if_pos c2]
   simp (maxSteps:=1000000) [go_sem,Tryz.f31,c2]
   refine zn (QV h.cl a) ?_
   simp (maxSteps:=1000000) [go_sem]
   exact KT
  ·rw[if_neg c2]
   simp (maxSteps:=1000000) [go_sem,Tryz.f31,c1,c2]
   refine Zc zf7 (by kernel_rfl) ?_
   simp (maxSteps:=1000000) [go_sem,zf7]
   constructor
   ·refine call W7 hA ?_
    rintro _ _ ⟨rfl,rfl⟩
    rw[h.held]
    simp (maxSteps:=1000000) [go_sem]
    refine zn (XY hT hl a) ?_
    simp (maxSteps:=1000000) [go_sem]
    exact KT
   ·refine call W7 hA ?_
    rintro _ _ ⟨rfl,rfl⟩
    rw[h.held]
    simp (maxSteps:=1000000) [go_sem]
    refine zn (XY hT hl a) ?_
    simp (maxSteps:=1000000) [go_sem]
    exact KT
end Go.Proofs.YthbmelihnabkaaaGreat
end
section
namespace Go.Proofs.YthbmelihnabkaaaGreat
open Go.AM
set_option maxHeartbeats 4000000
set_option maxRecDepth 10000
attribute [local irreducible] za
theorem zcY(L:List (List Int)):wW L L.length=L.length:=by rw[wW,ui,ui]
def zoS:List (Tok×Tok):=[([0],[0]),([0,1],[0,1]),([0,2],[0,2])]
attribute [go_sem] zoS
end Go.Proofs.YthbmelihnabkaaaGreat
end
section
namespace Go.Proofs.YthbmelihnabkaaaGreat
open Go.AM
set_option maxHeartbeats 4000000
set_option maxRecDepth 10000
attribute [local irreducible] za
theorem zmM [Gi] {l:List Int} {L:List (List Int)}(h:Ln l L) {k:Nat}(hk:k<L.length):CR Tryz.prog 131 [] [.p (zI za),.p (zh l),.p (.int .i64 (plc L k:Nat))] [] (is (.p (.bool (QX L k)))):=by
 refine walk Tryz.func131 7 [] [] [] ?_
 obtain⟨x,x1,x2,hx⟩:=zgj h hk
 have hlt:plc L k<l.length:=(List.getElem?_eq_some_iff.1 x1).1
 have em:elemAt (zx l) (plc L k)=.int .i32 x:=by rw[Qn hlt,(List.getElem?_eq_some_iff.1 x1).2]
 have e1:QX L k=decide (aL za 8 x=1):=by rw[QX,x2]
 have g:(plc L k:Int)<l.length:=by omega
 have g0:(0:Int)≤plc L k:=by omega
 have hb:CR Tryz.prog 75 [] [.p (zI za),.p (zh l),.p (.int .i64 (plc L k:Nat))] [] (is (.p (.bool true))):=by
  by_cases c:plc L k=0
  ·rw[c];exact Wj l
  ·obtain⟨m,hm⟩:∃m,plc L k=m+1:=⟨plc L k-1,by omega⟩
   have hb:=ue yS l (plc L k) m hm hlt h.n h.r
   have hb2:=Vh l L h.eq h.cl m (by omega)
   have hb3:isB L ((m+1:Nat):Int)=true:=by rw[←hm];exact zat h.cl (by omega)
   rw[hb3]at hb2
   simp only[hm]at hb⊢
   rw[hb2]at hb
   exact hb
 rw[e1]
 simp (maxSteps:=1000000) [go_sem,Tryz.f131,g,g0,em]
 refine zn hb ?_
 simp (maxSteps:=1000000) [go_sem,em,g]
 refine zn (xq za 8 x zl5 hx) ?_
 simp (maxSteps:=1000000) [go_sem]
 exact ret
structure qJ(L:List (List Int))(k:Nat)(o:List (Nat×Nat)):Prop where
 seg:∀w∈o,w.1<w.2∧w.2≤k∧(∀i,w.1≤i→i<w.2→QX L i=true)∧(w.1=0∨QX L (w.1-1)=false)∧(w.2=k∨QX L w.2=false)
 all:∀i,i<k→QX L i=true→∃w∈o,w.1≤i∧i<w.2
 ord:o.Pairwise fun v w=>v.2<w.1
theorem qJ.nil(L:List (List Int)):qJ L 0 []:=⟨by simp,fun i hi=>by omega,by simp⟩
theorem qJ.skip {L:List (List Int)} {k:Nat} {o:List (Nat×Nat)}(h:qJ L k o)(hk:QX L k=false):qJ L (k+1) o:=by
 refine⟨fun w hw=>?_,fun i hi hl=>?_,h.ord⟩
 ·obtain⟨a,b,c,d,e⟩:=h.seg w hw
  refine⟨a,by omega,c,d,.inr ?_⟩
  rcases e with e|e
  ·rw[e];exact hk
  ·exact e
 ·by_cases c:i=k
  ·subst c;rw[hk]at hl;exact absurd hl (by decide)
  ·exact h.all i (by omega) hl
theorem qJ.more {L:List (List Int)} {k b:Nat} {o:List (Nat×Nat)}(h:qJ L k (o++[(b,k)]))(hk:QX L k=true):qJ L (k+1) (o++[(b,k+1)]):=by
 have hb:=h.seg (b,k) (by simp)
 simp only at hb
 have ho:=List.pairwise_append.1 h.ord
 refine⟨fun w hw=>?_,fun i hi hl=>?_,?_⟩
 ·rcases List.mem_append.1 hw with hw|hw
  ·obtain⟨a1,a2,a3,a4,a5⟩:=h.seg w (List.mem_append_left _ hw)
   have:=ho.2.2 w hw (b,k) (by simp)
   simp only at this
   exact⟨a1,by omega,a3,a4,.inr (a5.resolve_left (by omega))⟩
  ·obtain rfl:=List.mem_singleton.1 hw
   refine⟨by show b<k+1;omega,Nat.le_refl _,fun i h1 h2=>?_,hb.2.2.2.1,.inl rfl⟩
   simp only at h1 h2
   by_cases c:i=k
   ·subst c;exact hk
   ·exact hb.2.2.1 i h1 (by omega)
 ·by_cases c:i=k
  ·subst c;exact⟨(b,i+1),by simp,by show b≤i;omega,by show i<i+1;omega⟩
  ·obtain⟨w,hw,h1,h2⟩:=h.all i (by omega) hl
   rcases List.mem_append.1 hw with hw|hw
   ·exact⟨w,List.mem_append_left _ hw,h1,h2⟩
   ·obtain rfl:=List.mem_singleton.1 hw
    simp only at h1 h2
    exact⟨(b,k+1),by simp,h1,by show i<k+1;omega⟩
 ·rw[List.pairwise_append]
  refine⟨ho.1,by simp,fun v hv w hw=>?_⟩
  obtain rfl:=List.mem_singleton.1 hw
  exact ho.2.2 v hv (b,k) (by simp)
theorem qJ.push {L:List (List Int)} {k:Nat} {o:List (Nat×Nat)}(h:qJ L k o)(hk:QX L k=true)(hn:∀w∈o,w.2≠k):qJ L (k+1) (o++[(k,k+1)]):=by
 refine⟨fun w hw=>?_,fun i hi hl=>?_,?_⟩
 ·rcases List.mem_append.1 hw with hw|hw
  ·obtain⟨a1,a2,a3,a4,a5⟩:=h.seg w hw
   exact⟨a1,by omega,a3,a4,.inr (a5.resolve_left (hn w hw))⟩
  ·obtain rfl:=List.mem_singleton.1 hw
   refine⟨Nat.lt_succ_self k,Nat.le_refl _,fun i h1 h2=>?_,?_,.inl rfl⟩
   ·simp only at h1 h2
    obtain rfl:i=k:=by omega
    exact hk
   ·by_cases c:k=0
    ·exact .inl c
    ·right
     show QX L (k-1)=false
     cases hb:QX L (k-1)with
     |false=>rfl
     |true=>
      obtain⟨w,hw,h1,h2⟩:=h.all (k-1) (by omega) hb
      have:=(h.seg w hw).2.1
      exact absurd (show w.2=k by omega) (hn w hw)
 ·by_cases c:i=k
  ·subst c;exact⟨(i,i+1),by simp,Nat.le_refl _,Nat.lt_succ_self _⟩
  ·obtain⟨w,hw,h1,h2⟩:=h.all i (by omega) hl
   exact⟨w,List.mem_append_left _ hw,h1,h2⟩
 ·rw[List.pairwise_append]
  refine⟨h.ord,by simp,fun v hv w hw=>?_⟩
  obtain rfl:=List.mem_singleton.1 hw
  have:=(h.seg v hv).2.1
  have:=hn v hv
  show v.2<k
  omega
theorem qJ.last {L:List (List Int)} {k:Nat} {o:List (Nat×Nat)} {w:Nat×Nat}(h:qJ L k (o++[w]))(hw:w.2≠k):∀v∈o++[w],v.2≠k:=fun v hv=>by
 rcases List.mem_append.1 hv with hv|hv
 ·have:=(List.pairwise_append.1 h.ord).2.2 v hv w (by simp)
  obtain⟨a1,a2,_⟩:=h.seg w (by simp)
  omega
 ·obtain rfl:=List.mem_singleton.1 hv;exact hw
theorem zaZ(L:List (List Int))(q:Bool):∀(n p j:Nat),p≤j→j≤p+n→(∀i,p≤i→i<j→QX L i=q)→(j=p+n∨QX L j≠q)→fwW L q n p=j
 |0,p,j,h1,h2,_,_=>by unfold fwW;omega
 |n+1,p,j,h1,h2,h3,h4=>by
  rw[fwW]
  by_cases c:p=j
  ·subst c;rw[if_neg (h4.resolve_left (by omega))]
  ·rw[if_pos (h3 p (Nat.le_refl _) (by omega))]
   exact zaZ L q n (p+1) j (by omega) (by omega) (fun i a b=>h3 i (by omega) b) (h4.imp (fun e=>by omega) _root_.id)
theorem zaw(L:List (List Int))(q:Bool):∀(p j:Nat),j≤p→(∀i,j≤i→i<p→QX L i=q)→(j=0∨QX L (j-1)≠q)→bkW L q p=j
 |0,j,h1,_,_=>by unfold bkW;omega
 |p+1,j,h1,h3,h4=>by
  rw[bkW]
  by_cases c:p+1=j
  ·subst c
   have h5:=h4.resolve_left (by omega)
   rw[Nat.add_sub_cancel]at h5
   rw[if_neg h5]
  ·rw[if_pos (h3 p (by omega) (by omega))]
   exact zaw L q p j (by omega) (fun i a b=>h3 i a (by omega)) h4
theorem qJ.fwd {L:List (List Int)} {o1 o2:List (Nat×Nat)} {w:Nat×Nat}(h:qJ L L.length (o1++w::o2)) {k:Nat}(hk:k≤L.length)(h1:∀v∈o1,v.2≤k)(h2:k<w.2):wW L k=w.2:=by
 obtain⟨a1,a2,a3,a4,a5⟩:=h.seg w (by simp)
 have ho:=List.pairwise_append.1 h.ord
 have hno:∀i,k≤i→i<w.1→QX L i=false:=fun i b1 b2=>by
  cases hb:QX L i with
  |false=>rfl
  |true=>
   obtain⟨v,hv,c1,c2⟩:=h.all i (by omega) hb
   rcases List.mem_append.1 hv with hv|hv
   ·have:=h1 v hv;omega
   ·rcases List.mem_cons.1 hv with rfl|hv
    ·omega
    ·have:=(List.pairwise_cons.1 ho.2.1).1 v hv;omega
 have e1:fwW L false (L.length-k) k=max k w.1:=zaZ L false _ _ _ (by omega) (by omega) (fun i b1 b2=>hno i b1 (by omega)) (.inr (by rw[a3 (max k w.1) (by omega) (by omega)];decide))
 unfold wW
 rw[e1]
 refine zaZ L true _ _ _ (by omega) (by omega) (fun i b1 b2=>a3 i (by omega) b2) ?_
 rcases a5 with a5|a5
 ·left;omega
 ·right;rw[a5];decide
theorem qJ.zmc {L:List (List Int)} {o:List (Nat×Nat)}(h:qJ L L.length o) {k:Nat}(hk:k≤L.length)(h1:∀v∈o,v.2≤k):wW L k=L.length:=by
 have e1:fwW L false (L.length-k) k=L.length:=zaZ L false _ _ _ hk (by omega) (fun i b1 b2=>by
  cases hb:QX L i with
  |false=>rfl
  |true=>
   obtain⟨v,hv,c1,c2⟩:=h.all i b2 hb
   have:=h1 v hv;omega) (.inl (by omega))
 unfold wW
 rw[e1,ui]
theorem qJ.bwd {L:List (List Int)} {o1 o2:List (Nat×Nat)} {w:Nat×Nat}(h:qJ L L.length (o1++w::o2)) {k:Nat}(hk:k≤L.length)(h1:∀v∈o2,k≤v.1)(h2:w.1<k):YF L k=w.1:=by
 obtain⟨a1,a2,a3,a4,a5⟩:=h.seg w (by simp)
 have ho:=List.pairwise_append.1 h.ord
 have hno:∀i,w.2≤i→i<k→QX L i=false:=fun i b1 b2=>by
  cases hb:QX L i with
  |false=>rfl
  |true=>
   obtain⟨v,hv,c1,c2⟩:=h.all i (by omega) hb
   rcases List.mem_append.1 hv with hv|hv
   ·have:=ho.2.2 v hv w (by simp);omega
   ·rcases List.mem_cons.1 hv with rfl|hv
    ·omega
    ·have:=h1 v hv;omega
 have e1:bkW L false k=min k w.2:=zaw L false _ _ (by omega) (fun i b1 b2=>hno i (by omega) b2) (.inr (by rw[a3 (min k w.2-1) (by omega) (by omega)];decide))
 unfold YF
 rw[e1]
 refine zaw L true _ _ (by omega) (fun i b1 b2=>a3 i b1 (by omega)) ?_
 rcases a4 with a4|a4
 ·exact .inl a4
 ·right;rw[a4];decide
theorem qJ.zl8 {L:List (List Int)} {o:List (Nat×Nat)}(h:qJ L L.length o) {k:Nat}(hk:k≤L.length)(h1:∀v∈o,k≤v.1):YF L k=0:=by
 have e1:bkW L false k=0:=zaw L false _ _ (Nat.zero_le _) (fun i b1 b2=>by
  cases hb:QX L i with
  |false=>rfl
  |true=>
   obtain⟨v,hv,c1,c2⟩:=h.all i (by omega) hb
   have:=h1 v hv;omega) (.inl rfl)
 unfold YF
 rw[e1];rfl
end Go.Proofs.YthbmelihnabkaaaGreat
end
section
namespace Go.Proofs.YthbmelihnabkaaaGreat
open Go.AM
set_option maxHeartbeats 4000000
set_option maxRecDepth 10000
attribute [local irreducible] za
end Go.Proofs.YthbmelihnabkaaaGreat
end
section
namespace Go.Proofs.YthbmelihnabkaaaGreat
open Go.AM
set_option maxHeartbeats 4000000
set_option maxRecDepth 10000
attribute [local irreducible] za
def wP(L:List (List Int))(w:Nat×Nat):PV:=.agg [.int .i64 (plc L w.1:Nat),.int .i64 (plc L w.2:Nat)]
def wC(L:List (List Int))(o:List (Nat×Nat)):List AV:=o.flatMap fun w=>[.p (.int .i64 (plc L w.1:Nat)),.p (.int .i64 (plc L w.2:Nat))]
theorem zbk(L:List (List Int))(o:List (Nat×Nat)):(wC L o).length=2*o.length:=by
 induction o with
 |nil=>rfl
 |cons w o ih=>simp only[wC,List.flatMap_cons,List.length_append,List.length_cons,List.length_nil]at ih⊢;omega
theorem zfe(L:List (List Int))(o o':List (Nat×Nat)):wC L (o++o')=wC L o++wC L o':=by simp[wC]
@[go_sem] theorem zoR (rt tt : Tok → Bool) (L : List (List Int)) (o : List (Nat × Nat)) : (wC L o).map (AV.upd (fil rt tt)) = wC L o := by
 simp[wC,AV.upd,fil,Qv,List.map_flatMap]
attribute [go_sem] zbk
theorem zlV(L:List (List Int))(o:List (Nat×Nat))(w:Nat×Nat):(wC L (o++[w]))[o.length*2+1]?=some (.p (.int .i64 (plc L w.2:Nat))):=by
 rw[zfe,List.getElem?_append_right (by rw[zbk];omega),zbk,show o.length*2+1-2*o.length=1 by omega];rfl
theorem zmD(L:List (List Int))(o:List (Nat×Nat))(b k k':Nat):(wC L (o++[(b,k)])).take (o.length*2+1)++.p (.int .i64 (plc L k':Nat))::(wC L (o++[(b,k)])).drop (o.length*2+1+1)=wC L (o++[(b,k')]):=by
 have h:=zbk L o
 rw[zfe,zfe,List.take_append,List.drop_append,h,List.take_of_length_le (by omega),List.drop_eq_nil_of_le (by omega)]
 have e1:o.length*2+1-2*o.length=1:=by omega
 have e2:o.length*2+1+1-2*o.length=2:=by omega
 rw[e1,e2]
 simp[wC]
theorem zkO(L:List (List Int))(o:List (Nat×Nat))(b q k k':Nat):wC L (o++[(b,q),(k,k')])=wC L (o++[(b,q)])++[AV.p (.int .i64 (plc L k:Nat)),.p (.int .i64 (plc L k':Nat))]:=by simp[wC]
def woV(o:List (Nat×Nat)):AV:=if o=[]then .p (.opq (.slice none 0 0))else .la [51] 2 0 o.length
def woR(L:List (List Int))(o:List (Nat×Nat)):List (Tok×List AV):=if o=[]then []else [([51],wC L o)]
def zmd(L:List (List Int)):AV→List (Tok×List AV)→Prop:=fun x rs=>∃o,qJ L L.length o∧x=(if o=[]then .p (.sl 2 [])else .la [51] 2 0 o.length)∧rs=woR L o
theorem zcj [Gi] {l:List Int} {L:List (List Int)}(h:Ln l L):CR Tryz.prog 76 [] [.p (zI za),.p (zh l)] [] (zmd L):=by
 refine walk Tryz.func76 8 [] [] [5,51] ?_
 have hs:=h.sum
 have hcl:=h.cl
 have hln:=h.n
 have hlen:=hcl.len
 simp (maxSteps:=1000000) [go_sem,Tryz.f76]
 refine loop (fun r:Nat×List (Nat×Nat)=>r.1≤L.length∧r.2.length≤r.1∧qJ L r.1 r.2) (fun r=>[(5,woV r.2),(6,.p (.int .i64 (plc L r.1:Nat))),(7,.zX)]) (fun r=>woR L r.2) (fun r=>L.length-r.1) (0,[]) ⟨by simp,by simp,qJ.nil L⟩ (fun r hr=>?_) (by simp[go_sem,LeS,leV,leR,leA,woV,woR,Zr])
 obtain⟨k,o⟩:=r
 obtain⟨h1,h2,h3⟩:=hr
 simp only at h1 h2 h3
 by_cases c1:k<L.length
 ·have g1:=ZG hcl c1 (Nat.le_refl _)
  rw[qF,hs]at g1
  have g2:(plc L k:Int)<l.length:=by omega
  have hI:=zmM h c1
  have hX:=zdk h c1
  rcases List.eq_nil_or_concat o with rfl|⟨o,w,rfl⟩
  ·simp (maxSteps:=1000000) [go_sem,g2,woV,woR]
   refine zn hI ?_
   cases hb:QX L k with
   |false=>
    simp (maxSteps:=1000000) [go_sem]
    refine zn hX ?_
    simp (maxSteps:=1000000) [go_sem]
    exact next (k+1,[]) ⟨c1,by simp,h3.skip hb⟩ (by show L.length- (k+1)<L.length-k;omega) (by simp[go_sem,LeS,leV,leR,leA])
   |true=>
    simp (maxSteps:=1000000) [go_sem]
    refine zn hX ?_
    simp (maxSteps:=1000000) [go_sem]
    refine zn hX ?_
    simp (maxSteps:=1000000) [go_sem]
    exact next (k+1,[]++[(k,k+1)]) ⟨c1,by simp,h3.push hb (by simp)⟩ (by show L.length- (k+1)<L.length-k;omega) (by simp[go_sem,LeS,leV,leR,leA,leL,wC])
  ·rw[List.concat_eq_append]at h2 h3⊢
   rw[List.length_append,List.length_singleton]at h2
   simp (maxSteps:=1000000) [go_sem,g2,woV,woR]
   refine zn hI ?_
   cases hb:QX L k with
   |false=>
    simp (maxSteps:=1000000) [go_sem]
    refine zn hX ?_
    simp (maxSteps:=1000000) [go_sem]
    exact next (k+1,o++[w]) ⟨c1,by simp;omega,h3.skip hb⟩ (by show L.length- (k+1)<L.length-k;omega) (by simp[go_sem,LeS,leV,leR,leA,zj])
   |true=>
    obtain⟨b,q⟩:=w
    have w1:IntKind.i64.wrap ((o.length:Int)+1-1)=(o.length:Int):=by rw[wrap64 (by omega) (by omega)];omega
    have w1':IntKind.i64.wrap (o.length:Int)=(o.length:Int):=Jq (by omega)
    have hg:=zlV L o (b,q)
    simp only at hg
    simp (maxSteps:=1000000) [go_sem]
    refine zn hX ?_
    by_cases c2:q=k
    ·subst c2
     have hp:=zmD L o b q (q+1)
     simp (maxSteps:=1000000) [go_sem,w1',hg]
     refine⟨by omega,by omega,?_⟩
     rw[hp]
     refine zn hX ?_
     simp (maxSteps:=1000000) [go_sem]
     exact next (q+1,o++[(b,q+1)]) ⟨c1,by simp;omega,h3.more hb⟩ (by show L.length- (q+1)<L.length-q;omega) (by simp[go_sem,LeS,leV,leR,leA,zj])
    ·have c3:¬(plc L q:Int)=plc L k:=fun e=>c2 (zkq hcl (by have:=(h3.seg (b,q) (by simp)).2.1;simp only at this;omega) h1 (by omega))
     simp (maxSteps:=1000000) [go_sem,w1',hg,c3]
     refine⟨by omega,⟨by omega,by omega⟩,?_⟩
     refine zn hX ?_
     simp (maxSteps:=1000000) [go_sem]
     exact next (k+1,o++[(b,q)]++[(k,k+1)]) ⟨c1,by simp;omega,h3.push hb (h3.last c2)⟩ (by show L.length- (k+1)<L.length-k;omega) (by simp[go_sem,LeS,leV,leR,leA,zj,zkO])
 ·obtain rfl:k=L.length:=by omega
  have g1:¬plc L L.length<l.length:=by rw[qF,hs];omega
  have g2:¬(plc L L.length:Int)<l.length:=by omega
  rcases List.eq_nil_or_concat o with rfl|⟨o,w,rfl⟩
  ·simp (maxSteps:=1000000) [go_sem,g2,woV,woR]
   exact zi [] (.p (.sl 2 [])) (by simp) (by simp[go_sem,zd,leA,leT]) ⟨[],h3,rfl,rfl⟩
  ·rw[List.concat_eq_append]at h2 h3⊢
   simp (maxSteps:=1000000) [go_sem,g2,woV,woR]
   exact zi [[51]] (.la [51] 2 0 (o.length+1)) (by simp) (by simp[go_sem,zd,leA,leT]) ⟨o++[w],h3,by simp,by simp[go_sem,woR]⟩
end Go.Proofs.YthbmelihnabkaaaGreat
end
section
namespace Go.Proofs.YthbmelihnabkaaaGreat
open Go.AM
set_option maxHeartbeats 4000000
set_option maxRecDepth 10000
attribute [local irreducible] za
def woP(L:List (List Int))(o:List (Nat×Nat)):List PV:=o.map (wP L)
theorem ya(L:List (List Int))(o:List (Nat×Nat)):(woP L o).length=o.length:=by simp[woP]
theorem zeW {L:List (List Int)} {o:List (Nat×Nat)} {i:Nat}(h:i<o.length):elemAt (woP L o) i=wP L o[i]:=zq (wP L) o i h
theorem Uk [Gi] {l:List Int} {L:List (List Int)}(h:Ln l L):CR Tryz.prog 76 [] [.p (zI za),.p (zh l)] [] (fun x rs=>∃o,qJ L L.length o∧rs=[]∧x=.p (.sl 2 (woP L o))):=by
 refine CR.freeze (zcj h) (fun _=>false) rfl ?_
 rintro x rs ⟨o,ho,rfl,rfl⟩
 by_cases c:o=[]
 ·subst c
  exact⟨.p (.sl 2 []),fun g w v hG hv=>by rw[if_pos rfl]at hv;rw[Wo]at hv⊢;exact zk.ext (wA hG _) _ _ hv,[],ho,rfl,rfl⟩
 ·rw[if_neg c]
  refine⟨.p (.sl 2 (woP L o)),fun g w v hG hv=>?_,o,ho,by simp[woR,c,Xd],rfl⟩
  rw[Wo]
  refine ua (t:=[51]) (z:=2) (n:=o.length) (es:=woP L o) (rt:=fun _=>false) hG [] (List.length_pos_iff.2 c) ?_ rfl (ya L o) (fun e he=>?_) hv
  ·have e1:((woP L o).flatMap PV.cells).map AV.p=wC L o:=by
    simp[woP,wC,wP,List.flatMap_map,List.map_flatMap,PV.cells]
   rw[e1];simp[woR,c,zC]
  ·obtain⟨s,_,rfl⟩:=List.mem_map.1 he
   exact⟨rfl,rfl⟩
def zm3(o:List (Nat×Nat))(i k:Nat):Prop:=∀v∈o.take i,v.2≤k
def zmY(o:List (Nat×Nat))(i k:Nat):Prop:=∀v∈o.drop i,k≤v.1
theorem zfW [Gi] {l:List Int} {L:List (List Int)}(h:Ln l L) {k:Nat}(hk:k≤L.length):CR Tryz.prog 28 [] [.p (zI za),.p (zh l),.p (.int .i64 (plc L k:Nat))] [] (is (.p (.int .i64 (plc L (wW L k):Nat)))):=by
 refine walk Tryz.func28 9 [] [] [] ?_
 have hs:=h.sum
 have hcl:=h.cl
 have hln:=h.n
 have hlen:=hcl.len
 simp (maxSteps:=1000000) [go_sem,Tryz.f28]
 refine call [] (Uk h) ?_
 rintro _ _ ⟨o,ho,rfl,rfl⟩
 obtain⟨N,hN⟩:∃N,N=wW L k:=⟨_,rfl⟩
 rw[←hN]
 have hol:o.length≤2^40:=by
  have:∀(o:List (Nat×Nat)) (b:Nat),(∀w∈o,b≤w.1∧w.1<w.2∧w.2≤L.length)→o.Pairwise (fun v w=>v.2<w.1)→o.length≤L.length-b:=by
   intro o
   induction o with
   |nil=>intro b _ _;simp
   |cons w o ih=>
    intro b h1 h2
    have a:=h1 w (by simp)
    have:=ih (b+1) (fun v hv=>by
     have c:=(List.pairwise_cons.1 h2).1 v hv
     have d:=h1 v (List.mem_cons_of_mem _ hv)
     omega) (List.pairwise_cons.1 h2).2
    simp only[List.length_cons];omega
  have:=this o 0 (fun w hw=>⟨Nat.zero_le _,(ho.seg w hw).1,(ho.seg w hw).2.1⟩) ho.ord
  omega
 simp (maxSteps:=1000000) [go_sem]
 refine loop (fun i:Nat=>i≤o.length∧zm3 o i k) (fun i=>[(8,.p (.int .i64 (i:Nat)))]) (fun _=>[]) (fun i=>o.length-i) 0 ⟨Nat.zero_le _,by simp[zm3]⟩ (fun i hi=>?_)
 obtain⟨h1,h2⟩:=hi
 by_cases c1:i<o.length
 ·have g1:(i:Int)<o.length:=by omega
  have em:=zeW (L:=L) c1
  have hsp:o=o.take i++o[i]::o.drop (i+1):=by rw[←List.drop_eq_getElem_cons c1,List.take_append_drop]
  obtain⟨w,hw⟩:∃w,o[i]=w:=⟨_,rfl⟩
  rw[hw]at em hsp
  have hmem:w∈o:=by rw[←hw];exact List.getElem_mem _
  have hw2:=(ho.seg w hmem).2.1
  have w1:IntKind.i64.wrap ((i:Int)+1)=((i+1:Nat):Int):=zT (by omega)
  by_cases c2:k<w.2
  ·have c3:=ZG hcl c2 hw2
   have c3':(plc L k:Int)<plc L w.2:=by omega
   have e1:N=w.2:=by
    rw[hN]
    rw[hsp]at ho
    exact ho.fwd hk h2 c2
   rw[e1]
   simp (maxSteps:=1000000) [go_sem,ya,g1,em,wP,c3']
   exact ret
  ·have c3:¬plc L k<plc L w.2:=by have:=ju hcl (i:=w.2) (j:=k) (by omega) hk;omega
   have c3':¬(plc L k:Int)<plc L w.2:=by omega
   simp (maxSteps:=1000000) [go_sem,ya,g1,em,wP,c3',w1]
   refine next (i+1) ⟨c1,fun v hv=>?_⟩ (by omega)
   rw[List.take_add_one,List.getElem?_eq_getElem c1,hw]at hv
   rcases List.mem_append.1 hv with hv|hv
   ·exact h2 v hv
   ·obtain rfl:v=w:=by simpa using hv
    omega
 ·have g1:¬(i:Int)<o.length:=by omega
  have e1:N=L.length:=by
   rw[hN]
   unfold zm3 at h2
   rw[List.take_of_length_le (by omega)]at h2
   exact ho.zmc hk h2
  rw[e1,qF,hs]
  simp (maxSteps:=1000000) [go_sem,ya,g1]
  exact ret
theorem zks [Gi] {l:List Int} {L:List (List Int)}(h:Ln l L) {k:Nat}(hk:k≤L.length):CR Tryz.prog 29 [] [.p (zI za),.p (zh l),.p (.int .i64 (plc L k:Nat))] [] (is (.p (.int .i64 (plc L (YF L k):Nat)))):=by
 refine walk Tryz.func29 9 [] [] [] ?_
 have hs:=h.sum
 have hcl:=h.cl
 have hln:=h.n
 have hlen:=hcl.len
 simp (maxSteps:=1000000) [go_sem,Tryz.f29]
 refine call [] (Uk h) ?_
 rintro _ _ ⟨o,ho,rfl,rfl⟩
 obtain⟨N,hN⟩:∃N,N=YF L k:=⟨_,rfl⟩
 rw[←hN]
 have hol:o.length≤2^40:=by
  have:∀(o:List (Nat×Nat)) (b:Nat),(∀w∈o,b≤w.1∧w.1<w.2∧w.2≤L.length)→o.Pairwise (fun v w=>v.2<w.1)→o.length≤L.length-b:=by
   intro o
   induction o with
   |nil=>intro b _ _;simp
   |cons w o ih=>
    intro b h1 h2
    have a:=h1 w (by simp)
    have:=ih (b+1) (fun v hv=>by
     have c:=(List.pairwise_cons.1 h2).1 v hv
     have d:=h1 v (List.mem_cons_of_mem _ hv)
     omega) (List.pairwise_cons.1 h2).2
    simp only[List.length_cons];omega
  have:=this o 0 (fun w hw=>⟨Nat.zero_le _,(ho.seg w hw).1,(ho.seg w hw).2.1⟩) ho.ord
  omega
 have w0:IntKind.i64.wrap ((o.length:Int)-1)=(o.length:Int)-1:=wrap64 (by omega) (by omega)
 simp (maxSteps:=1000000) [go_sem,ya,w0]
 refine loop (fun i:Nat=>i≤o.length∧zmY o i k) (fun i=>[(8,.p (.int .i64 ((i:Int)-1)))]) (fun _=>[]) (fun i=>i) o.length ⟨Nat.le_refl _,by simp[zmY]⟩ (fun i hi=>?_)
 obtain⟨h1,h2⟩:=hi
 by_cases c1:i=0
 ·subst c1
  have e1:N=0:=by
   rw[hN]
   exact ho.zl8 hk (by unfold zmY at h2;rwa[List.drop_zero]at h2)
  rw[e1,Zr]
  simp (maxSteps:=1000000) [go_sem]
  exact ret
 ·obtain⟨j,rfl⟩:∃j,i=j+1:=⟨i-1,by omega⟩
  have c2:j<o.length:=h1
  have g0:(0:Int)≤j:=by omega
  have g1:(j:Int)<o.length:=by omega
  have e0:(((j+1:Nat):Int)-1)=(j:Int):=by omega
  have em:=zeW (L:=L) c2
  have hsp:o=o.take j++o[j]::o.drop (j+1):=by rw[←List.drop_eq_getElem_cons c2,List.take_append_drop]
  have hdr:o.drop j=o[j]::o.drop (j+1):=List.drop_eq_getElem_cons c2
  obtain⟨w,hw⟩:∃w,o[j]=w:=⟨_,rfl⟩
  rw[hw]at em hsp hdr
  have hmem:w∈o:=by rw[←hw];exact List.getElem_mem _
  obtain⟨hw1,hw2,_⟩:=ho.seg w hmem
  have w1:IntKind.i64.wrap ((j:Int)-1)=(j:Int)-1:=wrap64 (by omega) (by omega)
  rw[e0]
  by_cases c3:w.1<k
  ·have c4:=ZG hcl c3 hk
   have c4':(plc L w.1:Int)<plc L k:=by omega
   have e1:N=w.1:=by
    rw[hN]
    rw[hsp]at ho
    exact ho.bwd hk h2 c3
   rw[e1]
   simp (maxSteps:=1000000) [go_sem,ya,g0,g1,em,wP,c4']
   exact ret
  ·have c4:¬plc L w.1<plc L k:=by have:=ju hcl (i:=k) (j:=w.1) (by omega) (by omega);omega
   have c4':¬(plc L w.1:Int)<plc L k:=by omega
   simp (maxSteps:=1000000) [go_sem,ya,g0,g1,em,wP,c4',w1]
   refine next j ⟨by omega,fun v hv=>?_⟩ (by omega)
   rw[hdr]at hv
   rcases List.mem_cons.1 hv with rfl|hv
   ·omega
   ·exact h2 v hv
end Go.Proofs.YthbmelihnabkaaaGreat
end
