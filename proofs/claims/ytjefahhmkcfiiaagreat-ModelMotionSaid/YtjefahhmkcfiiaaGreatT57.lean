/- A part of the proof of this seat's statements, by an abstract machine: what each operation does to values, and what the law's functions compute. Conditions: as each law says. -/
import Derived.Test.YtjefahhmkcfiiaaGreatT56
import Derived.Test.YtjefahhmkcfiiaaGreatT40
import Derived.Test.YtjefahhmkcfiiaaGreatT37
import Derived.Test.YtjefahhmkcfiiaaGreatT55
import Derived.Test.YtjefahhmkcfiiaaGreatT50
section
namespace Go.Proofs.YtjefahhmkcfiiaaGreat
open Go.AM
set_option maxHeartbeats 4000000
set_option maxRecDepth 10000
attribute [local irreducible] za
theorem KJ [Gi] {e:PV}(hT:Zc e) {l:List Int} {L:List (List Int)}(h:Ln l L)(a:Int):CR Tryz.prog 213 [] [.p e,.p (zg l),.p (.int .i64 a)] [] (is (.p (.int .i64 (plc L (kf L a):Nat)))):=by
 refine Wl 9 [] Tryz.func213 rfl [] rfl (by simp) (by simp) ?_
 have hs:=h.sum
 have hcl:=h.cl
 have hln:=h.n
 refine Sem.Zx [] mixed ?_
 simp (maxSteps:=1000000) [go_sem,Tryz.f213]
 refine Sem.scope ?_
 refine Sem.Zx [] mixed ?_
 by_cases c1:a≤0
 ·have e1:plc L (kf L a)=0:=by
   by_cases c0:a<0
   ·rw[zfB L c0,Qh]
   ·have:=VW L a (by omega);omega
  rw[e1]
  simp (maxSteps:=1000000) [go_sem,c1]
  exact ret
 by_cases c2:(l.length:Int)≤a
 ·rw[zkn hcl (by omega),Zj,hs]
  simp (maxSteps:=1000000) [go_sem,c1,c2]
  exact ret
 obtain⟨n,rfl⟩:∃n:Nat,a=n:=⟨a.toNat,by omega⟩
 simp (maxSteps:=1000000) [go_sem]
 have c1':¬n=0:=by omega
 have c2':¬l.length≤n:=by omega
 simp (maxSteps:=1000000) [go_sem,c1',c2']
 refine Sem.Zx [] mixed ?_
 simp (maxSteps:=1000000) [go_sem]
 refine call [] (zl8 hT h n (by omega)) ?_
 rintro _ _ ⟨k0,⟨k1,k2,rfl⟩,rfl⟩
 simp (maxSteps:=1000000) [go_sem]
 refine Sem.label (Sem.Zx [] mixed ?_)
 simp (maxSteps:=1000000) [go_sem]
 obtain⟨N,hN⟩:∃N,N=kf L (n:Nat):=⟨_,rfl⟩
 rw[←hN]
 refine loop (fun k:Nat=>k<L.length∧plc L k≤n) (fun k=>[(7,.p (.int .i64 (plc L k:Nat))),(8,.zW)]) (fun _=>[]) (fun k=>L.length-k) k0 ⟨k1,k2⟩ (fun k hk=>?_)
 obtain⟨h1,h2⟩:=hk
 have hlt:=Vk hcl h1
 by_cases c3:plc L k<n
 ·have c3':(plc L k:Int)<n:=by omega
  have hX:=uH hT h h1
  simp (maxSteps:=1000000) [go_sem,c3']
  refine zo hX ?_
  by_cases c4:n<plc L (k+1)
  ·have c4':(n:Int)<plc L (k+1):=by omega
   have e1:N=k:=by rw[hN];exact Yw hcl (by omega) (by omega) (fun _=>by omega)
   rw[e1]
   simp (maxSteps:=1000000) [go_sem,c4']
   refine Sem.of [] mixed ?_
   simp (maxSteps:=1000000) [go_sem]
   exact ret
  ·have c4':¬(n:Int)<plc L (k+1):=by omega
   have k3:k+1<L.length:=by
    refine Nat.lt_of_le_of_ne (by omega) (fun e=>?_)
    rw[e,Zj]at c4;omega
   simp (maxSteps:=1000000) [go_sem,c4']
   exact next (k+1) ⟨k3,by omega⟩ (by omega)
 ·have c3':¬(plc L k:Int)<n:=by omega
  have e1:N=k:=by rw[hN];exact Yw hcl (by omega) (by omega) (fun _=>by omega)
  rw[e1]
  simp (maxSteps:=1000000) [go_sem,c3']
  refine Sem.of [] mixed ?_
  simp (maxSteps:=1000000) [go_sem]
  exact ret
theorem zkd [Gi] {e:PV}(hT:Zc e) {l:List Int} {L:List (List Int)}(h:Ln l L) {k:Nat}(hk:k<L.length):CR Tryz.prog 214 [] [.p e,.p (zg l),.p (.int .i64 (plc L (k+1):Nat))] [] (is (.p (.int .i64 (plc L k:Nat)))):=by
 refine walk Tryz.func214 7 [] [] [] ?_
 have hs:=h.sum
 have hln:=h.n
 have h1:=Vk h.cl hk
 have h2:=vV h.cl (k:=k+1) hk
 have hf:=KJ hT h ((plc L (k+1):Int)-1)
 rw[Yw h.cl (k:=k) (by omega) (by omega) (fun _=>by omega)]at hf
 have w1:IntKind.i64.wrap ((l.length:Int)+1)=(l.length:Int)+1:=wrap64 (by omega) (by omega)
 have w2:max (min (plc L (k+1):Int) ((l.length:Int)+1)) 0=plc L (k+1):=by omega
 have w3:IntKind.i64.wrap ((plc L (k+1):Int)-1)=(plc L (k+1):Int)-1:=wrap64 (by omega) (by omega)
 simp (maxSteps:=1000000) [go_sem,Tryz.f214,w1,w2,w3]
 refine zo hf ?_
 simp (maxSteps:=1000000) [go_sem]
 exact ret
theorem zl9(L:List (List Int))(a:Int):cnt (pl L) a≤L.length:=by have:=uK (pl L) a;rwa[qo]at this
theorem zj5 [Gi] {e:PV}(hT:Zc e) {l:List Int} {L:List (List Int)}(h:Ln l L)(a:Int):CR Tryz.prog 216 [] [.p e,.p (zg l),.p (.int .i64 a)] [] (is (.p (.int .i64 (plc L (cnt (pl L) a):Nat)))):=by
 refine walk Tryz.func216 8 [] [] [] ?_
 have hs:=h.sum
 have q3:=uq L a
 have hF:=KJ hT h a
 by_cases c1:a≤(plc L (kf L a):Int)
 ·rw[za0 h.cl c1]
  simp (maxSteps:=1000000) [go_sem,Tryz.f216]
  refine zo hF ?_
  simp (maxSteps:=1000000) [go_sem,c1]
  exact ret
 ·by_cases c2:kf L a<L.length
  ·rw[zeC h.cl (by omega) c2]
   simp (maxSteps:=1000000) [go_sem,Tryz.f216]
   refine zo hF ?_
   simp (maxSteps:=1000000) [go_sem,c1]
   refine zo (uH hT h c2) ?_
   simp (maxSteps:=1000000) [go_sem]
   exact ret
  ·have e1:kf L a=L.length:=by omega
   rw[e1,Zj,hs]at c1 hF
   rw[zmM h.cl (by omega),Zj,hs]
   simp (maxSteps:=1000000) [go_sem,Tryz.f216]
   refine zo hF ?_
   simp (maxSteps:=1000000) [go_sem,c1]
   refine zo (zln e l) ?_
   simp (maxSteps:=1000000) [go_sem]
   exact ret
theorem zm1 {l:List Int} {L:List (List Int)}(h:Ln l L) {k:Nat}(hk:k<L.length):∃x,l[plc L k]?=some x∧(L[k]?.getD [])[0]?.getD 0=x∧zB x:=by
 obtain⟨x,c',e,hx⟩:=h.cl.full.r L[k] (List.getElem_mem hk)
 refine⟨x,?_,by rw[List.getElem?_eq_getElem hk];simp[e],hx⟩
 have e1:l=(L.take k).flatten++(L[k]++(L.drop (k+1)).flatten):=by
  have:=congrArg List.flatten (List.take_append_drop k L)
  rw[List.drop_eq_getElem_cons hk,List.flatten_append,List.flatten_cons,h.flat]at this
  exact this.symm
 have e2:plc L k=(L.take k).flatten.length:=by rw[z8];rfl
 rw[e1,e2,List.getElem?_append_right (Nat.le_refl _),e]
 simp
theorem Kz [Gi] {e:PV}(hT:Zc e) {l:List Int} {L:List (List Int)}(h:Ln l L) {k:Nat}(hk:k<L.length):CR Tryz.prog 215 [] [.p e,.p (zg l),.p (.int .i64 (plc L k:Nat))] [] (is (.p (.bool (Qn L k)))):=by
 refine walk Tryz.func215 7 [] [] [] ?_
 obtain⟨x,x1,x2,hx⟩:=zm1 h hk
 have hlt:plc L k<l.length:=(List.getElem?_eq_some_iff.1 x1).1
 have em:elemAt (zu l) (plc L k)=.int .i32 x:=by rw[Qx hlt,(List.getElem?_eq_some_iff.1 x1).2]
 have e1:Qn L k=decide (aL za 8 x=1):=by rw[Qn,x2]
 have g:(plc L k:Int)<l.length:=by omega
 rw[e1]
 simp (maxSteps:=1000000) [go_sem,Tryz.f215,g,em]
 refine zo (zg4 hT hx) ?_
 simp (maxSteps:=1000000) [go_sem]
 exact ret
theorem Xu [Gi](e:PV)(l:List Int):CR Tryz.prog 215 [] [.p e,.p (zg l),.p (.int .i64 (l.length:Nat))] [] (is (.p (.bool false))):=by
 refine walk Tryz.func215 7 [] [] [] ?_
 have em:elemAt (zu l) l.length=.int .i8 0:=by
  unfold elemAt
  rw[List.getD_eq_getElem?_getD,List.getElem?_eq_none (by rw[zp];omega)];rfl
 simp (maxSteps:=1000000) [go_sem,Tryz.f215,em]
 exact ret
def wK(L:List (List Int))(k:Nat):Nat:=fwW L true (L.length-fwW L false (L.length-k) k) (fwW L false (L.length-k) k)
def UD(L:List (List Int))(k:Nat):Nat:=bkW L true (bkW L false k)
theorem wP(L:List (List Int))(q:Bool)(p:Nat):bkW L q (p+1)=if Qn L p=q then bkW L q p else p+1:=rfl
theorem vd(L:List (List Int))(q:Bool) {p:Nat}(h:p<L.length):fwW L q (L.length-p) p=if Qn L p=q then fwW L q (L.length- (p+1)) (p+1)else p:=by
 have:L.length-p=(L.length- (p+1))+1:=by omega
 rw[this];rfl
theorem Uo(L:List (List Int))(q:Bool):fwW L q (L.length-L.length) L.length=L.length:=by rw[Nat.sub_self];rfl
theorem Jv [Gi] {e:PV}(hT:Zc e) {l:List Int} {L:List (List Int)}(h:Ln l L)(a:Int):CR Tryz.prog 182 [] [.p e,.p (zg l),.p (.int .i64 a)] [] (is (.p (.int .i64 (plc L (UD L (kf L a)):Nat)))):=by
 refine walk Tryz.func182 10 [] [] [] ?_
 have hcl:=h.cl
 obtain⟨R,hR⟩:∃R,R=UD L (kf L a):=⟨_,rfl⟩
 have q3:=uq L a
 rw[←hR]
 simp (maxSteps:=1000000) [go_sem,Tryz.f182]
 refine zo (KJ hT h a) ?_
 simp (maxSteps:=1000000) [go_sem]
 refine loop (fun r:Nat×Bool=>r.1≤L.length∧R=bkW L true (if r.2 then r.1 else bkW L false r.1)) (fun r=>[(2,.p (.int .i64 (plc L r.1:Nat))),(7,.p (.bool r.2)),(8,.zW),(9,.zW)]) (fun _=>[]) (fun r=>r.1) (kf L a,false) ⟨q3,by rw[hR];rfl⟩ (fun r hr=>?_)
 obtain⟨k,b⟩:=r
 obtain⟨h1,h2⟩:=hr
 simp only at h1 h2
 by_cases c0:k=0
 ·subst c0
  have e1:R=0:=by rw[h2];cases b<;>rfl
  rw[e1]
  simp (maxSteps:=1000000) [go_sem,Qh]
  exact ret
 ·obtain⟨p,rfl⟩:∃p,k=p+1:=⟨k-1,by omega⟩
  have hp:p<L.length:=by omega
  have g1:=Vk hcl hp
  have g2:(0:Int)<plc L (p+1):=by omega
  have g3:0<plc L (p+1):=by omega
  have hI:=Kz hT h hp
  rw[wP]at h2
  simp (maxSteps:=1000000) [go_sem,g3]
  refine zo (zkd hT h hp) ?_
  simp (maxSteps:=1000000) [go_sem]
  refine zo hI ?_
  cases hb:Qn L p with
  |true=>
   rw[hb]at h2
   cases b with
   |true=>
    simp (maxSteps:=1000000) [go_sem]
    exact next (p,true) ⟨by show p≤L.length;omega,by rw[h2];simp[wP,hb]⟩ (by show p<p+1;omega)
   |false=>
    simp (maxSteps:=1000000) [go_sem]
    exact next (p,true) ⟨by show p≤L.length;omega,by rw[h2];simp[wP,hb]⟩ (by show p<p+1;omega)
  |false=>
   rw[hb]at h2
   cases b with
   |true=>
    have e1:R=p+1:=by rw[h2];simp[wP,hb]
    rw[e1]
    simp (maxSteps:=1000000) [go_sem]
    exact ret
   |false=>
    simp (maxSteps:=1000000) [go_sem]
    exact next (p,false) ⟨by show p≤L.length;omega,by rw[h2];simp⟩ (by show p<p+1;omega)
end Go.Proofs.YtjefahhmkcfiiaaGreat
end
section
namespace Go.Proofs.YtjefahhmkcfiiaaGreat
open Go.AM
set_option maxHeartbeats 4000000
set_option maxRecDepth 10000
attribute [local irreducible] za
theorem zbN [Gi] {e:PV}(hT:Zc e) {l:List Int} {L:List (List Int)}(h:Ln l L)(a:Int):CR Tryz.prog 183 [] [.p e,.p (zg l),.p (.int .i64 a)] [] (is (.p (.int .i64 (plc L (wK L (cnt (pl L) a)):Nat)))):=by
 refine Wl 7 [] Tryz.func183 rfl [] rfl (by simp) (by simp) ?_
 have hs:=h.sum
 have hcl:=h.cl
 have hc:=zl9 L a
 obtain⟨N,hN⟩:∃N,N=wK L (cnt (pl L) a):=⟨_,rfl⟩
 rw[←hN]
 refine Sem.Zx [] mixed ?_
 simp (maxSteps:=1000000) [go_sem,Tryz.f183]
 refine Sem.zoe (ι:=Nat) 0 (fun k=>k≤L.length∧N=wK L k) (fun k=>{n:=35,nv:=7,vs:=[(0,.p e),(1,.p (.sl 1 (zu l))),(2,.p (.int .i64 (plc L k:Nat))),(6,.p (.int .i64 0))],ts:=[],rs:=[]}) (fun k=>L.length-k) rfl (fun hr=>?_) (fun k hk=>?_)
 ·refine Sem.Zx [] mixed ?_
  simp (maxSteps:=1000000) [go_sem]
  refine zo (zj5 hT h a) ?_
  simp (maxSteps:=1000000) [go_sem]
  exact Sem.label (Sem.clean (hr (cnt (pl L) a) ⟨hc,hN⟩))
 ·obtain⟨h1,h2⟩:=hk
  by_cases c1:k<L.length
  ·have g1:=yE hcl c1 (Nat.le_refl _)
   rw[Zj,hs]at g1
   have g2:(plc L k:Int)<l.length:=by omega
   have hI:=Kz hT h c1
   refine Sem.seq (Sem.Zx [] mixed ?_)
   simp (maxSteps:=1000000) [go_sem,g2]
   refine zo hI ?_
   cases hb:Qn L k with
   |false=>
    simp (maxSteps:=1000000) [go_sem]
    refine Sem.cond true rfl ?_
    refine Sem.Zx [] mixed ?_
    simp (maxSteps:=1000000) [go_sem]
    refine zo (uH hT h c1) ?_
    simp (maxSteps:=1000000) [go_sem]
    refine Sem.goto ?_
    refine zg5 (k+1) ⟨⟨c1,?_⟩,?_⟩ ?_
    ·rw[h2,wK,vd L false c1,if_pos hb];rfl
    ·show L.length- (k+1)<L.length-k;omega
    ·simp[go_sem,LeS,leV,leR,leA]
   |true=>
    have e1:N=fwW L true (L.length-k) k:=by rw[h2,wK,vd L false c1,if_neg (by rw[hb];decide)]
    simp (maxSteps:=1000000) [go_sem]
    refine Sem.cond false rfl (Sem.skip ?_)
    simp (maxSteps:=1000000) [go_sem]
    refine Sem.of [] mixed ?_
    simp (maxSteps:=1000000) [go_sem]
    refine loop (fun k:Nat=>k≤L.length∧N=fwW L true (L.length-k) k) (fun k=>[(2,.p (.int .i64 (plc L k:Nat)))]) (fun _=>[]) (fun k=>L.length-k) k ⟨h1,e1⟩ (fun k hk=>?_)
    obtain⟨h1,h2⟩:=hk
    by_cases c1:k<L.length
    ·have hI:=Kz hT h c1
     simp (maxSteps:=1000000) [go_sem]
     refine zo hI ?_
     cases hb:Qn L k with
     |false=>
      have e1:N=k:=by rw[h2,vd L true c1,if_neg (by rw[hb];decide)]
      rw[e1]
      simp (maxSteps:=1000000) [go_sem]
      exact ret
     |true=>
      simp (maxSteps:=1000000) [go_sem]
      refine zo (uH hT h c1) ?_
      simp (maxSteps:=1000000) [go_sem]
      exact next (k+1) ⟨c1,by rw[h2,vd L true c1,if_pos hb]⟩ (by omega)
    ·obtain rfl:k=L.length:=by omega
     have hZ:=Xu e l
     rw[←hs,←Zj]at hZ
     rw[Uo]at h2
     rw[h2]
     simp (maxSteps:=1000000) [go_sem]
     refine zo hZ ?_
     simp (maxSteps:=1000000) [go_sem]
     exact ret
  ·obtain rfl:k=L.length:=by omega
   have e1:N=L.length:=by rw[h2,wK,Uo,Uo]
   have g1:¬plc L L.length<l.length:=by rw[Zj,hs];omega
   have g2:¬(plc L L.length:Int)<l.length:=by omega
   have hZ:=Xu e l
   have em:elemAt (zu l) (plc L L.length)=.int .i8 0:=by
    unfold elemAt
    rw[List.getD_eq_getElem?_getD,List.getElem?_eq_none (by rw[zp];omega)];rfl
   rw[←hs,←Zj]at hZ
   rw[e1]
   refine Sem.seq (Sem.Zx [] mixed ?_)
   simp (maxSteps:=1000000) [go_sem,g2]
   refine Sem.cond false rfl (Sem.skip ?_)
   simp (maxSteps:=1000000) [go_sem]
   refine Sem.of [] mixed ?_
   simp (maxSteps:=1000000) [go_sem]
   refine loop (fun _:Unit=>True) (fun _=>[]) (fun _=>[]) (fun _=>0) () trivial (fun _ _=>?_)
   simp (maxSteps:=1000000) [go_sem]
   refine zo hZ ?_
   simp (maxSteps:=1000000) [go_sem]
   exact ret
def zhN:OT:=.now 0 2 (.now 1 2 (.now 2 2 (.now 4 0 (.now 5 0 (.now 6 0 (.now 7 0 (.now 9 2 (.mk [(3,.mk [(8,.mk [(10,.now 11 0 (.mk []))])]),(8,.now 3 0 (.mk [(10,.now 11 0 (.mk []))]))]))))))))
def zib(L:List (List Int))(a n:Int):Nat:=if n<0 then UD L (kf L a)else if n=0 then kf L a else wK L (cnt (pl L) a)
theorem zdC [Gi] {e:PV}(hT:Zc e) {x:Tx} {L:List (List Int)}(h:yP x L)(hl:Ln L.flatten L)(a n:Int):CR Tryz.prog 139 txT [.lp [0] 0,.p (.int .i64 a),.p (.int .i64 n)] (txR e x L) (keeps (txR e x L) (.int .i64 (plc L (zib L a n):Nat))):=by
 refine JE Tryz.func139 7 [] [200004,200007] [] ?_
 have hA:=WC x.g x.f x.t h.ft h.tl h.n
 obtain⟨z,y,rfl⟩:=jB hT
 unfold zib
 by_cases c1:n<0
 ·rw[if_pos c1]
  simp (maxSteps:=1000000) [go_sem,Tryz.f139,c1]
  refine Zq zhN (by kernel_rfl) ?_
  simp (maxSteps:=1000000) [go_sem,zhN]
  constructor
  ·refine call KT hA ?_
   rintro _ _ ⟨rfl,rfl⟩
   rw[h.held]
   simp (maxSteps:=1000000) [go_sem]
   refine zo (Jv hT hl a) ?_
   simp (maxSteps:=1000000) [go_sem]
   exact U4
  ·refine call KT hA ?_
   rintro _ _ ⟨rfl,rfl⟩
   rw[h.held]
   simp (maxSteps:=1000000) [go_sem]
   refine zo (Jv hT hl a) ?_
   simp (maxSteps:=1000000) [go_sem]
   exact U4
 ·rw[if_neg c1]
  by_cases c2:n=0
  ·rw[if_pos c2]
   simp (maxSteps:=1000000) [go_sem,Tryz.f139,c2]
   refine zo (jy h.cl a) ?_
   simp (maxSteps:=1000000) [go_sem]
   exact U4
  ·rw[if_neg c2]
   simp (maxSteps:=1000000) [go_sem,Tryz.f139,c1,c2]
   refine Zq zhN (by kernel_rfl) ?_
   simp (maxSteps:=1000000) [go_sem,zhN]
   constructor
   ·refine call KT hA ?_
    rintro _ _ ⟨rfl,rfl⟩
    rw[h.held]
    simp (maxSteps:=1000000) [go_sem]
    refine zo (zbN hT hl a) ?_
    simp (maxSteps:=1000000) [go_sem]
    exact U4
   ·refine call KT hA ?_
    rintro _ _ ⟨rfl,rfl⟩
    rw[h.held]
    simp (maxSteps:=1000000) [go_sem]
    refine zo (zbN hT hl a) ?_
    simp (maxSteps:=1000000) [go_sem]
    exact U4
end Go.Proofs.YtjefahhmkcfiiaaGreat
end
section
namespace Go.Proofs.YtjefahhmkcfiiaaGreat
open Go.AM
set_option maxHeartbeats 4000000
set_option maxRecDepth 10000
attribute [local irreducible] za
def itF(f:Nat→Nat):Nat→Nat→Nat
 |0,k=>k
 |n+1,k=>itF f n (f k)
theorem WM(L:List (List Int))(q:Bool):∀(n p:Nat),p+n=L.length→fwW L q n p≤L.length∧p≤fwW L q n p
 |0,p,h=>by unfold fwW;omega
 |n+1,p,h=>by
  have:=WM L q n (p+1) (by omega)
  unfold fwW
  split<;>omega
theorem Yj(L:List (List Int)) {k:Nat}(h:k≤L.length):wK L k≤L.length:=by
 have h1:=WM L false (L.length-k) k (by omega)
 have h2:=WM L true (L.length-fwW L false (L.length-k) k) (fwW L false (L.length-k) k) (by omega)
 exact h2.1
theorem zmL(L:List (List Int)) {k:Nat}(h:k<L.length):k<wK L k:=by
 unfold wK
 rw[vd L false h]
 cases hb:Qn L k with
 |true=>
  rw[if_neg (by decide),vd L true h,hb,if_pos rfl]
  have:=WM L true (L.length- (k+1)) (k+1) (by omega)
  omega
 |false=>
  rw[if_pos rfl]
  have h1:=WM L false (L.length- (k+1)) (k+1) (by omega)
  have h2:=WM L true (L.length-fwW L false (L.length- (k+1)) (k+1)) (fwW L false (L.length- (k+1)) (k+1)) (by omega)
  omega
theorem zk5(L:List (List Int)):wK L L.length=L.length:=by rw[wK,Uo,Uo]
theorem WJ(L:List (List Int))(q:Bool):∀p,bkW L q p≤p
 |0=>Nat.le_refl _
 |p+1=>by
  have:=WJ L q p
  unfold bkW
  split<;>omega
theorem zmO(L:List (List Int))(p:Nat):UD L (p+1)<p+1:=by
 unfold UD
 rw[wP]
 cases hb:Qn L p with
 |true=>
  rw[if_neg (by decide),wP,hb,if_pos rfl]
  have:=WJ L true p
  omega
 |false=>
  rw[if_pos rfl]
  have h1:=WJ L false p
  have h2:=WJ L true (bkW L false p)
  omega
theorem zcr {f:Nat→Nat} {m:Nat}(h1:∀k,k<m→k<f k∧f k≤m)(h2:f m=m):∀(n k:Nat),k≤m→m≤n+k→itF f n k=m
 |0,k,a,b=>by unfold itF;omega
 |n+1,k,a,b=>by
  rw[itF]
  by_cases c:k<m
  ·have:=h1 k c
   exact zcr h1 h2 n (f k) (by omega) (by omega)
  ·have:k=m:=by omega
   rw[this,h2]
   exact zcr h1 h2 n m (Nat.le_refl _) (by omega)
theorem XA {f:Nat→Nat}(h1:∀k,f (k+1)<k+1)(h2:f 0=0):∀(n k:Nat),k≤n→itF f n k=0
 |0,k,a=>by unfold itF;omega
 |n+1,k,a=>by
  rw[itF]
  cases k with
  |zero=>rw[h2];exact XA h1 h2 n 0 (by omega)
  |succ k=>have:=h1 k;exact XA h1 h2 n _ (by omega)
def y3(L:List (List Int))(k:Nat)(n:Int):Nat:=if n<0 then itF (UD L) (-n).toNat k else itF (wK L) n.toNat k
theorem zgr {f:Nat→Nat} {m:Nat}(h:∀k,k≤m→f k≤m):∀(n k:Nat),k≤m→itF f n k≤m
 |0,_,a=>a
 |n+1,k,a=>zgr h n _ (h k a)
theorem zb6(L:List (List Int))(k:Nat):UD L k≤k:=by
 have h1:=WJ L false k
 have h2:=WJ L true (bkW L false k)
 exact Nat.le_trans h2 h1
theorem zlQ(L:List (List Int)) {k:Nat}(n:Int)(h:k≤L.length):y3 L k n≤L.length:=by
 unfold y3
 split
 ·exact zgr (fun j hj=>Nat.le_trans (zb6 L j) hj) _ _ h
 ·exact zgr (fun j hj=>Yj L hj) _ _ h
theorem X2(L:List (List Int)) {k:Nat}(hk:k≤L.length)(n n':Int)(h:n=n'∨((L.length:Int)≤n∧(L.length:Int)≤n')∨(n≤ -(L.length:Int)∧n'≤ -(L.length:Int))):y3 L k n=y3 L k n':=by
 rcases h with h|⟨h1,h2⟩|⟨h1,h2⟩
 ·rw[h]
 ·have e:∀x:Int,(L.length:Int)≤x→y3 L k x=L.length:=fun x hx=>by
   unfold y3
   rw[if_neg (by omega)]
   exact zcr (fun j hj=>⟨zmL L hj,Yj L (by omega)⟩) (zk5 L) _ _ hk (by omega)
  rw[e n h1,e n' h2]
 ·by_cases c:L.length=0
  ·have k0:k=0:=by omega
   have e:∀x,y3 L k x=0:=fun x=>by have:=zlQ L x hk;omega
   rw[e n,e n']
  ·have e:∀x:Int,x≤ -(L.length:Int)→y3 L k x=0:=fun x hx=>by
    unfold y3
    rw[if_pos (by omega)]
    exact XA (zmO L) rfl _ _ (by omega)
   rw[e n h1,e n' h2]
theorem zmX {L:List (List Int)}(h:ClL L) {k:Nat}(hk:k≤L.length):zib L (plc L k) 1=wK L k:=by
 unfold zib
 rw[if_neg (by decide),if_neg (by decide),vE h hk]
theorem zir {L:List (List Int)}(h:ClL L) {k:Nat}(hk:k≤L.length):zib L (plc L k) (-1)=UD L k:=by
 unfold zib
 rw[if_pos (by decide),yT h hk]
def UJ:List (Tok×Tok):=[([0],[0]),([0,1],[0,1]),([0,2],[0,2])]
attribute [go_sem] UJ
theorem za7 [Gi] {e:PV}(hT:Zc e) {x:Tx} {L:List (List Int)}(h:yP x L)(hl:Ln L.flatten L) {k:Nat}(hk:k≤L.length)(n:Int)(hn: -9223372036854775808≤n∧n≤9223372036854775807):
  CR Tryz.prog 86 txT [.lp [0] 0,.p (.int .i64 (plc L k:Nat)),.p (.int .i64 n)] (txR e x L) (keeps (txR e x L) (.int .i64 (plc L (y3 L k n):Nat))):=by
 refine JE Tryz.func86 8 [21,22] [] [] ?_
 have hcl:=h.cl
 have hs:=hcl.sum
 have hlen:=hcl.len
 by_cases c1:n<0
 ·obtain⟨c,hc⟩:∃c:Nat,(c:Int)=min (-(max n (-(qd L:Int)-1))) (qd L+1):=⟨(min (-(max n (-(qd L:Int)-1))) (qd L+1)).toNat,by omega⟩
  have eN:y3 L k n=itF (UD L) c k:=by
   rw[X2 L hk n (-(c:Int)) (by omega)]
   unfold y3
   by_cases c0:c=0
   ·omega
   ·rw[if_pos (by omega)];congr 1;omega
  obtain⟨N,hN⟩:∃N,N=itF (UD L) c k:=⟨_,rfl⟩
  rw[eN,←hN]
  have w1:IntKind.i64.wrap (-(qd L:Int))= -(qd L:Int):=wrap64 (by omega) (by omega)
  have w2:IntKind.i64.wrap (-(qd L:Int)-1)= -(qd L:Int)-1:=wrap64 (by omega) (by omega)
  have w3:IntKind.i64.wrap (-(max n (-(qd L:Int)-1)))= -(max n (-(qd L:Int)-1)):=wrap64 (by omega) (by omega)
  have w4:IntKind.i64.wrap ((qd L:Int)+1)=(qd L:Int)+1:=wrap64 (by omega) (by omega)
  simp (maxSteps:=1000000) [go_sem,Tryz.f86,c1]
  refine call UJ (yA e h) ?_
  rintro _ _ ⟨rfl,rfl⟩
  simp (maxSteps:=1000000) [go_sem,w1,w2,w3]
  refine call UJ (yA e h) ?_
  rintro _ _ ⟨rfl,rfl⟩
  simp (maxSteps:=1000000) [go_sem,w4,←hc]
  refine loop (fun r:Nat×Nat=>r.1≤c∧r.2≤L.length∧N=itF (UD L) (c-r.1) r.2) (fun r=>[(22,.p (.int .i64 (r.1:Nat))),(1,.p (.int .i64 (plc L r.2:Nat)))]) (fun _=>[]) (fun r=>c-r.1) (0,k) ⟨by simp,hk,hN⟩ (fun r hr=>?_)
  obtain⟨i,p⟩:=r
  obtain⟨h1,h2,h3⟩:=hr
  simp only at h1 h2 h3
  by_cases c2:i<c
  ·have c2':(i:Int)<c:=by omega
   have w5:IntKind.i64.wrap ((i:Int)+1)=((i+1:Nat):Int):=zI (by omega)
   have hw:=zdC hT h hl (plc L p:Nat) (-1)
   rw[zir hcl h2]at hw
   have ec:c-i=(c- (i+1))+1:=by omega
   rw[ec,itF]at h3
   simp (maxSteps:=1000000) [go_sem,c2']
   refine call UJ hw ?_
   rintro _ _ ⟨rfl,rfl⟩
   simp (maxSteps:=1000000) [go_sem,w5]
   exact next (i+1,UD L p) ⟨by show i+1≤c;omega,Nat.le_trans (zb6 L p) h2,h3⟩ (by show c- (i+1)<c-i;omega)
  ·have c2':¬(i:Int)<c:=by omega
   have e1:N=p:=by rw[h3,show c-i=0 by omega];rfl
   rw[e1]
   simp (maxSteps:=1000000) [go_sem,c2']
   exact U4
 ·obtain⟨c,hc⟩:∃c:Nat,(c:Int)=min n (qd L+1):=⟨(min n (qd L+1)).toNat,by omega⟩
  have eN:y3 L k n=itF (wK L) c k:=by
   rw[X2 L hk n (c:Int) (by omega)]
   unfold y3
   rw[if_neg (by omega)];congr 1
  obtain⟨N,hN⟩:∃N,N=itF (wK L) c k:=⟨_,rfl⟩
  rw[eN,←hN]
  have w4:IntKind.i64.wrap ((qd L:Int)+1)=(qd L:Int)+1:=wrap64 (by omega) (by omega)
  simp (maxSteps:=1000000) [go_sem,Tryz.f86,c1]
  refine call UJ (yA e h) ?_
  rintro _ _ ⟨rfl,rfl⟩
  simp (maxSteps:=1000000) [go_sem,w4,←hc]
  refine loop (fun r:Nat×Nat=>r.1≤c∧r.2≤L.length∧N=itF (wK L) (c-r.1) r.2) (fun r=>[(22,.p (.int .i64 (r.1:Nat))),(1,.p (.int .i64 (plc L r.2:Nat)))]) (fun _=>[]) (fun r=>c-r.1) (0,k) ⟨by simp,hk,hN⟩ (fun r hr=>?_)
  obtain⟨i,p⟩:=r
  obtain⟨h1,h2,h3⟩:=hr
  simp only at h1 h2 h3
  by_cases c2:i<c
  ·have c2':(i:Int)<c:=by omega
   have w5:IntKind.i64.wrap ((i:Int)+1)=((i+1:Nat):Int):=zI (by omega)
   have hw:=zdC hT h hl (plc L p:Nat) 1
   rw[zmX hcl h2]at hw
   have ec:c-i=(c- (i+1))+1:=by omega
   rw[ec,itF]at h3
   simp (maxSteps:=1000000) [go_sem,c2']
   refine call UJ hw ?_
   rintro _ _ ⟨rfl,rfl⟩
   simp (maxSteps:=1000000) [go_sem,w5]
   exact next (i+1,wK L p) ⟨by show i+1≤c;omega,Yj L h2,h3⟩ (by show c- (i+1)<c-i;omega)
  ·have c2':¬(i:Int)<c:=by omega
   have e1:N=p:=by rw[h3,show c-i=0 by omega];rfl
   rw[e1]
   simp (maxSteps:=1000000) [go_sem,c2']
   exact U4
def VU(n:Int):Int:= -(max n (-1099511627776))
theorem zdv [Gi](n:Int)(hn:n≤9223372036854775807):CR Tryz.prog 85 [] [.p (.int .i64 n)] [] (is (.p (.int .i64 (VU n)))):=by
 refine walk Tryz.func85 3 [] [] [] ?_
 have w:IntKind.i64.wrap (-(max n (-1099511627776)))=VU n:=wrap64 (by omega) (by omega)
 simp (maxSteps:=1000000) [go_sem,Tryz.f85,w]
 exact ret
end Go.Proofs.YtjefahhmkcfiiaaGreat
end
section
namespace Go.Proofs.YtjefahhmkcfiiaaGreat
open Go.AM
set_option maxHeartbeats 4000000
set_option maxRecDepth 10000
attribute [local irreducible] za
structure yk(L:List (List Int))(k:Nat)(o:List (Nat×Nat)):Prop where
 seg:∀w∈o,w.1<w.2∧w.2≤k∧(∀i,w.1≤i→i<w.2→Qn L i=true)∧(w.1=0∨Qn L (w.1-1)=false)∧(w.2=k∨Qn L w.2=false)
 all:∀i,i<k→Qn L i=true→∃w∈o,w.1≤i∧i<w.2
 ord:o.Pairwise fun v w=>v.2<w.1
theorem yk.nil(L:List (List Int)):yk L 0 []:=⟨by simp,fun i hi=>by omega,by simp⟩
theorem yk.skip {L:List (List Int)} {k:Nat} {o:List (Nat×Nat)}(h:yk L k o)(hk:Qn L k=false):yk L (k+1) o:=by
 refine⟨fun w hw=>?_,fun i hi hl=>?_,h.ord⟩
 ·obtain⟨a,b,c,d,e⟩:=h.seg w hw
  refine⟨a,by omega,c,d,.inr ?_⟩
  rcases e with e|e
  ·rw[e];exact hk
  ·exact e
 ·by_cases c:i=k
  ·subst c;rw[hk]at hl;exact absurd hl (by decide)
  ·exact h.all i (by omega) hl
theorem yk.push {L:List (List Int)} {k:Nat} {o:List (Nat×Nat)}(h:yk L k o)(hk:Qn L k=true)(hn:∀w∈o,w.2≠k):yk L (k+1) (o++[(k,k+1)]):=by
 refine⟨fun w hw=>?_,fun i hi hl=>?_,?_⟩
 ·rcases List.mem_append.1 hw with hw|hw
  ·obtain⟨a1,a2,a3,a4,a5⟩:=h.seg w hw
   exact⟨a1,by omega,a3,a4,.inr (a5.resolve_left (hn w hw))⟩
  ·obtain rfl:=List.mem_singleton.1 hw
   refine⟨Nat.lt_succ_self k,Nat.le_refl _,fun i h1 h2=>?_,?_,.inl rfl⟩
   ·simp only at h1 h2
    obtain rfl:i=k:=by omega
    exact hk
   ·by_cases c:k=0
    ·exact .inl c
    ·right
     show Qn L (k-1)=false
     cases hb:Qn L (k-1)with
     |false=>rfl
     |true=>
      obtain⟨w,hw,h1,h2⟩:=h.all (k-1) (by omega) hb
      have:=(h.seg w hw).2.1
      exact absurd (show w.2=k by omega) (hn w hw)
 ·by_cases c:i=k
  ·subst c;exact⟨(i,i+1),by simp,Nat.le_refl _,Nat.lt_succ_self _⟩
  ·obtain⟨w,hw,h1,h2⟩:=h.all i (by omega) hl
   exact⟨w,List.mem_append_left _ hw,h1,h2⟩
 ·rw[List.pairwise_append]
  refine⟨h.ord,by simp,fun v hv w hw=>?_⟩
  obtain rfl:=List.mem_singleton.1 hw
  have:=(h.seg v hv).2.1
  have:=hn v hv
  show v.2<k
  omega
theorem yk.last {L:List (List Int)} {k:Nat} {o:List (Nat×Nat)} {w:Nat×Nat}(h:yk L k (o++[w]))(hw:w.2≠k):∀v∈o++[w],v.2≠k:=fun v hv=>by
 rcases List.mem_append.1 hv with hv|hv
 ·have:=(List.pairwise_append.1 h.ord).2.2 v hv w (by simp)
  obtain⟨a1,a2,_⟩:=h.seg w (by simp)
  omega
 ·obtain rfl:=List.mem_singleton.1 hv;exact hw
end Go.Proofs.YtjefahhmkcfiiaaGreat
end
section
namespace Go.Proofs.YtjefahhmkcfiiaaGreat
open Go.AM
set_option maxHeartbeats 4000000
set_option maxRecDepth 10000
attribute [local irreducible] za
def goI(L:List (List Int))(k:Nat)(n:Int):Nat:=(max (min ((k:Int)+n) L.length) 0).toNat
theorem znM(L:List (List Int))(k:Nat)(n:Int):goI L k n≤L.length:=by unfold goI;omega
def UK(L:List (List Int))(c a n:Int):Nat×Bool:=
 if c=3 then(goI L (kf L a) n,true)else if c=4 then(goI L (kf L a) (VU n),true)
 else if c=5 then(y3 L (kf L a) n,true)else if c=6 then(y3 L (kf L a) (VU n),true)
 else if c=7 then(0,true)else if c=8 then(L.length,true)else(kf L a,false)
theorem zho(L:List (List Int))(a n:Int):goK L a n=goI L (kf L a) n:=rfl
theorem zct [Gi] {e:PV}(hT:Zc e) {x:Tx} {L:List (List Int)}(h:yP x L)(hl:Ln L.flatten L)(c a n:Int)(hn: -9223372036854775808≤n∧n≤9223372036854775807):
  CR Tryz.prog 34 txT [.lp [0] 0,.p (.int .i64 c),.p (.int .i64 a),.p (.int .i64 n)] (txR e x L) (uO (txR e x L) (.tup [.p (.int .i64 (plc L (UK L c a n).1:Nat)),.p (.bool (UK L c a n).2)])):=by
 refine zpu Tryz.func34 12 [] [] [] ?_
 have hcl:=h.cl
 have hk:=uq L a
 have hb: -9223372036854775808≤VU n∧VU n≤9223372036854775807:=by unfold VU;omega
 unfold UK
 by_cases c3:c=3
 ·subst c3
  simp (maxSteps:=1000000) [go_sem,Tryz.f34]
  refine call UJ (zgg e h a n) ?_
  rintro _ _ ⟨rfl,rfl⟩
  rw[zho]
  simp (maxSteps:=1000000) [go_sem]
  exact Xs
 by_cases c4:c=4
 ·subst c4
  simp (maxSteps:=1000000) [go_sem,Tryz.f34]
  refine zo (zdv n hn.2) ?_
  simp (maxSteps:=1000000) [go_sem]
  refine call UJ (zgg e h a (VU n)) ?_
  rintro _ _ ⟨rfl,rfl⟩
  rw[zho]
  simp (maxSteps:=1000000) [go_sem]
  exact Xs
 by_cases c5:c=5
 ·subst c5
  simp (maxSteps:=1000000) [go_sem,Tryz.f34]
  refine call UJ (Ws e h a) ?_
  rintro _ _ ⟨rfl,rfl⟩
  simp (maxSteps:=1000000) [go_sem]
  refine call UJ (za7 hT h hl hk n hn) ?_
  rintro _ _ ⟨rfl,rfl⟩
  simp (maxSteps:=1000000) [go_sem]
  exact Xs
 by_cases c6:c=6
 ·subst c6
  simp (maxSteps:=1000000) [go_sem,Tryz.f34]
  refine call UJ (Ws e h a) ?_
  rintro _ _ ⟨rfl,rfl⟩
  simp (maxSteps:=1000000) [go_sem]
  refine zo (zdv n hn.2) ?_
  simp (maxSteps:=1000000) [go_sem]
  refine call UJ (za7 hT h hl hk (VU n) hb) ?_
  rintro _ _ ⟨rfl,rfl⟩
  simp (maxSteps:=1000000) [go_sem]
  exact Xs
 by_cases c7:c=7
 ·subst c7
  simp (maxSteps:=1000000) [go_sem,Tryz.f34,Qh]
  exact Xs
 by_cases c8:c=8
 ·subst c8
  simp (maxSteps:=1000000) [go_sem,Tryz.f34,Zj]
  refine call UJ (yA e h) ?_
  rintro _ _ ⟨rfl,rfl⟩
  simp (maxSteps:=1000000) [go_sem]
  exact Xs
 simp (maxSteps:=1000000) [go_sem,Tryz.f34,c3,c4,c5,c6,c7,c8]
 refine call UJ (Ws e h a) ?_
 rintro _ _ ⟨rfl,rfl⟩
 simp (maxSteps:=1000000) [go_sem]
 exact Xs
end Go.Proofs.YtjefahhmkcfiiaaGreat
end
section
namespace Go.Proofs.YtjefahhmkcfiiaaGreat
open Go.AM
set_option maxHeartbeats 4000000
set_option maxRecDepth 10000
attribute [local irreducible] za
def wC(L:List (List Int))(o:List (Nat×Nat)):List AV:=o.flatMap fun w=>[.p (.int .i64 (plc L w.1:Nat)),.p (.int .i64 (plc L w.2:Nat))]
theorem znP(L:List (List Int))(o:List (Nat×Nat)):(wC L o).length=2*o.length:=by
 induction o with
 |nil=>rfl
 |cons w o ih=>simp only[wC,List.flatMap_cons,List.length_append,List.length_cons,List.length_nil]at ih⊢;omega
attribute [go_sem] znP
end Go.Proofs.YtjefahhmkcfiiaaGreat
end
section
namespace Go.Proofs.YtjefahhmkcfiiaaGreat
open Go.AM
set_option maxHeartbeats 4000000
set_option maxRecDepth 10000
attribute [local irreducible] za
end Go.Proofs.YtjefahhmkcfiiaaGreat
end
section
namespace Go.Proofs.YtjefahhmkcfiiaaGreat
open Go.AM
set_option maxHeartbeats 4000000
set_option maxRecDepth 10000
attribute [local irreducible] za
end Go.Proofs.YtjefahhmkcfiiaaGreat
end
section
namespace Go.Proofs.YtjefahhmkcfiiaaGreat
open Go.AM
set_option maxHeartbeats 4000000
set_option maxRecDepth 10000
attribute [local irreducible] za
end Go.Proofs.YtjefahhmkcfiiaaGreat
end
section
namespace Go.Proofs.YtjefahhmkcfiiaaGreat
open Go.AM
set_option maxHeartbeats 4000000
set_option maxRecDepth 100000
attribute [local irreducible] za
end Go.Proofs.YtjefahhmkcfiiaaGreat
end
section
namespace Go.Proofs.YtjefahhmkcfiiaaGreat
open Go.AM
set_option maxHeartbeats 4000000
set_option maxRecDepth 10000
attribute [local irreducible] za
end Go.Proofs.YtjefahhmkcfiiaaGreat
end
section
namespace Go.Proofs.YtjefahhmkcfiiaaGreat
open Go.AM
set_option maxHeartbeats 4000000
set_option maxRecDepth 10000
attribute [local irreducible] za
theorem zld [Gi] {e:PV}(hT:Zc e)(L:List (List Int))(hL:zec L)(a:Int)(back:Bool):
  CR Tryz.prog 30 [] [.p (zG L a),.p e,.p (.bool back)] [] (is (.p (zG L (Jj L a back:Nat)))):=by
 obtain⟨c,b,j,f,p,h,rfl⟩:=hT
 exact zmF h _ _ _ _ L hL a back
def zn7(L:List (List Int))(k:Nat):Bool→Nat
 |true=>UD L k
 |false=>wK L k
theorem Xm [Gi](s:List Int)(a n:Int)(back:Bool)(hs:∀x∈s,zB x):CR Tryz.prog 13 [] [.p (zg s),.p (.int .i64 a),.p (.int .i64 n),.p (.bool back)] [] (is (.p (.bool true))):=by
 refine walk Tryz.func13 18 [] [14] [] ?_
 simp (maxSteps:=1000000) [go_sem,Tryz.f13]
 refine zo (vu s 60 (by decide)) ?_
 have hl:(s.take 60).length≤60:=by rw[List.length_take];omega
 have hr:∀x∈s.take 60,zB x:=fun x hx=>hs x (List.mem_of_mem_take hx)
 generalize s.take 60=l at hl hr
 simp (maxSteps:=1000000) [go_sem]
 refine zo xV ?_
 simp (maxSteps:=1000000) [go_sem]
 refine call [] kS ?_
 rintro _ _ ⟨rfl,e,rfl,hT⟩
 have hO:=zlA hT l (by omega) hr
 have hnew:=WB hT l (by omega) hr (by have:=yd l;omega)
 have hln:=lnC l (by omega) hr
 have hsh:=zpk l hl
 have hfl:=VD (zZ za l) (Zr.len l (by omega)) (Zr.rune l (by omega) hr)
 generalize zZ za l=t at hO hnew hln hsh hfl
 generalize zL za t=L at hO hnew hln hsh hfl
 obtain⟨e0,rfl⟩:=hT.pt
 simp (maxSteps:=1000000) [go_sem]
 refine zo hO ?_
 simp (maxSteps:=1000000) [go_sem]
 refine call [] hnew ?_
 rintro _ _ ⟨X,hX,_,rfl,rfl⟩
 have hcl:=hX.cl
 have hsum:=hln.sum
 have hlt:=hln.n
 simp (maxSteps:=1000000) [go_sem]
 by_cases hc:0≤a∧a≤L.length∧ -1000≤n∧n≤1000
 ·rw[decide_eq_false (by omega:¬a<0),decide_eq_false (by omega:¬(L.length:Int)<a),decide_eq_false (by omega:¬n< -1000),decide_eq_false (by omega:¬1000<n)]
  obtain⟨k,rfl⟩:∃k:Nat,a=k:=⟨a.toNat,by omega⟩
  have hk:k≤L.length:=by omega
  have hp:=K6 L k k (Ut hk) (by omega) (by omega)
  simp (maxSteps:=1000000) [go_sem]
  refine zo hp ?_
  have hle:=znM L k n
  have m1:=zct hT hX (by rw[hln.flat];exact hln) 3 (plc L k:Nat) n (by omega)
  have m2:=zct hT hX (by rw[hln.flat];exact hln) 5 (plc L k:Nat) 1 (by omega)
  have m3:=zct hT hX (by rw[hln.flat];exact hln) 6 (plc L k:Nat) 1 (by omega)
  have e1:UK L 3 (plc L k:Nat) n=(goI L k n,true):=by unfold UK;rw[if_pos rfl,yT hcl hk]
  have e2:UK L 5 (plc L k:Nat) 1=(wK L k,true):=by unfold UK;rw[if_neg (by decide),if_neg (by decide),if_pos rfl,yT hcl hk];rfl
  have e3:UK L 6 (plc L k:Nat) 1=(UD L k,true):=by unfold UK;rw[if_neg (by decide),if_neg (by decide),if_neg (by decide),if_pos rfl,yT hcl hk];rfl
  have g1:=zpt L k n (by omega)
  have ew:goL L k n=(goI L k n:Nat):=by unfold goL goI;rw[Ut hk];omega
  have w1:=K6 L (goL L k n) (goI L k n) (by rw[ew];exact Ut hle) (by omega) (by omega)
  have w2:=zld hT L hfl k back
  have hwl:Jj L k back≤L.length∧Jj L k back=zn7 L k back:=by
   unfold Jj;rw[Ut hk];cases back with
   |false=>exact⟨Yj L hk,rfl⟩
   |true=>exact⟨Nat.le_trans (zb6 L k) hk,rfl⟩
  have w3:=K6 L (Jj L k back:Nat) (Jj L k back) (Ut hwl.1) (by omega) (by omega)
  rw[e1]at m1
  rw[e2]at m2
  rw[e3]at m3
  simp (maxSteps:=1000000) [go_sem]
  refine call (xm 27) m1 ?_
  rintro _ _ ⟨rfl,rfl⟩
  cases back with
  |false=>
   rw[hwl.2,zn7]at w2 w3
   simp (maxSteps:=1000000) [go_sem]
   refine call (xm 27) m2 ?_
   rintro _ _ ⟨rfl,rfl⟩
   simp (maxSteps:=1000000) [go_sem]
   refine zo g1 ?_
   simp (maxSteps:=1000000) [go_sem]
   refine zo w1 ?_
   simp (maxSteps:=1000000) [go_sem]
   refine zo w2 ?_
   simp (maxSteps:=1000000) [go_sem]
   refine zo w3 ?_
   simp (maxSteps:=1000000) [go_sem]
   refine zo xH ?_
   simp (maxSteps:=1000000) [go_sem]
   exact ret
  |true=>
   rw[hwl.2,zn7]at w2 w3
   simp (maxSteps:=1000000) [go_sem]
   refine call (xm 27) m3 ?_
   rintro _ _ ⟨rfl,rfl⟩
   simp (maxSteps:=1000000) [go_sem]
   refine zo g1 ?_
   simp (maxSteps:=1000000) [go_sem]
   refine zo w1 ?_
   simp (maxSteps:=1000000) [go_sem]
   refine zo w2 ?_
   simp (maxSteps:=1000000) [go_sem]
   refine zo w3 ?_
   simp (maxSteps:=1000000) [go_sem]
   refine zo xH ?_
   simp (maxSteps:=1000000) [go_sem]
   exact ret
 ·have hb:(decide (a<0) || decide ((L.length:Int)<a) || decide (n< -1000) || decide (1000<n))=true:=by
   simp only[Bool.or_eq_true,decide_eq_true_eq];omega
  rw[hb]
  simp (maxSteps:=1000000) [go_sem]
  refine zo xH ?_
  simp (maxSteps:=1000000) [go_sem]
  exact ret
end Go.Proofs.YtjefahhmkcfiiaaGreat
end
