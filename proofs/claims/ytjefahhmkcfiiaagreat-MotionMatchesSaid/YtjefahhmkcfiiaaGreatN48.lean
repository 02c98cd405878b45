/- A part of the proof of this seat's statements, by an abstract machine: what each operation does to values, and what the law's functions compute. Conditions: as each law says. -/
import Derived.Test.YtjefahhmkcfiiaaGreatN47
section
namespace Go.Proofs.YtjefahhmkcfiiaaGreat
open Go.AM
set_option maxHeartbeats 4000000
set_option maxRecDepth 10000
attribute [local irreducible] za
theorem zav [Gi] {e:PV}(hT:ZR e) {l:List Int} {L:List (List Int)}(h:Ln l L)(a:Int):CR Tryz.prog 183 [] [.p e,.p (zh l),.p (.int .i64 a)] [] (is (.p (.int .i64 (plc L (jU L (cnt (pl L) a)):Nat)))):=by
 refine XD 7 [] Tryz.func183 rfl [] rfl (by simp) (by simp) ?_
 have hs:=h.sum
 have hcl:=h.cl
 have hc:=zfA L a
 obtain⟨N,hN⟩:∃N,N=jU L (cnt (pl L) a):=⟨_,rfl⟩
 rw[←hN]
 refine Sem.WV [] mixed ?_
 simp (maxSteps:=1000000) [go_sem,Tryz.f183]
 refine Sem.zlG (ι:=Nat) 0 (fun k=>k≤L.length∧N=jU L k) (fun k=>{n:=35,nv:=7,vs:=[(0,.p e),(1,.p (.sl 1 (zB l))),(2,.p (.int .i64 (plc L k:Nat))),(6,.p (.int .i64 0))],ts:=[],rs:=[]}) (fun k=>L.length-k) rfl (fun hr=>?_) (fun k hk=>?_)
 ·refine Sem.WV [] mixed ?_
  simp (maxSteps:=1000000) [go_sem]
  refine zn (ziH hT h a) ?_
  simp (maxSteps:=1000000) [go_sem]
  exact Sem.label (Sem.clean (hr (cnt (pl L) a) ⟨hc,hN⟩))
 ·obtain⟨h1,h2⟩:=hk
  by_cases c1:k<L.length
  ·have g1:=qS hcl c1 (Nat.le_refl _)
   rw[qc,hs]at g1
   have g2:(plc L k:Int)<l.length:=by omega
   have hI:=V6 hT h c1
   refine Sem.seq (Sem.WV [] mixed ?_)
   simp (maxSteps:=1000000) [go_sem,g2]
   refine zn hI ?_
   cases hb:qT L k with
   |false=>
    simp (maxSteps:=1000000) [go_sem]
    refine Sem.cond true rfl ?_
    refine Sem.WV [] mixed ?_
    simp (maxSteps:=1000000) [go_sem]
    refine zn (VR hT h c1) ?_
    simp (maxSteps:=1000000) [go_sem]
    refine Sem.goto ?_
    refine zel (k+1) ⟨⟨c1,?_⟩,?_⟩ ?_
    ·rw[h2,jU,xN L false c1,if_pos hb];rfl
    ·show L.length- (k+1)<L.length-k;omega
    ·simp[go_sem,LeS,leV,leR,leA]
   |true=>
    have e1:N=fwW L true (L.length-k) k:=by rw[h2,jU,xN L false c1,if_neg (by rw[hb];decide)]
    simp (maxSteps:=1000000) [go_sem]
    refine Sem.cond false rfl (Sem.skip ?_)
    simp (maxSteps:=1000000) [go_sem]
    refine Sem.of [] mixed ?_
    simp (maxSteps:=1000000) [go_sem]
    refine loop (fun k:Nat=>k≤L.length∧N=fwW L true (L.length-k) k) (fun k=>[(2,.p (.int .i64 (plc L k:Nat)))]) (fun _=>[]) (fun k=>L.length-k) k ⟨h1,e1⟩ (fun k hk=>?_)
    obtain⟨h1,h2⟩:=hk
    by_cases c1:k<L.length
    ·have hI:=V6 hT h c1
     simp (maxSteps:=1000000) [go_sem]
     refine zn hI ?_
     cases hb:qT L k with
     |false=>
      have e1:N=k:=by rw[h2,xN L true c1,if_neg (by rw[hb];decide)]
      rw[e1]
      simp (maxSteps:=1000000) [go_sem]
      exact ret
     |true=>
      simp (maxSteps:=1000000) [go_sem]
      refine zn (VR hT h c1) ?_
      simp (maxSteps:=1000000) [go_sem]
      exact next (k+1) ⟨c1,by rw[h2,xN L true c1,if_pos hb]⟩ (by omega)
    ·obtain rfl:k=L.length:=by omega
     have hZ:=J5 e l
     rw[←hs,←qc]at hZ
     rw[uC]at h2
     rw[h2]
     simp (maxSteps:=1000000) [go_sem]
     refine zn hZ ?_
     simp (maxSteps:=1000000) [go_sem]
     exact ret
  ·obtain rfl:k=L.length:=by omega
   have e1:N=L.length:=by rw[h2,jU,uC,uC]
   have g1:¬plc L L.length<l.length:=by rw[qc,hs];omega
   have g2:¬(plc L L.length:Int)<l.length:=by omega
   have hZ:=J5 e l
   have em:elemAt (zB l) (plc L L.length)=.int .i8 0:=by
    unfold elemAt
    rw[List.getD_eq_getElem?_getD,List.getElem?_eq_none (by rw[zp];omega)];rfl
   rw[←hs,←qc]at hZ
   rw[e1]
   refine Sem.seq (Sem.WV [] mixed ?_)
   simp (maxSteps:=1000000) [go_sem,g2]
   refine Sem.cond false rfl (Sem.skip ?_)
   simp (maxSteps:=1000000) [go_sem]
   refine Sem.of [] mixed ?_
   simp (maxSteps:=1000000) [go_sem]
   refine loop (fun _:Unit=>True) (fun _=>[]) (fun _=>[]) (fun _=>0) () trivial (fun _ _=>?_)
   simp (maxSteps:=1000000) [go_sem]
   refine zn hZ ?_
   simp (maxSteps:=1000000) [go_sem]
   exact ret
def zft:OT:=.now 0 2 (.now 1 2 (.now 2 2 (.now 4 0 (.now 5 0 (.now 6 0 (.now 7 0 (.now 9 2 (.mk [(3,.mk [(8,.mk [(10,.now 11 0 (.mk []))])]),(8,.now 3 0 (.mk [(10,.now 11 0 (.mk []))]))]))))))))
def zgh(L:List (List Int))(a n:Int):Nat:=if n<0 then yx L (kf L a)else if n=0 then kf L a else jU L (cnt (pl L) a)
theorem zco [Gi] {e:PV}(hT:ZR e) {x:Tx} {L:List (List Int)}(h:Wr x L)(hl:Ln L.flatten L)(a n:Int):CR Tryz.prog 139 txT [.lp [0] 0,.p (.int .i64 a),.p (.int .i64 n)] (txR e x L) (keeps (txR e x L) (.int .i64 (plc L (zgh L a n):Nat))):=by
 refine X0 Tryz.func139 7 [] [200004,200007] [] ?_
 have hA:=X5 x.g x.f x.t h.ft h.tl h.n
 obtain⟨z,y,rfl⟩:=XM hT
 unfold zgh
 by_cases c1:n<0
 ·rw[if_pos c1]
  simp (maxSteps:=1000000) [go_sem,Tryz.f139,c1]
  refine Zg zft (by kernel_rfl) ?_
  simp (maxSteps:=1000000) [go_sem,zft]
  constructor
  ·refine call zdK hA ?_
   rintro _ _ ⟨rfl,rfl⟩
   rw[h.held]
   simp (maxSteps:=1000000) [go_sem]
   refine zn (Ka hT hl a) ?_
   simp (maxSteps:=1000000) [go_sem]
   exact YK
  ·refine call zdK hA ?_
   rintro _ _ ⟨rfl,rfl⟩
   rw[h.held]
   simp (maxSteps:=1000000) [go_sem]
   refine zn (Ka hT hl a) ?_
   simp (maxSteps:=1000000) [go_sem]
   exact YK
 ·rw[if_neg c1]
  by_cases c2:n=0
  ·rw[if_pos c2]
   simp (maxSteps:=1000000) [go_sem,Tryz.f139,c2]
   refine zn (UK h.cl a) ?_
   simp (maxSteps:=1000000) [go_sem]
   exact YK
  ·rw[if_neg c2]
   simp (maxSteps:=1000000) [go_sem,Tryz.f139,c1,c2]
   refine Zg zft (by kernel_rfl) ?_
   simp (maxSteps:=1000000) [go_sem,zft]
   constructor
   ·refine call zdK hA ?_
    rintro _ _ ⟨rfl,rfl⟩
    rw[h.held]
    simp (maxSteps:=1000000) [go_sem]
    refine zn (zav hT hl a) ?_
    simp (maxSteps:=1000000) [go_sem]
    exact YK
   ·refine call zdK hA ?_
    rintro _ _ ⟨rfl,rfl⟩
    rw[h.held]
    simp (maxSteps:=1000000) [go_sem]
    refine zn (zav hT hl a) ?_
    simp (maxSteps:=1000000) [go_sem]
    exact YK
end Go.Proofs.YtjefahhmkcfiiaaGreat
end
section
namespace Go.Proofs.YtjefahhmkcfiiaaGreat
open Go.AM
set_option maxHeartbeats 4000000
set_option maxRecDepth 10000
attribute [local irreducible] za
def itF(f:Nat→Nat):Nat→Nat→Nat
 |0,k=>k
 |n+1,k=>itF f n (f k)
theorem uu(L:List (List Int))(q:Bool):∀(n p:Nat),p+n=L.length→fwW L q n p≤L.length∧p≤fwW L q n p
 |0,p,h=>by unfold fwW;omega
 |n+1,p,h=>by
  have:=uu L q n (p+1) (by omega)
  unfold fwW
  split<;>omega
theorem uP(L:List (List Int)) {k:Nat}(h:k≤L.length):jU L k≤L.length:=by
 have h1:=uu L false (L.length-k) k (by omega)
 have h2:=uu L true (L.length-fwW L false (L.length-k) k) (fwW L false (L.length-k) k) (by omega)
 exact h2.1
theorem zbg(L:List (List Int)) {k:Nat}(h:k<L.length):k<jU L k:=by
 unfold jU
 rw[xN L false h]
 cases hb:qT L k with
 |true=>
  rw[if_neg (by decide),xN L true h,hb,if_pos rfl]
  have:=uu L true (L.length- (k+1)) (k+1) (by omega)
  omega
 |false=>
  rw[if_pos rfl]
  have h1:=uu L false (L.length- (k+1)) (k+1) (by omega)
  have h2:=uu L true (L.length-fwW L false (L.length- (k+1)) (k+1)) (fwW L false (L.length- (k+1)) (k+1)) (by omega)
  omega
theorem zbZ(L:List (List Int)):jU L L.length=L.length:=by rw[jU,uC,uC]
theorem uA(L:List (List Int))(q:Bool):∀p,bkW L q p≤p
 |0=>Nat.le_refl _
 |p+1=>by
  have:=uA L q p
  unfold bkW
  split<;>omega
theorem zba(L:List (List Int))(p:Nat):yx L (p+1)<p+1:=by
 unfold yx
 rw[xX]
 cases hb:qT L p with
 |true=>
  rw[if_neg (by decide),xX,hb,if_pos rfl]
  have:=uA L true p
  omega
 |false=>
  rw[if_pos rfl]
  have h1:=uA L false p
  have h2:=uA L true (bkW L false p)
  omega
theorem KW {f:Nat→Nat} {m:Nat}(h1:∀k,k<m→k<f k∧f k≤m)(h2:f m=m):∀(n k:Nat),k≤m→m≤n+k→itF f n k=m
 |0,k,a,b=>by unfold itF;omega
 |n+1,k,a,b=>by
  rw[itF]
  by_cases c:k<m
  ·have:=h1 k c
   exact KW h1 h2 n (f k) (by omega) (by omega)
  ·have:k=m:=by omega
   rw[this,h2]
   exact KW h1 h2 n m (Nat.le_refl _) (by omega)
theorem Vj {f:Nat→Nat}(h1:∀k,f (k+1)<k+1)(h2:f 0=0):∀(n k:Nat),k≤n→itF f n k=0
 |0,k,a=>by unfold itF;omega
 |n+1,k,a=>by
  rw[itF]
  cases k with
  |zero=>rw[h2];exact Vj h1 h2 n 0 (by omega)
  |succ k=>have:=h1 k;exact Vj h1 h2 n _ (by omega)
def Zj(L:List (List Int))(k:Nat)(n:Int):Nat:=if n<0 then itF (yx L) (-n).toNat k else itF (jU L) n.toNat k
theorem zeR {f:Nat→Nat} {m:Nat}(h:∀k,k≤m→f k≤m):∀(n k:Nat),k≤m→itF f n k≤m
 |0,_,a=>a
 |n+1,k,a=>zeR h n _ (h k a)
theorem zaC(L:List (List Int))(k:Nat):yx L k≤k:=by
 have h1:=uA L false k
 have h2:=uA L true (bkW L false k)
 exact Nat.le_trans h2 h1
theorem VH(L:List (List Int)) {k:Nat}(n:Int)(h:k≤L.length):Zj L k n≤L.length:=by
 unfold Zj
 split
 ·exact zeR (fun j hj=>Nat.le_trans (zaC L j) hj) _ _ h
 ·exact zeR (fun j hj=>uP L hj) _ _ h
theorem wZ(L:List (List Int)) {k:Nat}(hk:k≤L.length)(n n':Int)(h:n=n'∨((L.length:Int)≤n∧(L.length:Int)≤n')∨(n≤ -(L.length:Int)∧n'≤ -(L.length:Int))):Zj L k n=Zj L k n':=by
 rcases h with h|⟨h1,h2⟩|⟨h1,h2⟩
 ·rw[h]
 ·have e:∀x:Int,(L.length:Int)≤x→Zj L k x=L.length:=fun x hx=>by
   unfold Zj
   rw[if_neg (by omega)]
   exact KW (fun j hj=>⟨zbg L hj,uP L (by omega)⟩) (zbZ L) _ _ hk (by omega)
  rw[e n h1,e n' h2]
 ·by_cases c:L.length=0
  ·have k0:k=0:=by omega
   have e:∀x,Zj L k x=0:=fun x=>by have:=VH L x hk;omega
   rw[e n,e n']
  ·have e:∀x:Int,x≤ -(L.length:Int)→Zj L k x=0:=fun x hx=>by
    unfold Zj
    rw[if_pos (by omega)]
    exact Vj (zba L) rfl _ _ (by omega)
   rw[e n h1,e n' h2]
theorem zkB {L:List (List Int)}(h:ClL L) {k:Nat}(hk:k≤L.length):zgh L (plc L k) 1=jU L k:=by
 unfold zgh
 rw[if_neg (by decide),if_neg (by decide),Vy h hk]
theorem zhB {L:List (List Int)}(h:ClL L) {k:Nat}(hk:k≤L.length):zgh L (plc L k) (-1)=yx L k:=by
 unfold zgh
 rw[if_pos (by decide),yW h hk]
def QG:List (Tok×Tok):=[([0],[0]),([0,1],[0,1]),([0,2],[0,2])]
attribute [go_sem] QG
theorem uB [Gi] {e:PV}(hT:ZR e) {x:Tx} {L:List (List Int)}(h:Wr x L)(hl:Ln L.flatten L) {k:Nat}(hk:k≤L.length)(n:Int)(hn: -9223372036854775808≤n∧n≤9223372036854775807):
  CR Tryz.prog 86 txT [.lp [0] 0,.p (.int .i64 (plc L k:Nat)),.p (.int .i64 n)] (txR e x L) (keeps (txR e x L) (.int .i64 (plc L (Zj L k n):Nat))):=by
 refine X0 Tryz.func86 8 [21,22] [] [] ?_
 have hcl:=h.cl
 have hs:=hcl.sum
 have hlen:=hcl.len
 by_cases c1:n<0
 ·obtain⟨c,hc⟩:∃c:Nat,(c:Int)=min (-(max n (-(qi L:Int)-1))) (qi L+1):=⟨(min (-(max n (-(qi L:Int)-1))) (qi L+1)).toNat,by omega⟩
  have eN:Zj L k n=itF (yx L) c k:=by
   rw[wZ L hk n (-(c:Int)) (by omega)]
   unfold Zj
   by_cases c0:c=0
   ·omega
   ·rw[if_pos (by omega)];congr 1;omega
  obtain⟨N,hN⟩:∃N,N=itF (yx L) c k:=⟨_,rfl⟩
  rw[eN,←hN]
  have w1:IntKind.i64.wrap (-(qi L:Int))= -(qi L:Int):=wrap64 (by omega) (by omega)
  have w2:IntKind.i64.wrap (-(qi L:Int)-1)= -(qi L:Int)-1:=wrap64 (by omega) (by omega)
  have w3:IntKind.i64.wrap (-(max n (-(qi L:Int)-1)))= -(max n (-(qi L:Int)-1)):=wrap64 (by omega) (by omega)
  have w4:IntKind.i64.wrap ((qi L:Int)+1)=(qi L:Int)+1:=wrap64 (by omega) (by omega)
  simp (maxSteps:=1000000) [go_sem,Tryz.f86,c1]
  refine call QG (xz e h) ?_
  rintro _ _ ⟨rfl,rfl⟩
  simp (maxSteps:=1000000) [go_sem,w1,w2,w3]
  refine call QG (xz e h) ?_
  rintro _ _ ⟨rfl,rfl⟩
  simp (maxSteps:=1000000) [go_sem,w4,←hc]
  refine loop (fun r:Nat×Nat=>r.1≤c∧r.2≤L.length∧N=itF (yx L) (c-r.1) r.2) (fun r=>[(22,.p (.int .i64 (r.1:Nat))),(1,.p (.int .i64 (plc L r.2:Nat)))]) (fun _=>[]) (fun r=>c-r.1) (0,k) ⟨by simp,hk,hN⟩ (fun r hr=>?_)
  obtain⟨i,p⟩:=r
  obtain⟨h1,h2,h3⟩:=hr
  simp only at h1 h2 h3
  by_cases c2:i<c
  ·have c2':(i:Int)<c:=by omega
   have w5:IntKind.i64.wrap ((i:Int)+1)=((i+1:Nat):Int):=zP (by omega)
   have hw:=zco hT h hl (plc L p:Nat) (-1)
   rw[zhB hcl h2]at hw
   have ec:c-i=(c- (i+1))+1:=by omega
   rw[ec,itF]at h3
   simp (maxSteps:=1000000) [go_sem,c2']
   refine call QG hw ?_
   rintro _ _ ⟨rfl,rfl⟩
   simp (maxSteps:=1000000) [go_sem,w5]
   exact next (i+1,yx L p) ⟨by show i+1≤c;omega,Nat.le_trans (zaC L p) h2,h3⟩ (by show c- (i+1)<c-i;omega)
  ·have c2':¬(i:Int)<c:=by omega
   have e1:N=p:=by rw[h3,show c-i=0 by omega];rfl
   rw[e1]
   simp (maxSteps:=1000000) [go_sem,c2']
   exact YK
 ·obtain⟨c,hc⟩:∃c:Nat,(c:Int)=min n (qi L+1):=⟨(min n (qi L+1)).toNat,by omega⟩
  have eN:Zj L k n=itF (jU L) c k:=by
   rw[wZ L hk n (c:Int) (by omega)]
   unfold Zj
   rw[if_neg (by omega)];congr 1
  obtain⟨N,hN⟩:∃N,N=itF (jU L) c k:=⟨_,rfl⟩
  rw[eN,←hN]
  have w4:IntKind.i64.wrap ((qi L:Int)+1)=(qi L:Int)+1:=wrap64 (by omega) (by omega)
  simp (maxSteps:=1000000) [go_sem,Tryz.f86,c1]
  refine call QG (xz e h) ?_
  rintro _ _ ⟨rfl,rfl⟩
  simp (maxSteps:=1000000) [go_sem,w4,←hc]
  refine loop (fun r:Nat×Nat=>r.1≤c∧r.2≤L.length∧N=itF (jU L) (c-r.1) r.2) (fun r=>[(22,.p (.int .i64 (r.1:Nat))),(1,.p (.int .i64 (plc L r.2:Nat)))]) (fun _=>[]) (fun r=>c-r.1) (0,k) ⟨by simp,hk,hN⟩ (fun r hr=>?_)
  obtain⟨i,p⟩:=r
  obtain⟨h1,h2,h3⟩:=hr
  simp only at h1 h2 h3
  by_cases c2:i<c
  ·have c2':(i:Int)<c:=by omega
   have w5:IntKind.i64.wrap ((i:Int)+1)=((i+1:Nat):Int):=zP (by omega)
   have hw:=zco hT h hl (plc L p:Nat) 1
   rw[zkB hcl h2]at hw
   have ec:c-i=(c- (i+1))+1:=by omega
   rw[ec,itF]at h3
   simp (maxSteps:=1000000) [go_sem,c2']
   refine call QG hw ?_
   rintro _ _ ⟨rfl,rfl⟩
   simp (maxSteps:=1000000) [go_sem,w5]
   exact next (i+1,jU L p) ⟨by show i+1≤c;omega,uP L h2,h3⟩ (by show c- (i+1)<c-i;omega)
  ·have c2':¬(i:Int)<c:=by omega
   have e1:N=p:=by rw[h3,show c-i=0 by omega];rfl
   rw[e1]
   simp (maxSteps:=1000000) [go_sem,c2']
   exact YK
def Qa(n:Int):Int:= -(max n (-1099511627776))
theorem VI [Gi](n:Int)(hn:n≤9223372036854775807):CR Tryz.prog 85 [] [.p (.int .i64 n)] [] (is (.p (.int .i64 (Qa n)))):=by
 refine walk Tryz.func85 3 [] [] [] ?_
 have w:IntKind.i64.wrap (-(max n (-1099511627776)))=Qa n:=wrap64 (by omega) (by omega)
 simp (maxSteps:=1000000) [go_sem,Tryz.f85,w]
 exact ret
end Go.Proofs.YtjefahhmkcfiiaaGreat
end
section
namespace Go.Proofs.YtjefahhmkcfiiaaGreat
open Go.AM
set_option maxHeartbeats 4000000
set_option maxRecDepth 10000
attribute [local irreducible] za
theorem zmh [Gi] {l:List Int} {L:List (List Int)}(h:Ln l L) {k:Nat}(hk:k<L.length):CR Tryz.prog 217 [] [.p (zC za),.p (zh l),.p (.int .i64 (plc L k:Nat))] [] (is (.p (.bool (qT L k)))):=by
 refine walk Tryz.func217 7 [] [] [] ?_
 obtain⟨x,x1,x2,hx⟩:=zfX h hk
 have hlt:plc L k<l.length:=(List.getElem?_eq_some_iff.1 x1).1
 have em:elemAt (zB l) (plc L k)=.int .i32 x:=by rw[ZF hlt,(List.getElem?_eq_some_iff.1 x1).2]
 have e1:qT L k=decide (aL za 8 x=1):=by rw[qT,x2]
 have g:(plc L k:Int)<l.length:=by omega
 have g0:(0:Int)≤plc L k:=by omega
 have hb:CR Tryz.prog 90 [] [.p (zC za),.p (zh l),.p (.int .i64 (plc L k:Nat))] [] (is (.p (.bool true))):=by
  by_cases c:plc L k=0
  ·rw[c];exact Yr l
  ·obtain⟨m,hm⟩:∃m,plc L k=m+1:=⟨plc L k-1,by omega⟩
   have hb:=UA kh l (plc L k) m hm hlt h.n h.r
   have hb2:=KT l L h.eq h.cl m (by omega)
   have hb3:isB L ((m+1:Nat):Int)=true:=by rw[←hm];exact xd h.cl (by omega)
   rw[hb3]at hb2
   simp only[hm]at hb⊢
   rw[hb2]at hb
   exact hb
 rw[e1]
 simp (maxSteps:=1000000) [go_sem,Tryz.f217,g,g0,em]
 refine zn hb ?_
 simp (maxSteps:=1000000) [go_sem,em,g]
 refine zn (jf za 8 x zaI hx) ?_
 simp (maxSteps:=1000000) [go_sem]
 exact ret
structure qX(L:List (List Int))(k:Nat)(o:List (Nat×Nat)):Prop where
 seg:∀w∈o,w.1<w.2∧w.2≤k∧(∀i,w.1≤i→i<w.2→qT L i=true)∧(w.1=0∨qT L (w.1-1)=false)∧(w.2=k∨qT L w.2=false)
 all:∀i,i<k→qT L i=true→∃w∈o,w.1≤i∧i<w.2
 ord:o.Pairwise fun v w=>v.2<w.1
theorem qX.nil(L:List (List Int)):qX L 0 []:=⟨by simp,fun i hi=>by omega,by simp⟩
theorem qX.skip {L:List (List Int)} {k:Nat} {o:List (Nat×Nat)}(h:qX L k o)(hk:qT L k=false):qX L (k+1) o:=by
 refine⟨fun w hw=>?_,fun i hi hl=>?_,h.ord⟩
 ·obtain⟨a,b,c,d,e⟩:=h.seg w hw
  refine⟨a,by omega,c,d,.inr ?_⟩
  rcases e with e|e
  ·rw[e];exact hk
  ·exact e
 ·by_cases c:i=k
  ·subst c;rw[hk]at hl;exact absurd hl (by decide)
  ·exact h.all i (by omega) hl
theorem qX.more {L:List (List Int)} {k b:Nat} {o:List (Nat×Nat)}(h:qX L k (o++[(b,k)]))(hk:qT L k=true):qX L (k+1) (o++[(b,k+1)]):=by
 have hb:=h.seg (b,k) (by simp)
 simp only at hb
 have ho:=List.pairwise_append.1 h.ord
 refine⟨fun w hw=>?_,fun i hi hl=>?_,?_⟩
 ·rcases List.mem_append.1 hw with hw|hw
  ·obtain⟨a1,a2,a3,a4,a5⟩:=h.seg w (List.mem_append_left _ hw)
   have:=ho.2.2 w hw (b,k) (by simp)
   simp only at this
   exact⟨a1,by omega,a3,a4,.inr (a5.resolve_left (by omega))⟩
  ·obtain rfl:=List.mem_singleton.1 hw
   refine⟨by show b<k+1;omega,Nat.le_refl _,fun i h1 h2=>?_,hb.2.2.2.1,.inl rfl⟩
   simp only at h1 h2
   by_cases c:i=k
   ·subst c;exact hk
   ·exact hb.2.2.1 i h1 (by omega)
 ·by_cases c:i=k
  ·subst c;exact⟨(b,i+1),by simp,by show b≤i;omega,by show i<i+1;omega⟩
  ·obtain⟨w,hw,h1,h2⟩:=h.all i (by omega) hl
   rcases List.mem_append.1 hw with hw|hw
   ·exact⟨w,List.mem_append_left _ hw,h1,h2⟩
   ·obtain rfl:=List.mem_singleton.1 hw
    simp only at h1 h2
    exact⟨(b,k+1),by simp,h1,by show i<k+1;omega⟩
 ·rw[List.pairwise_append]
  refine⟨ho.1,by simp,fun v hv w hw=>?_⟩
  obtain rfl:=List.mem_singleton.1 hw
  exact ho.2.2 v hv (b,k) (by simp)
theorem qX.push {L:List (List Int)} {k:Nat} {o:List (Nat×Nat)}(h:qX L k o)(hk:qT L k=true)(hn:∀w∈o,w.2≠k):qX L (k+1) (o++[(k,k+1)]):=by
 refine⟨fun w hw=>?_,fun i hi hl=>?_,?_⟩
 ·rcases List.mem_append.1 hw with hw|hw
  ·obtain⟨a1,a2,a3,a4,a5⟩:=h.seg w hw
   exact⟨a1,by omega,a3,a4,.inr (a5.resolve_left (hn w hw))⟩
  ·obtain rfl:=List.mem_singleton.1 hw
   refine⟨Nat.lt_succ_self k,Nat.le_refl _,fun i h1 h2=>?_,?_,.inl rfl⟩
   ·simp only at h1 h2
    obtain rfl:i=k:=by omega
    exact hk
   ·by_cases c:k=0
    ·exact .inl c
    ·right
     show qT L (k-1)=false
     cases hb:qT L (k-1)with
     |false=>rfl
     |true=>
      obtain⟨w,hw,h1,h2⟩:=h.all (k-1) (by omega) hb
      have:=(h.seg w hw).2.1
      exact absurd (show w.2=k by omega) (hn w hw)
 ·by_cases c:i=k
  ·subst c;exact⟨(i,i+1),by simp,Nat.le_refl _,Nat.lt_succ_self _⟩
  ·obtain⟨w,hw,h1,h2⟩:=h.all i (by omega) hl
   exact⟨w,List.mem_append_left _ hw,h1,h2⟩
 ·rw[List.pairwise_append]
  refine⟨h.ord,by simp,fun v hv w hw=>?_⟩
  obtain rfl:=List.mem_singleton.1 hw
  have:=(h.seg v hv).2.1
  have:=hn v hv
  show v.2<k
  omega
theorem qX.last {L:List (List Int)} {k:Nat} {o:List (Nat×Nat)} {w:Nat×Nat}(h:qX L k (o++[w]))(hw:w.2≠k):∀v∈o++[w],v.2≠k:=fun v hv=>by
 rcases List.mem_append.1 hv with hv|hv
 ·have:=(List.pairwise_append.1 h.ord).2.2 v hv w (by simp)
  obtain⟨a1,a2,_⟩:=h.seg w (by simp)
  omega
 ·obtain rfl:=List.mem_singleton.1 hv;exact hw
theorem zaO(L:List (List Int))(q:Bool):∀(n p j:Nat),p≤j→j≤p+n→(∀i,p≤i→i<j→qT L i=q)→(j=p+n∨qT L j≠q)→fwW L q n p=j
 |0,p,j,h1,h2,_,_=>by unfold fwW;omega
 |n+1,p,j,h1,h2,h3,h4=>by
  rw[fwW]
  by_cases c:p=j
  ·subst c;rw[if_neg (h4.resolve_left (by omega))]
  ·rw[if_pos (h3 p (Nat.le_refl _) (by omega))]
   exact zaO L q n (p+1) j (by omega) (by omega) (fun i a b=>h3 i (by omega) b) (h4.imp (fun e=>by omega) _root_.id)
theorem zbz(L:List (List Int))(q:Bool):∀(p j:Nat),j≤p→(∀i,j≤i→i<p→qT L i=q)→(j=0∨qT L (j-1)≠q)→bkW L q p=j
 |0,j,h1,_,_=>by unfold bkW;omega
 |p+1,j,h1,h3,h4=>by
  rw[bkW]
  by_cases c:p+1=j
  ·subst c
   have h5:=h4.resolve_left (by omega)
   rw[Nat.add_sub_cancel]at h5
   rw[if_neg h5]
  ·rw[if_pos (h3 p (by omega) (by omega))]
   exact zbz L q p j (by omega) (fun i a b=>h3 i a (by omega)) h4
theorem qX.fwd {L:List (List Int)} {o1 o2:List (Nat×Nat)} {w:Nat×Nat}(h:qX L L.length (o1++w::o2)) {k:Nat}(hk:k≤L.length)(h1:∀v∈o1,v.2≤k)(h2:k<w.2):jU L k=w.2:=by
 obtain⟨a1,a2,a3,a4,a5⟩:=h.seg w (by simp)
 have ho:=List.pairwise_append.1 h.ord
 have hno:∀i,k≤i→i<w.1→qT L i=false:=fun i b1 b2=>by
  cases hb:qT L i with
  |false=>rfl
  |true=>
   obtain⟨v,hv,c1,c2⟩:=h.all i (by omega) hb
   rcases List.mem_append.1 hv with hv|hv
   ·have:=h1 v hv;omega
   ·rcases List.mem_cons.1 hv with rfl|hv
    ·omega
    ·have:=(List.pairwise_cons.1 ho.2.1).1 v hv;omega
 have e1:fwW L false (L.length-k) k=max k w.1:=zaO L false _ _ _ (by omega) (by omega) (fun i b1 b2=>hno i b1 (by omega)) (.inr (by rw[a3 (max k w.1) (by omega) (by omega)];decide))
 unfold jU
 rw[e1]
 refine zaO L true _ _ _ (by omega) (by omega) (fun i b1 b2=>a3 i (by omega) b2) ?_
 rcases a5 with a5|a5
 ·left;omega
 ·right;rw[a5];decide
theorem qX.zlU {L:List (List Int)} {o:List (Nat×Nat)}(h:qX L L.length o) {k:Nat}(hk:k≤L.length)(h1:∀v∈o,v.2≤k):jU L k=L.length:=by
 have e1:fwW L false (L.length-k) k=L.length:=zaO L false _ _ _ hk (by omega) (fun i b1 b2=>by
  cases hb:qT L i with
  |false=>rfl
  |true=>
   obtain⟨v,hv,c1,c2⟩:=h.all i b2 hb
   have:=h1 v hv;omega) (.inl (by omega))
 unfold jU
 rw[e1,uC]
theorem qX.bwd {L:List (List Int)} {o1 o2:List (Nat×Nat)} {w:Nat×Nat}(h:qX L L.length (o1++w::o2)) {k:Nat}(hk:k≤L.length)(h1:∀v∈o2,k≤v.1)(h2:w.1<k):yx L k=w.1:=by
 obtain⟨a1,a2,a3,a4,a5⟩:=h.seg w (by simp)
 have ho:=List.pairwise_append.1 h.ord
 have hno:∀i,w.2≤i→i<k→qT L i=false:=fun i b1 b2=>by
  cases hb:qT L i with
  |false=>rfl
  |true=>
   obtain⟨v,hv,c1,c2⟩:=h.all i (by omega) hb
   rcases List.mem_append.1 hv with hv|hv
   ·have:=ho.2.2 v hv w (by simp);omega
   ·rcases List.mem_cons.1 hv with rfl|hv
    ·omega
    ·have:=h1 v hv;omega
 have e1:bkW L false k=min k w.2:=zbz L false _ _ (by omega) (fun i b1 b2=>hno i (by omega) b2) (.inr (by rw[a3 (min k w.2-1) (by omega) (by omega)];decide))
 unfold yx
 rw[e1]
 refine zbz L true _ _ (by omega) (fun i b1 b2=>a3 i b1 (by omega)) ?_
 rcases a4 with a4|a4
 ·exact .inl a4
 ·right;rw[a4];decide
theorem qX.zmb {L:List (List Int)} {o:List (Nat×Nat)}(h:qX L L.length o) {k:Nat}(hk:k≤L.length)(h1:∀v∈o,k≤v.1):yx L k=0:=by
 have e1:bkW L false k=0:=zbz L false _ _ (Nat.zero_le _) (fun i b1 b2=>by
  cases hb:qT L i with
  |false=>rfl
  |true=>
   obtain⟨v,hv,c1,c2⟩:=h.all i (by omega) hb
   have:=h1 v hv;omega) (.inl rfl)
 unfold yx
 rw[e1];rfl
end Go.Proofs.YtjefahhmkcfiiaaGreat
end
section
namespace Go.Proofs.YtjefahhmkcfiiaaGreat
open Go.AM
set_option maxHeartbeats 4000000
set_option maxRecDepth 10000
attribute [local irreducible] za
def omap:List (Tok×Tok):=[([0],[0]),([0,1],[0,1]),([0,2],[0,2]),([6],[6])]
theorem W5 [Gi](e:PV) {x:Tx} {L:List (List Int)}(h:Wr x L)(a b:Int):CR Tryz.prog 91 txT [.lp [0] 0,.p (.int .i64 a),.p (.int .i64 b)] (txR e x L) (fun y rs=>rs=txR e x L∧y=.os [6] 1 (zB (sliced L.flatten a b))):=by
 refine CR.ren (R:=fun y rs=>y=.os [6] 1 (zB (sliced L.flatten a b))∧Qq (St.ofR rs) omap omap=txR e x L) ?_ 1000000 ?_
 ·refine walk Tryz.func91 7 [] [] [] ?_
  simp (maxSteps:=1000000) [go_sem,Tryz.f91]
  refine call zdK (Vg x.g x.f x.t a b h.ft h.tl h.n) ?_
  rintro _ _ ⟨rfl,rfl⟩
  rw[h.held]
  simp (maxSteps:=1000000) [go_sem]
  exact zl txT (.os [6] 1 (zB (sliced L.flatten a b))) (by simp[go_sem]) (by simp[go_sem,zf,leA,leT]) ⟨rfl,by simp[go_sem,omap]⟩
 ·rintro y rs ⟨rfl,h2⟩
  exact⟨omap,by decide,by decide,h2,rfl⟩
def goI(L:List (List Int))(k:Nat)(n:Int):Nat:=(max (min ((k:Int)+n) L.length) 0).toNat
theorem kN {L:List (List Int)}(h:ClL L) {k:Nat}(hk:k≤L.length)(n:Int):goK L (plc L k:Nat) n=goI L k n:=by unfold goK goI;rw[yW h hk]
theorem U0(L:List (List Int))(k:Nat)(n:Int):goI L k n≤L.length:=by unfold goI;omega
def QO(L:List (List Int))(c a n:Int):Nat×Bool:=
 if c=3 then(goI L (kf L a) n,true)else if c=4 then(goI L (kf L a) (Qa n),true)
 else if c=5 then(Zj L (kf L a) n,true)else if c=6 then(Zj L (kf L a) (Qa n),true)
 else if c=7 then(0,true)else if c=8 then(L.length,true)else(kf L a,false)
theorem zfz(L:List (List Int))(a n:Int):goK L a n=goI L (kf L a) n:=rfl
theorem wW [Gi] {e:PV}(hT:ZR e) {x:Tx} {L:List (List Int)}(h:Wr x L)(hl:Ln L.flatten L)(c a n:Int)(hn: -9223372036854775808≤n∧n≤9223372036854775807):
  CR Tryz.prog 34 txT [.lp [0] 0,.p (.int .i64 c),.p (.int .i64 a),.p (.int .i64 n)] (txR e x L) (yU (txR e x L) (.tup [.p (.int .i64 (plc L (QO L c a n).1:Nat)),.p (.bool (QO L c a n).2)])):=by
 refine znh Tryz.func34 12 [] [] [] ?_
 have hcl:=h.cl
 have hk:=Qx L a
 have hb: -9223372036854775808≤Qa n∧Qa n≤9223372036854775807:=by unfold Qa;omega
 unfold QO
 by_cases c3:c=3
 ·subst c3
  simp (maxSteps:=1000000) [go_sem,Tryz.f34]
  refine call QG (vB e h a n) ?_
  rintro _ _ ⟨rfl,rfl⟩
  rw[zfz]
  simp (maxSteps:=1000000) [go_sem]
  exact Qi
 by_cases c4:c=4
 ·subst c4
  simp (maxSteps:=1000000) [go_sem,Tryz.f34]
  refine zn (VI n hn.2) ?_
  simp (maxSteps:=1000000) [go_sem]
  refine call QG (vB e h a (Qa n)) ?_
  rintro _ _ ⟨rfl,rfl⟩
  rw[zfz]
  simp (maxSteps:=1000000) [go_sem]
  exact Qi
 by_cases c5:c=5
 ·subst c5
  simp (maxSteps:=1000000) [go_sem,Tryz.f34]
  refine call QG (jO e h a) ?_
  rintro _ _ ⟨rfl,rfl⟩
  simp (maxSteps:=1000000) [go_sem]
  refine call QG (uB hT h hl hk n hn) ?_
  rintro _ _ ⟨rfl,rfl⟩
  simp (maxSteps:=1000000) [go_sem]
  exact Qi
 by_cases c6:c=6
 ·subst c6
  simp (maxSteps:=1000000) [go_sem,Tryz.f34]
  refine call QG (jO e h a) ?_
  rintro _ _ ⟨rfl,rfl⟩
  simp (maxSteps:=1000000) [go_sem]
  refine zn (VI n hn.2) ?_
  simp (maxSteps:=1000000) [go_sem]
  refine call QG (uB hT h hl hk (Qa n) hb) ?_
  rintro _ _ ⟨rfl,rfl⟩
  simp (maxSteps:=1000000) [go_sem]
  exact Qi
 by_cases c7:c=7
 ·subst c7
  simp (maxSteps:=1000000) [go_sem,Tryz.f34,qV]
  exact Qi
 by_cases c8:c=8
 ·subst c8
  simp (maxSteps:=1000000) [go_sem,Tryz.f34,qc]
  refine call QG (xz e h) ?_
  rintro _ _ ⟨rfl,rfl⟩
  simp (maxSteps:=1000000) [go_sem]
  exact Qi
 simp (maxSteps:=1000000) [go_sem,Tryz.f34,c3,c4,c5,c6,c7,c8]
 refine call QG (jO e h a) ?_
 rintro _ _ ⟨rfl,rfl⟩
 simp (maxSteps:=1000000) [go_sem]
 exact Qi
def vW(L:List (List Int))(c a k n:Int):Option Nat:=
 if c=9 then some (goI L (kf L a) n)else if c=10 then some (goI L (kf L a) (Qa n))
 else if c=11 then some (Zj L (kf L a) n)else if c=12 then some (Zj L (kf L a) (Qa n))
 else if c=13 then some L.length else if c=14 then some 0 else if c=15∨c=16 then some (kf L k)else none
def uW(a b:Int):AV:=.tup [.p (.agg [.int .i64 (min a b),.int .i64 (max a b),.bool (decide (b<a))]),.p (.bool true)]
def zh9:AV:=.tup [.p (.agg [.int .i64 0,.int .i64 0,.bool false]),.p (.bool false)]
def yO(L:List (List Int))(a:Int):Option Nat→AV
 |some o=>uW (plc L (kf L a):Nat) (plc L o:Nat)
 |none=>zh9
theorem zhW(L:List (List Int))(a:Int)(o:Option Nat)(f:Tok→Option Tok):(yO L a o).ren f=yO L a o:=by cases o<;>rfl
theorem zfR [Gi] {e:PV}(hT:ZR e) {x:Tx} {L:List (List Int)}(h:Wr x L)(hl:Ln L.flatten L)(c a k n:Int)(hn: -9223372036854775808≤n∧n≤9223372036854775807):
  CR Tryz.prog 39 txT [.lp [0] 0,.p (.int .i64 c),.p (.int .i64 a),.p (.int .i64 k),.p (.int .i64 n)] (txR e x L) (yU (txR e x L) (yO L a (vW L c a k n))):=by
 refine CR.yU ?_ (by decide) (zhW _ _ _ _)
 refine walk Tryz.func39 18 [19,25,32,38,45,49,51] [] [] ?_
 have hcl:=h.cl
 have hk:=Qx L a
 have hb: -9223372036854775808≤Qa n∧Qa n≤9223372036854775807:=by unfold Qa;omega
 have hon:=vB e h (plc L (kf L a):Nat)
 unfold vW
 simp (maxSteps:=1000000) [go_sem,Tryz.f39]
 refine call QG (jO e h a) ?_
 rintro _ _ ⟨rfl,rfl⟩
 by_cases c9:c=9
 ·subst c9
  simp (maxSteps:=1000000) [go_sem,yO,uW]
  refine call QG (hon n) ?_
  rintro _ _ ⟨rfl,rfl⟩
  rw[kN hcl hk]
  simp (maxSteps:=1000000) [go_sem]
  exact Qi
 by_cases c10:c=10
 ·subst c10
  simp (maxSteps:=1000000) [go_sem,yO,uW]
  refine zn (VI n hn.2) ?_
  simp (maxSteps:=1000000) [go_sem]
  refine call QG (hon (Qa n)) ?_
  rintro _ _ ⟨rfl,rfl⟩
  rw[kN hcl hk]
  simp (maxSteps:=1000000) [go_sem]
  exact Qi
 by_cases c11:c=11
 ·subst c11
  simp (maxSteps:=1000000) [go_sem,yO,uW]
  refine call QG (uB hT h hl hk n hn) ?_
  rintro _ _ ⟨rfl,rfl⟩
  simp (maxSteps:=1000000) [go_sem]
  exact Qi
 by_cases c12:c=12
 ·subst c12
  simp (maxSteps:=1000000) [go_sem,yO,uW]
  refine zn (VI n hn.2) ?_
  simp (maxSteps:=1000000) [go_sem]
  refine call QG (uB hT h hl hk (Qa n) hb) ?_
  rintro _ _ ⟨rfl,rfl⟩
  simp (maxSteps:=1000000) [go_sem]
  exact Qi
 by_cases c13:c=13
 ·subst c13
  simp (maxSteps:=1000000) [go_sem,yO,uW,qc]
  refine call QG (xz e h) ?_
  rintro _ _ ⟨rfl,rfl⟩
  simp (maxSteps:=1000000) [go_sem]
  exact Qi
 by_cases c14:c=14
 ·subst c14
  simp (maxSteps:=1000000) [go_sem,yO,uW,qV]
  exact Qi
 by_cases c15:c=15
 ·subst c15
  simp (maxSteps:=1000000) [go_sem,yO,uW]
  refine call QG (jO e h k) ?_
  rintro _ _ ⟨rfl,rfl⟩
  simp (maxSteps:=1000000) [go_sem]
  exact Qi
 by_cases c16:c=16
 ·subst c16
  simp (maxSteps:=1000000) [go_sem,yO,uW]
  refine call QG (jO e h k) ?_
  rintro _ _ ⟨rfl,rfl⟩
  simp (maxSteps:=1000000) [go_sem]
  exact Qi
 simp (maxSteps:=1000000) [go_sem,yO,zh9,c9,c10,c11,c12,c13,c14,c15,c16]
 exact Qi
end Go.Proofs.YtjefahhmkcfiiaaGreat
end
