/- A part of the proof of this seat's statements, by an abstract machine: what each operation does to values, and what the law's functions compute. Conditions: as each law says. -/
import Derived.Test.YtjefahhmkcfiiaaGreatT37
import Derived.Test.YtjefahhmkcfiiaaGreatT46
section
namespace Go.Proofs.YtjefahhmkcfiiaaGreat
open Go.AM
set_option maxHeartbeats 4000000
set_option maxRecDepth 10000
attribute [local irreducible] za
theorem XI(L:List (List Int))(q:Bool)(p:Nat):bkW L q (p+1)=if Qn L p=q then bkW L q p else p+1:=rfl
theorem Xn(L:List (List Int))(q:Bool)(n p:Nat):fwW L q (n+1) p=if Qn L p=q then fwW L q n (p+1)else p:=rfl
theorem Yp(L:List (List Int))(q:Bool)(p:Nat):fwW L q 0 p=p:=rfl
theorem zmF [Gi] {c b j f p:PV}(h:QS T0 c b j f p)(ck cx sk sx:List PV)(L:List (List Int))(hL:zec L)(a:Int)(back:Bool):
  CR Tryz.prog 30 [] [.p (zG L a),.p (zF c b j f p ck cx sk sx),.p (.bool back)] [] (is (.p (zG L (Jj L a back:Nat)))):=by
 refine zm mixed 7 [] Tryz.func30 rfl (by kernel_rfl) rfl (by simp) (by simp) ?_
 have hk:=zb4 L a
 have hat:=K5 L a a
 have hn:=hL.n
 unfold Jj
 generalize jr L a=k at hk hat
 simp (maxSteps:=1000000) [go_sem,Tryz.f30,zG,zk,zF]
 refine⟨rfl,⟨rfl,by simp[Tryz.f77]⟩,zb [] hat (by simp[go_sem]) ⟨by simp[go_sem],by simp[go_sem,zG,zk]⟩ (by simp[go_sem]) ?_⟩
 rintro _ rs ⟨rfl,rfl⟩
 cases back with
 |true=>
  simp (maxSteps:=1000000) [go_sem]
  refine zj (fun p:Nat=>p≤L.length∧bkW L false k=bkW L false p) (fun _=>[]) (fun p=>[([3],jS L (p:Nat))]) (fun p=>p) k ⟨by omega,rfl⟩ (by simp[go_sem,LeS,leV,leR,leA,leL,jS,zk]) (fun p hp=>?_)
  obtain⟨p1,p2⟩:=hp
  rcases p with _|j'
  ·have e:bkW L false k=0:=p2
   rw[e]
   simp (maxSteps:=1000000) [go_sem,jS,zk]
   clear p2
   refine zj (fun p:Nat=>p≤L.length∧bkW L true 0=bkW L true p) (fun _=>[]) (fun p=>[([3],jS L (p:Nat))]) (fun p=>p) 0 ⟨by omega,rfl⟩ (by simp[go_sem,LeS,leV,leR,leA,leL,jS,zk]) (fun p hp=>?_)
   obtain⟨p1,p2⟩:=hp
   rcases p with _|j'
   ·have e:bkW L true 0=0:=p2
    rw[e]
    simp (maxSteps:=1000000) [go_sem,jS,zk]
    exact zh (.p (zG L ((0:Nat):Int))) rfl (by simp[go_sem,zd,leA,leT,zG,zk]) ⟨rfl,rfl⟩
   ·have w1:IntKind.i64.wrap ((j':Nat):Int)=(j':Int):=wrap64 (by omega) (by omega)
    have w2:IntKind.i64.wrap (((j'+1:Nat):Int)-1)=((j':Nat):Int):=zq (by omega) (by omega)
    have g0:(0:Int)< ((j':Int)+1):=by omega
    have hlet:=yc h ck cx sk sx L hL ((j'+1:Nat):Int) j' (by omega)
    rw[XI L true j']at p2
    simp (maxSteps:=1000000) [go_sem,jS,zk,w1,g0]
    refine⟨⟨rfl,by simp[Tryz.f79]⟩,zb [] hlet (by simp[go_sem]) ⟨by simp[go_sem],by simp[go_sem,zG,zk,zF]⟩ (by simp[go_sem]) ?_⟩
    rintro _ rs ⟨rfl,rfl⟩
    by_cases hq:Qn L j'=true
    ·rw[if_pos hq]at p2
     simp (maxSteps:=1000000) [go_sem,hq,w1]
     exact zf j' ⟨by omega,p2⟩ (by simp[go_sem,LeS,leV,leR,leA,leL]) (by omega)
    ·have hq':Qn L j'=false:=by cases hb:Qn L j'<;>simp_all
     rw[if_neg hq]at p2
     rw[p2]
     simp (maxSteps:=1000000) [go_sem,hq']
     exact zh (.p (zG L (((j'+1):Nat):Int))) rfl (by simp[go_sem,zd,leA,leT,zG,zk]) ⟨rfl,rfl⟩
  ·have w1:IntKind.i64.wrap ((j':Nat):Int)=(j':Int):=wrap64 (by omega) (by omega)
   have w2:IntKind.i64.wrap (((j'+1:Nat):Int)-1)=((j':Nat):Int):=zq (by omega) (by omega)
   have g0:(0:Int)< ((j':Int)+1):=by omega
   have hlet:=yc h ck cx sk sx L hL ((j'+1:Nat):Int) j' (by omega)
   rw[XI L false j']at p2
   simp (maxSteps:=1000000) [go_sem,jS,zk,w1,g0]
   refine⟨⟨rfl,by simp[Tryz.f79]⟩,zb [] hlet (by simp[go_sem]) ⟨by simp[go_sem],by simp[go_sem,zG,zk,zF]⟩ (by simp[go_sem]) ?_⟩
   rintro _ rs ⟨rfl,rfl⟩
   by_cases hq:Qn L j'=false
   ·rw[if_pos hq]at p2
    simp (maxSteps:=1000000) [go_sem,hq,w1]
    exact zf j' ⟨by omega,p2⟩ (by simp[go_sem,LeS,leV,leR,leA,leL]) (by omega)
   ·have hq':Qn L j'=true:=by cases hb:Qn L j'<;>simp_all
    rw[if_neg hq]at p2
    rw[p2]
    simp (maxSteps:=1000000) [go_sem,hq']
    clear p2
    refine zj (fun p:Nat=>p≤L.length∧bkW L true (j'+1)=bkW L true p) (fun _=>[]) (fun p=>[([3],jS L (p:Nat))]) (fun p=>p) (j'+1) ⟨by omega,rfl⟩ (by simp[go_sem,LeS,leV,leR,leA,leL,jS,zk]) (fun p hp=>?_)
    obtain⟨p1,p2⟩:=hp
    rcases p with _|j'
    ·have e:bkW L true (j'+1)=0:=p2
     rw[e]
     simp (maxSteps:=1000000) [go_sem,jS,zk]
     exact zh (.p (zG L ((0:Nat):Int))) rfl (by simp[go_sem,zd,leA,leT,zG,zk]) ⟨rfl,rfl⟩
    ·have w1:IntKind.i64.wrap ((j':Nat):Int)=(j':Int):=wrap64 (by omega) (by omega)
     have w2:IntKind.i64.wrap (((j'+1:Nat):Int)-1)=((j':Nat):Int):=zq (by omega) (by omega)
     have g0:(0:Int)< ((j':Int)+1):=by omega
     have hlet:=yc h ck cx sk sx L hL ((j'+1:Nat):Int) j' (by omega)
     rw[XI L true j']at p2
     simp (maxSteps:=1000000) [go_sem,jS,zk,w1,g0]
     refine⟨⟨rfl,by simp[Tryz.f79]⟩,zb [] hlet (by simp[go_sem]) ⟨by simp[go_sem],by simp[go_sem,zG,zk,zF]⟩ (by simp[go_sem]) ?_⟩
     rintro _ rs ⟨rfl,rfl⟩
     by_cases hq:Qn L j'=true
     ·rw[if_pos hq]at p2
      simp (maxSteps:=1000000) [go_sem,hq,w1]
      exact zf j' ⟨by omega,p2⟩ (by simp[go_sem,LeS,leV,leR,leA,leL]) (by omega)
     ·have hq':Qn L j'=false:=by cases hb:Qn L j'<;>simp_all
      rw[if_neg hq]at p2
      rw[p2]
      simp (maxSteps:=1000000) [go_sem,hq']
      exact zh (.p (zG L (((j'+1):Nat):Int))) rfl (by simp[go_sem,zd,leA,leT,zG,zk]) ⟨rfl,rfl⟩
 |false=>
  simp (maxSteps:=1000000) [go_sem]
  refine zj (fun p:Nat=>p≤L.length∧fwW L false (L.length-k) k=fwW L false (L.length-p) p) (fun _=>[]) (fun p=>[([3],jS L (p:Nat))]) (fun p=>L.length-p) k ⟨by omega,rfl⟩ (by simp[go_sem,LeS,leV,leR,leA,leL,jS,zk]) (fun p hp=>?_)
  obtain⟨p1,p2⟩:=hp
  by_cases hp:p<L.length
  ·have hp':(p:Int)<L.length:=by omega
   have w2:IntKind.i64.wrap ((p:Int)+1)=((p+1:Nat):Int):=zI (by omega)
   have hlet:=yc h ck cx sk sx L hL (p:Int) p hp
   have en:L.length-p=(L.length- (p+1))+1:=by omega
   rw[en,Xn L false]at p2
   simp (maxSteps:=1000000) [go_sem,jS,zk,zX,hp']
   refine⟨⟨rfl,by simp[Tryz.f79]⟩,zb [] hlet (by simp[go_sem]) ⟨by simp[go_sem],by simp[go_sem,zG,zk,zF]⟩ (by simp[go_sem]) ?_⟩
   rintro _ rs ⟨rfl,rfl⟩
   by_cases hq:Qn L p=false
   ·rw[if_pos hq]at p2
    simp (maxSteps:=1000000) [go_sem,hq,w2]
    exact zf (p+1) ⟨by omega,p2⟩ (by simp[go_sem,LeS,leV,leR,leA,leL]) (by omega)
   ·have hq':Qn L p=true:=by cases hb:Qn L p<;>simp_all
    rw[if_neg hq]at p2
    rw[p2]
    simp (maxSteps:=1000000) [go_sem,hq']
    obtain⟨v0,hv0⟩:∃v0,v0=p:=⟨_,rfl⟩
    subst hv0
    clear p2
    refine zj (fun p:Nat=>p≤L.length∧fwW L true (L.length-v0) v0=fwW L true (L.length-p) p) (fun _=>[]) (fun p=>[([3],jS L (p:Nat))]) (fun p=>L.length-p) v0 ⟨by omega,rfl⟩ (by simp[go_sem,LeS,leV,leR,leA,leL,jS,zk]) (fun p hp=>?_)
    obtain⟨p1,p2⟩:=hp
    by_cases hp:p<L.length
    ·have hp':(p:Int)<L.length:=by omega
     have w2:IntKind.i64.wrap ((p:Int)+1)=((p+1:Nat):Int):=zI (by omega)
     have hlet:=yc h ck cx sk sx L hL (p:Int) p hp
     have en:L.length-p=(L.length- (p+1))+1:=by omega
     rw[en,Xn L true]at p2
     simp (maxSteps:=1000000) [go_sem,jS,zk,zX,hp']
     refine⟨⟨rfl,by simp[Tryz.f79]⟩,zb [] hlet (by simp[go_sem]) ⟨by simp[go_sem],by simp[go_sem,zG,zk,zF]⟩ (by simp[go_sem]) ?_⟩
     rintro _ rs ⟨rfl,rfl⟩
     by_cases hq:Qn L p=true
     ·rw[if_pos hq]at p2
      simp (maxSteps:=1000000) [go_sem,hq,w2]
      exact zf (p+1) ⟨by omega,p2⟩ (by simp[go_sem,LeS,leV,leR,leA,leL]) (by omega)
     ·have hq':Qn L p=false:=by cases hb:Qn L p<;>simp_all
      rw[if_neg hq]at p2
      rw[p2]
      simp (maxSteps:=1000000) [go_sem,hq']
      exact zh (.p (zG L ((p:Nat):Int))) rfl (by simp[go_sem,zd,leA,leT,zG,zk]) ⟨rfl,rfl⟩
    ·have hp':¬(p:Int)<L.length:=by omega
     have en:L.length-p=0:=by omega
     rw[en,Yp L true p]at p2
     rw[p2]
     simp (maxSteps:=1000000) [go_sem,jS,zk,zX,hp']
     exact zh (.p (zG L ((p:Nat):Int))) rfl (by simp[go_sem,zd,leA,leT,zG,zk]) ⟨rfl,rfl⟩
  ·have hp':¬(p:Int)<L.length:=by omega
   have en:L.length-p=0:=by omega
   rw[en,Yp L false p]at p2
   rw[p2]
   simp (maxSteps:=1000000) [go_sem,jS,zk,zX,hp']
   obtain⟨v0,hv0⟩:∃v0,v0=p:=⟨_,rfl⟩
   subst hv0
   clear p2
   refine zj (fun p:Nat=>p≤L.length∧fwW L true (L.length-v0) v0=fwW L true (L.length-p) p) (fun _=>[]) (fun p=>[([3],jS L (p:Nat))]) (fun p=>L.length-p) v0 ⟨by omega,rfl⟩ (by simp[go_sem,LeS,leV,leR,leA,leL,jS,zk]) (fun p hp=>?_)
   obtain⟨p1,p2⟩:=hp
   by_cases hp:p<L.length
   ·have hp':(p:Int)<L.length:=by omega
    have w2:IntKind.i64.wrap ((p:Int)+1)=((p+1:Nat):Int):=zI (by omega)
    have hlet:=yc h ck cx sk sx L hL (p:Int) p hp
    have en:L.length-p=(L.length- (p+1))+1:=by omega
    rw[en,Xn L true]at p2
    simp (maxSteps:=1000000) [go_sem,jS,zk,zX,hp']
    refine⟨⟨rfl,by simp[Tryz.f79]⟩,zb [] hlet (by simp[go_sem]) ⟨by simp[go_sem],by simp[go_sem,zG,zk,zF]⟩ (by simp[go_sem]) ?_⟩
    rintro _ rs ⟨rfl,rfl⟩
    by_cases hq:Qn L p=true
    ·rw[if_pos hq]at p2
     simp (maxSteps:=1000000) [go_sem,hq,w2]
     exact zf (p+1) ⟨by omega,p2⟩ (by simp[go_sem,LeS,leV,leR,leA,leL]) (by omega)
    ·have hq':Qn L p=false:=by cases hb:Qn L p<;>simp_all
     rw[if_neg hq]at p2
     rw[p2]
     simp (maxSteps:=1000000) [go_sem,hq']
     exact zh (.p (zG L ((p:Nat):Int))) rfl (by simp[go_sem,zd,leA,leT,zG,zk]) ⟨rfl,rfl⟩
   ·have hp':¬(p:Int)<L.length:=by omega
    have en:L.length-p=0:=by omega
    rw[en,Yp L true p]at p2
    rw[p2]
    simp (maxSteps:=1000000) [go_sem,jS,zk,zX,hp']
    exact zh (.p (zG L ((p:Nat):Int))) rfl (by simp[go_sem,zd,leA,leT,zG,zk]) ⟨rfl,rfl⟩
end Go.Proofs.YtjefahhmkcfiiaaGreat
end
section
namespace Go.Proofs.YtjefahhmkcfiiaaGreat
open Go.AM
set_option maxHeartbeats 4000000
set_option maxRecDepth 10000
attribute [local irreducible] za
end Go.Proofs.YtjefahhmkcfiiaaGreat
end
section
namespace Go.Proofs.YtjefahhmkcfiiaaGreat
open Go.AM
set_option maxHeartbeats 4000000
set_option maxRecDepth 10000
attribute [local irreducible] za
end Go.Proofs.YtjefahhmkcfiiaaGreat
end
