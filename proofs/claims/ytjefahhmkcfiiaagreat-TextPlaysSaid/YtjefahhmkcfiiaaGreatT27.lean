/- A part of the proof of this seat's statements, by an abstract machine: what each operation does to values, and what the law's functions compute. Conditions: as each law says. -/
import Derived.Test.YtjefahhmkcfiiaaGreatT24
import Derived.Test.YtjefahhmkcfiiaaGreatT26
import Derived.Test.YtjefahhmkcfiiaaGreatT17
import Derived.StillTail
import Derived.OrdersIn
import Derived.TacticsIn
import Derived.RangeFuncCalls
section
namespace Go.Proofs.YtjefahhmkcfiiaaGreat
open Go.AM
set_option maxHeartbeats 4000000
set_option maxRecDepth 10000
def qX(t:zV):Nat→Int→List Int
 |0,r=>if Zm r then z5 r else [r]
 |d+1,r=>if Zm r then z5 r else
  if(t.par (rn r)).a=0∧(t.par (rn r)).b=0 then [r]else qX t d (t.par (rn r)).a++(if(t.par (rn r)).b=0 then []else qX t d (t.par (rn r)).b)
theorem wF(t:zV):∀d r,(qX t d r).length≤3*2^d
 |0,r=>by
  unfold qX
  split
  ·unfold z5;split<;>simp
  ·simp
 |d+1,r=>by
  have h1:=wF t d (t.par (rn r)).a
  have h2:=wF t d (t.par (rn r)).b
  have h3:1≤2^d:=Nat.one_le_two_pow
  unfold qX
  rw[Nat.pow_succ]
  split
  ·unfold z5;split<;>simp<;>omega
  ·split
   ·simp;omega
   ·split
    ·simp;omega
    ·simp;omega
def Vb(t:zV):Prop:=∀i,0≤(t.par i).a∧(t.par i).a<1114112∧0≤(t.par i).b∧(t.par i).b<1114112
def Zd(tab:PV)(tk:Tok)(es:List Int):List AV:=[.p tab,.os tk 1 (zu es)]
theorem Yk [Gi] {t:zV} {c b j f p:PV}(h:QS t c b j f p)(hZ:Qg t)(hP:Vb t)(ck cx sk sx:List PV):∀(d:Nat) (_:d≤8) (es:List Int) (r:Int) (_: -2147483648≤r∧r<2147483648) (_:es.length+3*2^d≤2^40),
  CR Tryz.prog 173 [[0]] [.lp [0] 0,.p (.int .i32 r),.p (.int .i64 d)] [([0],[.p (zF c b j f p ck cx sk sx),.os [901] 1 (zu es)])] (fun x rs=>x=.tup []∧∃tk:Tok,(tk=[0,1]∨tk=[901])∧rs=[([0],Zd (zF c b j f p ck cx sk sx) tk (es++qX t d r))]):=by
 intro d
 induction d with
 |zero=>
  intro hd es r hr hes
  have hpow:1≤2^0:=Nat.one_le_two_pow
  refine qW [] mixed 10 [] Tryz.func173 rfl (by kernel_rfl) [6] rfl (by simp) (by simp) ?_
  simp (maxSteps:=1000000) [go_sem,Tryz.f173]
  refine⟨⟨rfl,by simp[Tryz.f208]⟩,zb [] (V0 r) (by simp[go_sem,zH]) ⟨by simp[go_sem],by simp[go_sem]⟩ (by simp[go_sem]) ?_⟩
  rintro _ rs ⟨rfl,rfl⟩
  by_cases hs:Zm r=true
  ·have e:qX t 0 r=z5 r:=by unfold qX;rw[if_pos hs]
   rw[e]
   have hsl:(z5 r).length≤3:=by unfold z5;split<;>simp
   obtain⟨y,l,hy⟩:∃y l,z5 r=y::l:=by unfold z5;split<;>exact⟨_,_,rfl⟩
   rw[hy]at hsl
   simp only[List.length_cons]at hsl
   simp (maxSteps:=1000000) [go_sem,xt,hs,ZR,hy,zu]
   exact⟨by first|omega|(simp[zu];omega),zi [[0]] (.tup []) ⟨rfl,by simp⟩ (by simp[go_sem,zd,leT]) ⟨rfl,.inl (by simp[go_sem,Zd,zu])⟩⟩
  ·have hs':Zm r=false:=by simpa using hs
   simp (maxSteps:=1000000) [go_sem,xt,hs']
   refine⟨⟨rfl,by simp[Tryz.f122]⟩,zb [] (uX h ck cx sk sx hZ hr) (by simp[go_sem,zH]) ⟨by simp[go_sem],by simp[go_sem]⟩ (by simp[go_sem]) ?_⟩
   rintro _ rs ⟨rfl,rfl⟩
   have hpp:=hP (rn r)
   obtain⟨q,hq⟩:∃q,t.par (rn r)=q:=⟨_,rfl⟩
   rw[hq]at hpp
   simp only[hq,V8]
   have e:qX t 0 r=[r]:=by unfold qX;rw[if_neg hs]
   rw[e]
   obtain⟨z,hz⟩:∃z,(!decide (q.a=0) ||!decide (q.b=0))=z:=⟨_,rfl⟩
   simp only[hz]
   cases z with
   |false=>
    simp (maxSteps:=1000000) [go_sem,zu]
    exact⟨by first|omega|(simp[zu];omega),zi [[0]] (.tup []) ⟨rfl,by simp⟩ (by simp[go_sem,zd,leT]) ⟨rfl,.inl (by simp[go_sem,Zd,zu])⟩⟩
   |true=>
    simp (maxSteps:=1000000) [go_sem,zu]
    exact⟨by first|omega|(simp[zu];omega),zi [[0]] (.tup []) ⟨rfl,by simp⟩ (by simp[go_sem,zd,leT]) ⟨rfl,.inl (by simp[go_sem,Zd,zu])⟩⟩
 |succ d ih=>
  intro hd es r hr hes
  have hd0:¬((d:Int)+1=0):=by omega
  have wd:IntKind.i64.wrap ((d:Int)+1-1)=(d:Int):=by rw[wrap64 (by omega) (by omega)];omega
  have wd':IntKind.i64.wrap (d:Int)=(d:Int):=wrap64 (by omega) (by omega)
  have hp2:2^(d+1)=2*2^d:=by rw[Nat.pow_succ];omega
  have hp3:2^d≤2^8:=Nat.pow_le_pow_right (by omega) (by omega)
  have hpow:1≤2^d:=Nat.one_le_two_pow
  refine qW [] mixed 10 [] Tryz.func173 rfl (by kernel_rfl) [6] rfl (by simp) (by simp) ?_
  simp (maxSteps:=1000000) [go_sem,Tryz.f173]
  refine⟨⟨rfl,by simp[Tryz.f208]⟩,zb [] (V0 r) (by simp[go_sem,zH]) ⟨by simp[go_sem],by simp[go_sem]⟩ (by simp[go_sem]) ?_⟩
  rintro _ rs ⟨rfl,rfl⟩
  by_cases hs:Zm r=true
  ·have e:qX t (d+1) r=z5 r:=by unfold qX;rw[if_pos hs]
   rw[e]
   have hsl:(z5 r).length≤3:=by unfold z5;split<;>simp
   obtain⟨y,l,hy⟩:∃y l,z5 r=y::l:=by unfold z5;split<;>exact⟨_,_,rfl⟩
   rw[hy]at hsl
   simp only[List.length_cons]at hsl
   simp (maxSteps:=1000000) [go_sem,xt,hs,ZR,hy,zu]
   exact⟨by first|omega|(simp[zu];omega),zi [[0]] (.tup []) ⟨rfl,by simp⟩ (by simp[go_sem,zd,leT]) ⟨rfl,.inl (by simp[go_sem,Zd,zu])⟩⟩
  ·have hs':Zm r=false:=by simpa using hs
   simp (maxSteps:=1000000) [go_sem,xt,hs']
   refine⟨⟨rfl,by simp[Tryz.f122]⟩,zb [] (uX h ck cx sk sx hZ hr) (by simp[go_sem,zH]) ⟨by simp[go_sem],by simp[go_sem]⟩ (by simp[go_sem]) ?_⟩
   rintro _ rs ⟨rfl,rfl⟩
   have hpp:=hP (rn r)
   obtain⟨q,hq⟩:∃q,t.par (rn r)=q:=⟨_,rfl⟩
   rw[hq]at hpp
   simp only[hq,V8]
   by_cases hz:q.a=0∧q.b=0
   ·have e:qX t (d+1) r=[r]:=by unfold qX;rw[if_neg hs,hq,if_pos hz]
    rw[e]
    simp (maxSteps:=1000000) [go_sem,zu,hz.1,hz.2]
    exact⟨by first|omega|(simp[zu];omega),zi [[0]] (.tup []) ⟨rfl,by simp⟩ (by simp[go_sem,zd,leT]) ⟨rfl,.inl (by simp[go_sem,Zd,zu])⟩⟩
   ·have e:qX t (d+1) r=qX t d q.a++(if q.b=0 then []else qX t d q.b):=by
     rw[qX,if_neg hs,hq,if_neg hz]
    rw[e]
    have hzb:(!decide (q.a=0) ||!decide (q.b=0))=true:=by
     by_cases ha:q.a=0
     ·have:¬q.b=0:=fun hb=>hz ⟨ha,hb⟩
      simp[this]
     ·simp[ha]
    have hl1:=wF t d q.a
    simp only[hzb]
    simp (maxSteps:=1000000) [go_sem,hd0,wd']
    refine⟨⟨rfl,by simp[Tryz.f173]⟩,zb [([0],[0]),([901],[901]),([0,1],[0,1])] (ih (by omega) es q.a (by omega) (by omega)) (by simp[go_sem,zH]) ⟨by simp[go_sem],by simp[go_sem]⟩ (by simp[go_sem]) ?_⟩
    rintro _ _ ⟨rfl,tk,htk,rfl⟩
    by_cases hb:q.b=0
    ·rcases htk with rfl|rfl
     ·simp (maxSteps:=1000000) [go_sem,Zd,hb]
      exact zi [[0]] (.tup []) ⟨rfl,by simp⟩ (by simp[go_sem,zd,leT]) ⟨rfl,.inl (by simp[go_sem,zu])⟩
     ·simp (maxSteps:=1000000) [go_sem,Zd,hb]
      exact zi [[0]] (.tup []) ⟨rfl,by simp⟩ (by simp[go_sem,zd,leT]) ⟨rfl,.inr (by simp[go_sem,zu])⟩
    ·rcases htk with rfl|rfl
     ·simp (maxSteps:=1000000) [go_sem,Zd,hb,wd']
      refine⟨⟨rfl,by simp[Tryz.f173]⟩,zb [([0],[0]),([901],[0,1]),([0,1],[901])] (ih (by omega) (es++qX t d q.a) q.b (by omega) (by simp;omega)) (by simp[go_sem,zH]) ⟨by simp[go_sem],by simp[go_sem]⟩ (by simp[go_sem]) ?_⟩
      rintro _ _ ⟨rfl,tk,htk,rfl⟩
      rcases htk with rfl|rfl
      ·simp (maxSteps:=1000000) [go_sem,Zd]
       exact zi [[0]] (.tup []) ⟨rfl,by simp⟩ (by simp[go_sem,zd,leT]) ⟨rfl,.inr (by simp[go_sem,zu])⟩
      ·simp (maxSteps:=1000000) [go_sem,Zd]
       exact zi [[0]] (.tup []) ⟨rfl,by simp⟩ (by simp[go_sem,zd,leT]) ⟨rfl,.inl (by simp[go_sem,zu])⟩
     ·simp (maxSteps:=1000000) [go_sem,Zd,hb,wd']
      refine⟨⟨rfl,by simp[Tryz.f173]⟩,zb [([0],[0]),([901],[901]),([0,1],[0,1])] (ih (by omega) (es++qX t d q.a) q.b (by omega) (by simp;omega)) (by simp[go_sem,zH]) ⟨by simp[go_sem],by simp[go_sem]⟩ (by simp[go_sem]) ?_⟩
      rintro _ _ ⟨rfl,tk,htk,rfl⟩
      rcases htk with rfl|rfl
      ·simp (maxSteps:=1000000) [go_sem,Zd]
       exact zi [[0]] (.tup []) ⟨rfl,by simp⟩ (by simp[go_sem,zd,leT]) ⟨rfl,.inl (by simp[go_sem,zu])⟩
      ·simp (maxSteps:=1000000) [go_sem,Zd]
       exact zi [[0]] (.tup []) ⟨rfl,by simp⟩ (by simp[go_sem,zd,leT]) ⟨rfl,.inr (by simp[go_sem,zu])⟩
theorem take_nil [Gi] {t:zV} {c b j f p:PV}(h:QS t c b j f p)(hZ:Qg t)(hP:Vb t)(ck cx sk sx:List PV):∀(d:Nat) (_:d≤8) (r:Int) (_: -2147483648≤r∧r<2147483648),
  CR Tryz.prog 173 [[0]] [.lp [0] 0,.p (.int .i32 r),.p (.int .i64 d)] [([0],[.p (zF c b j f p ck cx sk sx),.p (.opq (.slice none 0 0))])] (fun x rs=>x=.tup []∧∃tk:Tok,(tk=[0,1]∨tk=[901])∧rs=[([0],Zd (zF c b j f p ck cx sk sx) tk (qX t d r))]):=by
 intro d
 induction d with
 |zero=>
  intro hd r hr
  have hpow:1≤2^0:=Nat.one_le_two_pow
  refine qW [] mixed 10 [] Tryz.func173 rfl (by kernel_rfl) [6] rfl (by simp) (by simp) ?_
  simp (maxSteps:=1000000) [go_sem,Tryz.f173]
  refine⟨⟨rfl,by simp[Tryz.f208]⟩,zb [] (V0 r) (by simp[go_sem,zH]) ⟨by simp[go_sem],by simp[go_sem]⟩ (by simp[go_sem]) ?_⟩
  rintro _ rs ⟨rfl,rfl⟩
  by_cases hs:Zm r=true
  ·have e:qX t 0 r=z5 r:=by unfold qX;rw[if_pos hs]
   rw[e]
   have hsl:(z5 r).length≤3:=by unfold z5;split<;>simp
   obtain⟨y,l,hy⟩:∃y l,z5 r=y::l:=by unfold z5;split<;>exact⟨_,_,rfl⟩
   rw[hy]at hsl
   simp only[List.length_cons]at hsl
   simp (maxSteps:=1000000) [go_sem,xt,hs,ZR,hy]
   exact⟨by first|omega|(simp[zu];omega),zi [[0]] (.tup []) ⟨rfl,by simp⟩ (by simp[go_sem,zd,leT]) ⟨rfl,.inl (by simp[go_sem,Zd,zu])⟩⟩
  ·have hs':Zm r=false:=by simpa using hs
   simp (maxSteps:=1000000) [go_sem,xt,hs']
   refine⟨⟨rfl,by simp[Tryz.f122]⟩,zb [] (uX h ck cx sk sx hZ hr) (by simp[go_sem,zH]) ⟨by simp[go_sem],by simp[go_sem]⟩ (by simp[go_sem]) ?_⟩
   rintro _ rs ⟨rfl,rfl⟩
   have hpp:=hP (rn r)
   obtain⟨q,hq⟩:∃q,t.par (rn r)=q:=⟨_,rfl⟩
   rw[hq]at hpp
   simp only[hq,V8]
   have e:qX t 0 r=[r]:=by unfold qX;rw[if_neg hs]
   rw[e]
   obtain⟨z,hz⟩:∃z,(!decide (q.a=0) ||!decide (q.b=0))=z:=⟨_,rfl⟩
   simp only[hz]
   cases z with
   |false=>
    simp (maxSteps:=1000000) [go_sem]
    exact zi [[0]] (.tup []) ⟨rfl,by simp⟩ (by simp[go_sem,zd,leT]) ⟨rfl,.inl (by simp[go_sem,Zd,zu])⟩
   |true=>
    simp (maxSteps:=1000000) [go_sem]
    exact zi [[0]] (.tup []) ⟨rfl,by simp⟩ (by simp[go_sem,zd,leT]) ⟨rfl,.inl (by simp[go_sem,Zd,zu])⟩
 |succ d ih=>
  intro hd r hr
  have hd0:¬((d:Int)+1=0):=by omega
  have wd:IntKind.i64.wrap ((d:Int)+1-1)=(d:Int):=by rw[wrap64 (by omega) (by omega)];omega
  have wd':IntKind.i64.wrap (d:Int)=(d:Int):=wrap64 (by omega) (by omega)
  have hp2:2^(d+1)=2*2^d:=by rw[Nat.pow_succ];omega
  have hp3:2^d≤2^8:=Nat.pow_le_pow_right (by omega) (by omega)
  have hpow:1≤2^d:=Nat.one_le_two_pow
  refine qW [] mixed 10 [] Tryz.func173 rfl (by kernel_rfl) [6] rfl (by simp) (by simp) ?_
  simp (maxSteps:=1000000) [go_sem,Tryz.f173]
  refine⟨⟨rfl,by simp[Tryz.f208]⟩,zb [] (V0 r) (by simp[go_sem,zH]) ⟨by simp[go_sem],by simp[go_sem]⟩ (by simp[go_sem]) ?_⟩
  rintro _ rs ⟨rfl,rfl⟩
  by_cases hs:Zm r=true
  ·have e:qX t (d+1) r=z5 r:=by unfold qX;rw[if_pos hs]
   rw[e]
   have hsl:(z5 r).length≤3:=by unfold z5;split<;>simp
   obtain⟨y,l,hy⟩:∃y l,z5 r=y::l:=by unfold z5;split<;>exact⟨_,_,rfl⟩
   rw[hy]at hsl
   simp only[List.length_cons]at hsl
   simp (maxSteps:=1000000) [go_sem,xt,hs,ZR,hy]
   exact⟨by first|omega|(simp[zu];omega),zi [[0]] (.tup []) ⟨rfl,by simp⟩ (by simp[go_sem,zd,leT]) ⟨rfl,.inl (by simp[go_sem,Zd,zu])⟩⟩
  ·have hs':Zm r=false:=by simpa using hs
   simp (maxSteps:=1000000) [go_sem,xt,hs']
   refine⟨⟨rfl,by simp[Tryz.f122]⟩,zb [] (uX h ck cx sk sx hZ hr) (by simp[go_sem,zH]) ⟨by simp[go_sem],by simp[go_sem]⟩ (by simp[go_sem]) ?_⟩
   rintro _ rs ⟨rfl,rfl⟩
   have hpp:=hP (rn r)
   obtain⟨q,hq⟩:∃q,t.par (rn r)=q:=⟨_,rfl⟩
   rw[hq]at hpp
   simp only[hq,V8]
   by_cases hz:q.a=0∧q.b=0
   ·have e:qX t (d+1) r=[r]:=by unfold qX;rw[if_neg hs,hq,if_pos hz]
    rw[e]
    simp (maxSteps:=1000000) [go_sem,hz.1,hz.2]
    exact zi [[0]] (.tup []) ⟨rfl,by simp⟩ (by simp[go_sem,zd,leT]) ⟨rfl,.inl (by simp[go_sem,Zd,zu])⟩
   ·have e:qX t (d+1) r=qX t d q.a++(if q.b=0 then []else qX t d q.b):=by
     rw[qX,if_neg hs,hq,if_neg hz]
    rw[e]
    have hzb:(!decide (q.a=0) ||!decide (q.b=0))=true:=by
     by_cases ha:q.a=0
     ·have:¬q.b=0:=fun hb=>hz ⟨ha,hb⟩
      simp[this]
     ·simp[ha]
    have hl1:=wF t d q.a
    simp only[hzb]
    simp (maxSteps:=1000000) [go_sem,hd0,wd']
    refine⟨⟨rfl,by simp[Tryz.f173]⟩,zb [([0],[0]),([901],[901]),([0,1],[0,1])] (ih (by omega) q.a (by omega)) (by simp[go_sem,zH]) ⟨by simp[go_sem],by simp[go_sem]⟩ (by simp[go_sem]) ?_⟩
    rintro _ _ ⟨rfl,tk,htk,rfl⟩
    by_cases hb:q.b=0
    ·rcases htk with rfl|rfl
     ·simp (maxSteps:=1000000) [go_sem,Zd,hb]
      exact zi [[0]] (.tup []) ⟨rfl,by simp⟩ (by simp[go_sem,zd,leT]) ⟨rfl,.inl (by simp[go_sem,zu])⟩
     ·simp (maxSteps:=1000000) [go_sem,Zd,hb]
      exact zi [[0]] (.tup []) ⟨rfl,by simp⟩ (by simp[go_sem,zd,leT]) ⟨rfl,.inr (by simp[go_sem,zu])⟩
    ·rcases htk with rfl|rfl
     ·simp (maxSteps:=1000000) [go_sem,Zd,hb,wd']
      refine⟨⟨rfl,by simp[Tryz.f173]⟩,zb [([0],[0]),([901],[0,1]),([0,1],[901])] (Yk h hZ hP ck cx sk sx d (by omega) (qX t d q.a) q.b (by omega) (by simp;omega)) (by simp[go_sem,zH]) ⟨by simp[go_sem],by simp[go_sem]⟩ (by simp[go_sem]) ?_⟩
      rintro _ _ ⟨rfl,tk,htk,rfl⟩
      rcases htk with rfl|rfl
      ·simp (maxSteps:=1000000) [go_sem,Zd]
       exact zi [[0]] (.tup []) ⟨rfl,by simp⟩ (by simp[go_sem,zd,leT]) ⟨rfl,.inr (by simp[go_sem,zu])⟩
      ·simp (maxSteps:=1000000) [go_sem,Zd]
       exact zi [[0]] (.tup []) ⟨rfl,by simp⟩ (by simp[go_sem,zd,leT]) ⟨rfl,.inl (by simp[go_sem,zu])⟩
     ·simp (maxSteps:=1000000) [go_sem,Zd,hb,wd']
      refine⟨⟨rfl,by simp[Tryz.f173]⟩,zb [([0],[0]),([901],[901]),([0,1],[0,1])] (Yk h hZ hP ck cx sk sx d (by omega) (qX t d q.a) q.b (by omega) (by simp;omega)) (by simp[go_sem,zH]) ⟨by simp[go_sem],by simp[go_sem]⟩ (by simp[go_sem]) ?_⟩
      rintro _ _ ⟨rfl,tk,htk,rfl⟩
      rcases htk with rfl|rfl
      ·simp (maxSteps:=1000000) [go_sem,Zd]
       exact zi [[0]] (.tup []) ⟨rfl,by simp⟩ (by simp[go_sem,zd,leT]) ⟨rfl,.inl (by simp[go_sem,zu])⟩
      ·simp (maxSteps:=1000000) [go_sem,Zd]
       exact zi [[0]] (.tup []) ⟨rfl,by simp⟩ (by simp[go_sem,zd,leT]) ⟨rfl,.inr (by simp[go_sem,zu])⟩
end Go.Proofs.YtjefahhmkcfiiaaGreat
end
section
namespace Go.AM
def QO(r:Option Nat):Fence:={Fence.wide with round:=r}
theorem ziv(r:Option Nat)(P:Program)(m:Machine):m.fenced P (QO r):=fenced_wide P m
theorem zgV {r:Option Nat} {P:Program} {m m':Machine}:StepsIn (Machine.fenced P (QO r)) P m m'↔Steps P m m':=
 ⟨StepsIn.steps,fun h=>(StepsIn.of_steps h).mono fun m _=>ziv r P m⟩
theorem zaj {r:Option Nat} {n:Nat} {P:Program} {f:FuncId} {args:Array Value} {w:World} {R:Ending→World→Prop}(h:Calls P f args w R):CallsIn (QO r) n P f args w R:=
 (callsIn_wide (n:=n)).2 h
theorem zbE {r:Option Nat} {n:Nat} {P:Program} {row:String} {args:Array Value} {w:World} {R:Value→World→Prop}(h:Rows P row args w R):RowsIn (QO r) n P row args w R:=
 fun c cs _=>let⟨v,w',k,s⟩:=h c cs;⟨v,w',k,zgV.2 s⟩
def ZK(o:Oper):Bool:=match o.op with
 |.defer _=>false
 |_=>true
theorem V4 {o:Oper}(h:ZK o=true):∀c,o.op≠ .defer c:=fun c e=>by unfold ZK at h;rw[e]at h;cases h
section
variable {r:Option Nat} {n:Nat} {P:Program} {Q:Exit→Act→World→Prop}
theorem zmd {o:Oper} {a:Act} {next:Act→World→Prop}(_:¬LetsOut Q):∀{res:Result Next},o.upon P a next Q res→o.uponIn (QO r) n P a next Q res
 |.ok (.value _) _,h=>h
 |.ok .skip _,h=>h
 |.ok (.defer _) _,h=>h
 |.ok (.enter _ _) _,h=>⟨fun e=>(by cases e),zaj h⟩
 |.ok (.row _ _) _,h=>⟨fun e=>(by cases e),zbE h⟩
 |.halt (.panic _) _,h=>h
theorem zc2 {o:Oper} {a:Act} {w:World} {next:Act→World→Prop}(hd:ZK o=true)(hQ:¬LetsOut Q)(h:o.wp P a w next Q):o.wpIn (QO r) n P a w next Q:=by
 unfold Oper.wpIn
 rw[Oper.semAt_eq _ _ _ (V4 hd)]
 exact⟨fun _ _=>trivial,zmd hQ h⟩
theorem zmY {ops:Array Oper} {i:Nat} {K:Act→World→Prop} {a:Act} {w:World}(hd:ops.all ZK=true)(hQ:¬LetsOut Q)(h:wpOp P ops Q i K a w):wpOpIn (QO r) n P ops Q i K a w:=by
 unfold wpOp at h
 unfold wpOpIn
 cases ho:ops[i]? with
 |none=>simp only[ho]at h⊢;exact h
 |some o=>
  simp only[ho]at h⊢
  have hdo:ZK o=true:=by
   have:=Array.all_eq_true'.1 hd o (Array.mem_of_getElem? ho)
   exact this
  by_cases hw:Region.wanted o (yielded ops a.tmps)=true
  ·rw[if_pos hw]at h⊢
   exact zc2 hdo hQ (h.resolve_right fun k=>hQ k.2)
  ·rw[if_neg hw]at h⊢
   exact⟨fun _ _=>trivial,h⟩
theorem XP {ops:Array Oper} {md:Region.Mode}(hd:ops.all ZK=true)(hQ:¬LetsOut Q):∀(fuel:Nat) (listed:Array Bool) (a:Act) (w:World),wpAny P md ops Q fuel listed a w→wpAnyIn (QO r) n P md ops Q fuel listed a w
 |0,_,_,_,h=>h
 |fuel+1,_,_,_,h=>⟨h.1,fun i hi=>zmY hd hQ (wpOp_mono (fun a' w' k=>XP hd hQ fuel _ a' w' k) (h.2 i hi))⟩
theorem Wk {ops:Array Oper}(hQ:¬LetsOut Q):∀(l:List Oper) (a:Act) (w:World),l.all ZK=true→wpList P ops Q l a w→wpListIn (QO r) n P ops Q l a w
 | [],_,_,_,h=>h
 |o::l,a,w,hd,h=>by
  simp only[List.all_cons,Bool.and_eq_true]at hd
  unfold wpList at h
  unfold wpListIn
  split at h
  ·rename_i hw
   rw[if_pos hw]
   exact zc2 hd.1 hQ (Oper.wp_mono (fun a' w' k=>Wk hQ l a' w' hd.2 k) (h.resolve_right fun k=>hQ k.2))
  ·rename_i hw
   rw[if_neg hw]
   exact⟨fun _ _=>trivial,Wk hQ l _ w hd.2 h⟩
theorem zfQ {w:World} {a:Act} {l:List Oper}(m:Nat)(hB:Region.lexTailB .any l.toArray m=true)
  (h:wpStill P l.toArray w (fun a'=>wpList P l.toArray Q (l.drop m) a' w) (l.take m) a):wpAny P .any l.toArray Q l.toArray.size (Array.replicate l.toArray.size false) a w:=by
 simp only[Region.lexTailB,Bool.and_eq_true,decide_eq_true_eq]at hB
 obtain⟨⟨⟨⟨hsel,hn⟩,hs⟩,hc⟩,hlex⟩:=hB
 have hn':m<l.length:=by simpa using hn
 have htl:(l.take m).length=m:=by simp;omega
 have hdl:(l.drop m).length=l.toArray.size-m:=by simp
 have inv0:HeadInv .any l.toArray m (Array.replicate l.toArray.size false):=
  ⟨by simp,fun j oj _ hl=>(by rw[getD_replicate_false]at hl;cases hl),fun t _ ht=>getD_in (by simpa using ht) (getD_replicate_false _ _)⟩
 have H:=wpAnyL_lex (md:=.any) (g:=l.toArray.size-m) hsel hs hc hn (l.take m) 0 _ a (fun j hj=>by
  have hj':j<m:=by rw[htl]at hj;exact hj
  simp[hj']) (by simpa using htl) inv0 (by rw[htl];exact hlex) h
 have:=wpAny_of_head (Q':=Q) (g:=l.toArray.size-m) (fun listed a' hL=>by
  have:=wpAny_of_seq (md:=.any) (Q':=Q) (l.drop m) m listed a' w (fun j=>by simp[List.getElem?_drop]) (by rw[hdl];exact hL.1) hL.2
  rwa[hdl]at this) _ _ _ H
 rw[htl,show m+(l.toArray.size-m)=l.toArray.size by omega]at this
 exact this
end
def YV(K:Act→World→Prop):Exit→Act→World→Prop
 |.normal,a,w=>K a w
 |_,_,_=>False
theorem Wy(K:Act→World→Prop):¬LetsOut (YV K):=fun⟨_,_,h⟩=>h
def zfX(ops:Array Oper)(draw:Bool):Bool:=
 ops.all ZK&&(!draw || (decide (Zv ops.toList≠ops.size)&&Region.lexTailB .any ops.toList.toArray (Zv ops.toList)))
theorem zaG [Gi] {r:Option Nat} {n:Nat} {P:Program} {id:Nat} {ops:Array Oper} {draw:Bool}(hm:P.follows .mixedOrders=true)(hd:zfX ops draw=true) {E:Ent} {K:St→Prop}
  {S:St} {g:Gh} {a:Act} {w:World} (h:Qp P ops ops.toList S K) (hS:SR E S g a w):(Code.region id ops draw).wpIn (QO r) n P (YV fun a' w'=>∃S' g',K S'∧SR E S' g' a' w') a w:=by
 unfold zfX at hd
 simp only[Bool.and_eq_true]at hd
 obtain⟨hnd,hd⟩:=hd
 have hndl:ops.toList.all ZK=true:=by rw[←Array.all_toList]at hnd;exact hnd
 have hQ:∀S' g' a' w',K S'→SR E S' g' a' w'→YV (fun a' w'=>∃S' g',K S'∧SR E S' g' a' w') .normal a' w':=fun S' g' a' w' k hs=>⟨S',g',k,hs⟩
 cases draw with
 |false=>exact wpIn_region_list (Wk (Wy _) _ _ _ hndl (kZ hQ ops.toList h hS))
 |true=>
  simp only[Bool.not_true,Bool.false_or,Bool.and_eq_true,decide_eq_true_eq]at hd
  have hw1:SR E S g a {w with drawn:=w.drawn+1}:=hS.drew
  refine wpIn_region_any hm ?_
  refine XP hnd (Wy _) _ _ _ _ ?_
  have e:ops=ops.toList.toArray:=by simp
  rw[e]
  refine zfQ (Zv ops.toList) hd.2 ?_
  rw[←e]
  have:=ko (P:=P) (ops:=ops) (K:=K) (ops.toList.drop (Zv ops.toList)) (ops.toList.take (Zv ops.toList)) (y8 _) (by rw[List.take_append_drop];exact h) hw1
  have mono:∀(l:List Oper) (a:Act) (F G:Act→Prop),(∀a,F a→G a)→wpStill P ops {w with drawn:=w.drawn+1} F l a→wpStill P ops {w with drawn:=w.drawn+1} G l a:=by
   intro l
   induction l with
   |nil=>intro a F G hFG hh;exact hFG _ hh
   |cons o l ih=>
    intro a F G hFG hh
    unfold wpStill at hh⊢
    split
    ·rename_i hw
     rw[if_pos hw]at hh
     exact Oper.still_mono (fun a h=>ih a F G hFG h) hh
    ·rename_i hw
     rw[if_neg hw]at hh
     exact ih _ F G hFG hh
  exact mono _ _ _ _ (fun a' ⟨S',g',h1,h2⟩=>kZ hQ _ h1 h2) this
theorem zaf [Gi] {r:Option Nat} {n:Nat} {P:Program} {id:Nat} {ops:Array Oper}(hm:P.follows .mixedOrders=true)(hd:ops.all ZK=true) {E:Ent} {K:St→Prop}
  {S:St} {g:Gh} {a:Act} {w:World} (h:∃t,(Region.noSelect ops&&okT ops ops.size (Array.replicate ops.size false) t)=true∧kT P ops K t S) (hS:SR E S g a w):(Code.region id ops true).wpIn (QO r) n P (YV fun a' w'=>∃S' g',K S'∧SR E S' g' a' w') a w:=by
 obtain⟨t,hok,h⟩:=h
 have hw1:SR E S g a {w with drawn:=w.drawn+1}:=hS.drew
 simp only[Bool.and_eq_true]at hok
 exact wpIn_region_any hm (XP hd (Wy _) _ _ _ _ (zeR (Q:=YV fun a' w'=>∃S' g',K S'∧SR E S' g' a' w') (fun S' g' a' w' k hs=>⟨S',g',k,hs⟩) (fun c a w hq=>hq) hok.1 hok.2 h hw1))
def QQ(D:List Nat):Code→Bool
 |.region id ops draw=>bif draw&&D.contains (id+200000)then ops.all ZK else zfX ops draw&& !(draw&&(D.contains (id+100000) || D.contains id))
 |.seq x y=>QQ D x&&QQ D y
 |.cond _ x y=>QQ D x&&QQ D y
 |.block _ c=>QQ D c
 |.skip=>true
 |.exit _=>true
 |.ret=>true
 |_=>false
theorem kQ {F:Fence} {n:Nat} {P:Program} {c:Code} {K:Act→World→Prop} {Q:Exit→Act→World→Prop} {a:Act} {w:World}(h:c.wpIn F n P (YV K) a w)(hq:∀a w,K a w→Q .normal a w):c.wpIn F n P Q a w:=
 wpIn_mono h fun e a w k=>match e,k with
  |.normal,k=>hq a w k
theorem QM [Gi] {r:Option Nat} {n:Nat} {P:Program} {D:List Nat}(hm:P.follows .mixedOrders=true) {E:Ent}:∀(c:Code) {Q:Exit→St→Prop} {S:St} {g:Gh} {a:Act} {w:World},QQ D c=true→wpA P D c Q S→SR E S g a w→c.wpIn (QO r) n P (post E Q) a w
 |.skip,Q,S,g,a,w,_,h,hS=>wpIn_skip ⟨S,g,h,hS⟩
 |.region id ops draw,Q,S,g,a,w,hc,h,hS=>by
  simp only[wpA]at h
  by_cases hT:(draw&&D.contains (id+200000))=true
  ·simp only[QQ,hT,cond_true]at hc
   rw[if_pos hT]at h
   simp only[Bool.and_eq_true]at hT
   obtain⟨rfl,_⟩:=hT
   obtain⟨t,K',h1,h2,h3⟩:=h
   refine kQ (zaf hm hc (K:=K') ⟨t,h1,h2⟩ hS.clean) (fun a w k=>?_)
   obtain⟨S',g',hk,hs⟩:=k
   rcases h3 S' hk with h|⟨S1,hl,h⟩
   ·exact⟨S',g',h,hs⟩
   ·obtain⟨g2,hs2⟩:=hs.leR hl
    exact⟨S1,g2,h,hs2⟩
  rw[if_neg hT]at h
  simp only[QQ,Bool.eq_false_iff.2 hT,cond_false,Bool.and_eq_true,Bool.not_eq_true',Bool.and_eq_false_iff,Bool.or_eq_false_iff]at hc
  have h1:(draw&&D.contains (id+100000))=false:=by
   rcases hc.2 with e|e
   ·rw[e];rfl
   ·rw[e.1];exact Bool.and_false _
  have h2:(draw&&D.contains id)=false:=by
   rcases hc.2 with e|e
   ·rw[e];rfl
   ·rw[e.2];exact Bool.and_false _
  rw[h1,h2]at h
  simp only[Bool.false_eq_true,if_false]at h
  exact kQ (zaG hm hc.1 (K:=Q .normal) h hS.clean) (fun a w k=>k)
 |.seq x y,Q,S,g,a,w,hc,h,hS=>by
  simp only[QQ,Bool.and_eq_true]at hc
  simp only[wpA]at h
  refine wpIn_seq (wpIn_mono (QM hm x hc.1 h hS) ?_)
  rintro e a' w' ⟨S',g',hq,hs⟩
  cases e with
  |normal=>exact QM hm y hc.2 hq hs
  |_=>exact⟨S',g',hq,hs⟩
 |.cond c x y,Q,S,g,a,w,hc,h,hS=>by
  simp only[QQ,Bool.and_eq_true]at hc
  simp only[wpA]at h
  have hr:=hS.ev c
  split at h
  ·rename_i b hb
   rw[hb]at hr
   simp only[zc,zl]at hr
   cases b with
   |true=>exact wpIn_cond_true hr (QM hm x hc.1 (h.1 rfl) hS)
   |false=>exact wpIn_cond_false hr (QM hm y hc.2 (h.2 rfl) hS)
  ·exact h.elim
 |.block id c,Q,S,g,a,w,hc,h,hS=>by
  simp only[QQ]at hc
  simp only[wpA]at h
  refine wpIn_block (wpIn_mono (QM hm c hc h hS) ?_)
  rintro e a' w' ⟨S',g',hq,hs⟩
  cases e with
  |exit i=>
   simp only[Exit.inBlock]
   simp only[]at hq
   split
   ·rename_i hi;rw[if_pos hi]at hq;exact⟨S',g',hq,hs⟩
   ·rename_i hi;rw[if_neg hi]at hq;exact⟨S',g',hq,hs⟩
  |_=>exact⟨S',g',hq,hs⟩
 |.exit id,Q,S,g,a,w,_,h,hS=>wpIn_exit ⟨S,g,h,hS⟩
 |.ret,Q,S,g,a,w,_,h,hS=>wpIn_ret ⟨S,g,h,hS⟩
 |.loop _,Q,S,g,a,w,hc,_,_=>by cases hc
 |.rangeFunc ..,Q,S,g,a,w,hc,_,_=>by cases hc
 |.scope _,Q,S,g,a,w,hc,_,_=>by cases hc
 |.label _,Q,S,g,a,w,hc,_,_=>by cases hc
 |.goto _,Q,S,g,a,w,hc,_,_=>by cases hc
 |.refuse _,Q,S,g,a,w,hc,_,_=>by cases hc
def kN(ds:List Deferred)(a:Act):Act:={a with defers:=ds}
theorem zaT(ds:List Deferred)(a:Act)(d:Option Nat)(v:Value):kN ds (a.put d v)=(kN ds a).put d v:=by cases d<;>rfl
theorem YF(ds:List Deferred)(a:Act)(x:Operand):(kN ds a).eval x=a.eval x:=by cases x<;>rfl
theorem zlU [Gi] {r:Option Nat} {n:Nat} {P:Program} {E:Ent} {K:St→Prop} {o:Oper} {a:Act} {w:World} {ds:List Deferred}(hd:ZK o=true)
  (h:o.wp P a w (fun a' w'=>∃S' g',K S'∧SR E S' g' a' w') (fun _ _ _=>False)) (_:a.defers=[]):
  o.wpIn (QO r) n P (kN ds a) w (fun a' w'=>∃b,a'=kN ds b∧∃S' g',K S'∧SR E S' g' b w') (fun _ _ _=>False):=by
 unfold Oper.wpIn
 rw[Oper.semAt_eq _ _ _ (V4 hd)]
 refine⟨fun _ _=>trivial,?_⟩
 unfold Oper.wp at h
 have he:(kN ds a).eval=a.eval:=funext (YF ds a)
 rw[he]
 generalize (execOp a.eval o).run P w=res at h
 have put:∀v w',(∃S' g',K S'∧SR E S' g' (a.put o.dst v) w')→∃b,(kN ds a).put o.dst v=kN ds b∧∃S' g',K S'∧SR E S' g' b w':=fun v w' k=>⟨a.put o.dst v,(zaT ds a _ v).symm,k⟩
 match res,h with
 |.ok (.value v) w',h=>exact put v w' h
 |.ok .skip w',h=>exact put undef w' h
 |.ok (.defer d) w',h=>
  obtain⟨S',g',_,hs⟩:=h
  have:=hs.defers
  cases hdst:o.dst<;>rw[hdst]at this<;>simp[Act.put]at this
 |.ok (.enter f args) w',h=>
  refine⟨fun e=>(by cases e),zaj (Calls.mono h fun e w'' k=>?_)⟩
  cases e with
  |returned v=>exact put v w'' k
  |panicked c=>exact k
  |outgrown=>exact k
 |.ok (.row row args) w',h=>exact⟨fun e=>(by cases e),zbE (Rows.mono h fun v w'' k=>put v w'' k)⟩
 |.halt (.panic v) w',h=>exact h
theorem zcY [Gi] {r:Option Nat} {n:Nat} {P:Program} {ops:Array Oper} {E:Ent} {K:St→Prop} {ds:List Deferred} {Q:Exit→Act→World→Prop}(hQ:∀S' g' a' w',K S'→SR E S' g' a' w'→Q .normal (kN ds a') w'):
  ∀(l:List Oper) {S:St} {g:Gh} {a:Act} {w:World},l.all ZK=true→Qp P ops l S K→SR E S g a w→wpListIn (QO r) n P ops Q l (kN ds a) w
 | [],S,g,a,w,_,h,hS=>hQ _ _ _ _ h hS
 |o::l,S,g,a,w,hd,h,hS=>by
  simp only[List.all_cons,Bool.and_eq_true]at hd
  unfold Qp at h
  cases hc:qZ ops S o with
  |none=>simp only[hc]at h
  |some c=>
   simp only[hc]at h
   have:=vM (P:=P) hS hc h (next:=fun a' w'=>∃S' g',Qp P ops l S' K∧SR E S' g' a' w') (Q:=fun _ _ _=>False) (fun S' g' a' w' hk hs=>⟨S',g',hk,hs⟩)
   have hy:yielded ops (kN ds a).tmps=yielded ops a.tmps:=rfl
   unfold wpListIn
   rw[hy]
   split
   ·rename_i hw
    rw[if_pos hw]at this
    have h1:=zlU (r:=r) (n:=n) (ds:=ds) hd.1 this hS.defers
    refine⟨h1.1,?_⟩
    have h2:=h1.2
    generalize (o.semAt (QO r).round (kN ds a).eval).run P w=res at h2
    have go:∀a' w',(∃b,a'=kN ds b∧∃S' g',Qp P ops l S' K∧SR E S' g' b w')→wpListIn (QO r) n P ops Q l a' w':=by
     rintro a' w' ⟨b,rfl,S',g',hk,hs⟩
     exact zcY hQ l hd.2 hk hs
    match res,h2 with
    |.ok (.value v) w',k=>exact go _ _ k
    |.ok .skip w',k=>exact go _ _ k
    |.ok (.defer d) w',k=>exact go _ _ k
    |.ok (.enter f args) w',k=>
     refine⟨k.1,CallsIn.mono k.2 fun e w'' k=>?_⟩
     cases e with
     |returned v=>exact go _ _ k
     |panicked c=>exact k.elim
     |outgrown=>obtain⟨_,_,k⟩:=k;exact k.elim
    |.ok (.row row args) w',k=>exact⟨k.1,RowsIn.mono k.2 fun v w'' k=>go _ _ k⟩
    |.ok (.round l' f t as1 b) w',k=>
     refine⟨k.1,RoundIn.mono k.2 fun e w'' k=>?_⟩
     cases e with
     |returned v=>exact go _ _ k
     |panicked c=>exact k.elim
     |outgrown=>obtain⟨_,_,k⟩:=k;exact k.elim
    |.halt (.panic v) w',k=>exact k.elim
   ·rename_i hw
    rw[if_neg hw]at this
    refine⟨fun _ _=>trivial,?_⟩
    obtain⟨S',g',hk,hs⟩:=this
    rw[←zaT]
    exact zcY hQ l hd.2 hk hs
def kB:Code→Bool
 |.region _ ops draw=>!draw&&ops.all ZK
 |.seq x y=>kB x&&kB y
 |.cond _ x y=>kB x&&kB y
 |.block _ c=>kB c
 |.skip=>true
 |.exit _=>true
 |.ret=>true
 |_=>false
def zp0 [Gi](ds:List Deferred)(E:Ent)(Q:Exit→St→Prop):Exit→Act→World→Prop:=fun e a w=>∃b,a=kN ds b∧post E Q e b w
theorem yb [Gi] {r:Option Nat} {n:Nat} {P:Program} {D:List Nat} {E:Ent} {ds:List Deferred}:∀(c:Code) {Q:Exit→St→Prop} {S:St} {g:Gh} {a:Act} {w:World},kB c=true→wpA P D c Q S→SR E S g a w→c.wpIn (QO r) n P (zp0 ds E Q) (kN ds a) w
 |.skip,Q,S,g,a,w,_,h,hS=>wpIn_skip ⟨a,rfl,S,g,h,hS⟩
 |.region id ops draw,Q,S,g,a,w,hc,h,hS=>by
  simp only[kB,Bool.and_eq_true,Bool.not_eq_true']at hc
  obtain⟨rfl,hc⟩:=hc
  simp only[wpA,Bool.false_and,Bool.false_eq_true,if_false]at h
  have hndl:ops.toList.all ZK=true:=by rw[←Array.all_toList]at hc;exact hc
  exact wpIn_region_list (zcY (K:=Q .normal) (fun S' g' a' w' k hs=>⟨a',rfl,S',g',k,hs⟩) ops.toList hndl h hS.clean)
 |.seq x y,Q,S,g,a,w,hc,h,hS=>by
  simp only[kB,Bool.and_eq_true]at hc
  simp only[wpA]at h
  refine wpIn_seq (wpIn_mono (yb x hc.1 h hS) ?_)
  rintro e a' w' ⟨b,rfl,S',g',hq,hs⟩
  cases e with
  |normal=>exact yb y hc.2 hq hs
  |_=>exact⟨b,rfl,S',g',hq,hs⟩
 |.cond c x y,Q,S,g,a,w,hc,h,hS=>by
  simp only[kB,Bool.and_eq_true]at hc
  simp only[wpA]at h
  have hr:=hS.ev c
  rw[←YF ds]at hr
  split at h
  ·rename_i b hb
   rw[hb]at hr
   simp only[zc,zl]at hr
   cases b with
   |true=>exact wpIn_cond_true hr (yb x hc.1 (h.1 rfl) hS)
   |false=>exact wpIn_cond_false hr (yb y hc.2 (h.2 rfl) hS)
  ·exact h.elim
 |.block id c,Q,S,g,a,w,hc,h,hS=>by
  simp only[kB]at hc
  simp only[wpA]at h
  refine wpIn_block (wpIn_mono (yb c hc h hS) ?_)
  rintro e a' w' ⟨b,rfl,S',g',hq,hs⟩
  cases e with
  |exit i=>
   simp only[Exit.inBlock]
   simp only[]at hq
   split
   ·rename_i hi;rw[if_pos hi]at hq;exact⟨b,rfl,S',g',hq,hs⟩
   ·rename_i hi;rw[if_neg hi]at hq;exact⟨b,rfl,S',g',hq,hs⟩
  |_=>exact⟨b,rfl,S',g',hq,hs⟩
 |.exit id,Q,S,g,a,w,_,h,hS=>wpIn_exit ⟨a,rfl,S,g,h,hS⟩
 |.ret,Q,S,g,a,w,_,h,hS=>wpIn_ret ⟨a,rfl,S,g,h,hS⟩
 |.loop _,Q,S,g,a,w,hc,_,_=>by cases hc
 |.rangeFunc ..,Q,S,g,a,w,hc,_,_=>by cases hc
 |.scope _,Q,S,g,a,w,hc,_,_=>by cases hc
 |.label _,Q,S,g,a,w,hc,_,_=>by cases hc
 |.goto _,Q,S,g,a,w,hc,_,_=>by cases hc
 |.refuse _,Q,S,g,a,w,hc,_,_=>by cases hc
end Go.AM
end
