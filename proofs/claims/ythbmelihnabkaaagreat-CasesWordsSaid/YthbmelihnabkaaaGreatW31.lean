/- A part of the proof of this seat's statements, by an abstract machine: what each operation does to values, and what the law's functions compute. Conditions: as each law says. -/
import Derived.Test.YthbmelihnabkaaaGreatW18
import Derived.Test.YthbmelihnabkaaaGreatW17
import Derived.Test.YthbmelihnabkaaaGreatW27
import Derived.StillTail
import Derived.OrdersIn
import Derived.TacticsIn
import Derived.RangeFuncCalls
section
namespace Go.Proofs.YthbmelihnabkaaaGreat
open Go.AM
set_option maxHeartbeats 1000000
set_option maxRecDepth 10000
def Zc(r:Int):Bool:=decide (44032≤r)&&decide (r<55204)
theorem ziw [Gi](r:Int):CR Tryz.prog 207 [] [.p (.int .i32 r)] [] (is (.p (.bool (Zc r)))):=by
 refine zn mixed 3 [] Tryz.func207 rfl (by kernel_rfl) rfl (by simp) (by simp) ?_
 simp[go_sem,Tryz.f207]
 exact zg (.p (.bool (Zc r))) rfl (by simp[go_sem,zd,leA,Zc]) ⟨rfl,rfl⟩
def zcT(r:Int):Bool:=(decide (4449≤r)&&decide (r<4470)) || (decide (4519<r)&&decide (r<4547))
theorem zmm [Gi](r:Int):CR Tryz.prog 211 [] [.p (.int .i32 r)] [] (is (.p (.bool (zcT r)))):=by
 refine zn mixed 3 [] Tryz.func211 rfl (by kernel_rfl) rfl (by simp) (by simp) ?_
 simp[go_sem,Tryz.f211]
 exact⟨by omega,by omega,zg (.p (.bool (zcT r))) rfl (by simp[go_sem,zd,leA,zcT]) ⟨rfl,rfl⟩⟩
theorem wrap32 {x:Int}(h1: -2147483648≤x)(h2:x≤2147483647):IntKind.i32.wrap x=x:=by
 simp only[IntKind.wrap,IntKind.signed,IntKind.bits]
 simp
 omega
def yz(a b:Int):Option Int:=
 if 4352≤a∧a<4371∧4449≤b∧b<4470 then some (44032+((a-4352)*21+b-4449)*28)
 else if Zc a=true∧(a-44032)%28=0∧4519<b∧b<4547 then some (a+b-4519)
 else none
def Jy(x:Option Int):AV:=.tup [.p (.int .i32 (x.getD 0)),.p (.bool x.isSome)]
theorem zkE [Gi](a b:Int):CR Tryz.prog 191 [] [.p (.int .i32 a),.p (.int .i32 b)] [] (is (Jy (yz a b))):=by
 refine zn mixed 7 [] Tryz.func191 rfl (by kernel_rfl) rfl (by simp) (by simp) ?_
 by_cases h:4352≤a∧a<4371∧4449≤b∧b<4470
 ·have e:yz a b=some (44032+((a-4352)*21+b-4449)*28):=if_pos h
  obtain⟨h1,h2,h3,h4⟩:=h
  have w1:IntKind.i32.wrap (a-4352)=a-4352:=wrap32 (by omega) (by omega)
  have w2:IntKind.i32.wrap ((a-4352)*21)=(a-4352)*21:=wrap32 (by omega) (by omega)
  have w3:IntKind.i32.wrap ((a-4352)*21+b)=(a-4352)*21+b:=wrap32 (by omega) (by omega)
  have w4:IntKind.i32.wrap ((a-4352)*21+b-4449)=(a-4352)*21+b-4449:=wrap32 (by omega) (by omega)
  have w5:IntKind.i32.wrap (((a-4352)*21+b-4449)*28)=((a-4352)*21+b-4449)*28:=wrap32 (by omega) (by omega)
  have w6:IntKind.i32.wrap (44032+((a-4352)*21+b-4449)*28)=44032+((a-4352)*21+b-4449)*28:=wrap32 (by omega) (by omega)
  simp[go_sem,Tryz.f191,h1,h2,h3,h4,w1,w2,w3,w4,w5,w6]
  exact zg (Jy (yz a b)) rfl (by rw[e];simp[go_sem,zd,leA,Jy]) ⟨rfl,rfl⟩
 ·have hq:(decide (4352≤a)&&decide (a<4371)&&decide (4449≤b)&&decide (b<4470))=false:=by
   simp only[Bool.and_eq_false_iff,decide_eq_false_iff_not]
   omega
  simp[go_sem,Tryz.f191,hq]
  refine⟨⟨rfl,by simp[Tryz.f207]⟩,zc [] (ziw a) (by simp[go_sem]) ⟨by simp[go_sem],by simp[go_sem]⟩ (by simp[go_sem]) ?_⟩
  rintro y rs ⟨rfl,rfl⟩
  by_cases hs:Zc a=true
  ·have hs':44032≤a∧a<55204:=by simpa[Zc]using hs
   have w1:IntKind.i32.wrap (a-44032)=a-44032:=wrap32 (by omega) (by omega)
   have w2:(a-44032).tmod 28=(a-44032)%28:=Int.tmod_eq_emod_of_nonneg (by omega)
   have w3:IntKind.i32.wrap ((a-44032)%28)=(a-44032)%28:=wrap32 (by omega) (by omega)
   simp[go_sem,hs,w1,w2]
   refine qk (fun hc=>?_) (fun hc=>?_)
   ·have hc':(a-44032)%28=0∧4519<b∧b<4547:=by
     simp at hc
     omega
    have e:yz a b=some (a+b-4519):=by
     unfold yz
     rw[if_neg h,if_pos ⟨hs,hc'⟩]
    have w4:IntKind.i32.wrap (a+b)=a+b:=wrap32 (by omega) (by omega)
    have w5:IntKind.i32.wrap (a+b-4519)=a+b-4519:=wrap32 (by omega) (by omega)
    simp[go_sem,w4,w5]
    exact zg (Jy (yz a b)) rfl (by rw[e];simp[go_sem,zd,leA,Jy]) ⟨rfl,rfl⟩
   ·have hc':¬((a-44032)%28=0∧4519<b∧b<4547):=by
     intro k
     simp[k]at hc
    have e:yz a b=none:=by
     unfold yz
     rw[if_neg h,if_neg (fun k=>hc' k.2)]
    simp[go_sem]
    exact zg (Jy (yz a b)) rfl (by rw[e];simp[go_sem,zd,leA,Jy]) ⟨rfl,rfl⟩
  ·have e:yz a b=none:=by
    unfold yz
    rw[if_neg h,if_neg (fun k=>hs k.1)]
   simp[go_sem,hs]
   exact zg (Jy (yz a b)) rfl (by rw[e];simp[go_sem,zd,leA,Jy]) ⟨rfl,rfl⟩
end Go.Proofs.YthbmelihnabkaaaGreat
end
section
namespace Go.Proofs.YthbmelihnabkaaaGreat
open Go.AM
set_option maxHeartbeats 1000000
set_option maxRecDepth 10000
def zQ(r:Int):List Int:=
 if(r-44032)%28=0 then [4352+(r-44032)/588,4449+(r-44032)/28%21]else [4352+(r-44032)/588,4449+(r-44032)/28%21,4519+(r-44032)%28]
theorem zfx [Gi](r:Int):CR Tryz.prog 186 [] [.p (.int .i32 r)] [] (fun x rs=>(Zc r=false∧x=.p (.opq (.slice none 0 0))∧rs=[])∨(Zc r=true∧x=.la [4] 1 0 (zQ r).length∧∃l,rs=[([4],((zQ r++l).map fun k=>AV.p (.int .i32 k)))])):=by
 refine qQ [] mixed 5 [] Tryz.func186 rfl (by kernel_rfl) [2] rfl (by simp) (by simp) ?_
 simp[go_sem,Tryz.f186]
 refine⟨⟨rfl,by simp[Tryz.f207]⟩,zc [] (ziw r) (by simp[go_sem]) ⟨by simp[go_sem],by simp[go_sem]⟩ (by simp[go_sem]) ?_⟩
 rintro y rs ⟨rfl,rfl⟩
 by_cases hs:Zc r=true
 ·have hs':44032≤r∧r<55204:=by simpa[Zc]using hs
  have w1:IntKind.i32.wrap (r-44032)=r-44032:=wrap32 (by omega) (by omega)
  have d1:(r-44032).tdiv 588=(r-44032)/588:=Int.tdiv_eq_ediv_of_nonneg (by omega)
  have d2:(r-44032).tdiv 28=(r-44032)/28:=Int.tdiv_eq_ediv_of_nonneg (by omega)
  have d3:(r-44032).tmod 28=(r-44032)%28:=Int.tmod_eq_emod_of_nonneg (by omega)
  have d4:((r-44032)/28).tmod 21=(r-44032)/28%21:=Int.tmod_eq_emod_of_nonneg (by omega)
  have w2:IntKind.i32.wrap ((r-44032)/588)=(r-44032)/588:=wrap32 (by omega) (by omega)
  have w3:IntKind.i32.wrap ((r-44032)/28)=(r-44032)/28:=wrap32 (by omega) (by omega)
  have w4:IntKind.i32.wrap ((r-44032)%28)=(r-44032)%28:=wrap32 (by omega) (by omega)
  have w5:IntKind.i32.wrap ((r-44032)/28%21)=(r-44032)/28%21:=wrap32 (by omega) (by omega)
  have w6:IntKind.i32.wrap (4352+(r-44032)/588)=4352+(r-44032)/588:=wrap32 (by omega) (by omega)
  have w7:IntKind.i32.wrap (4449+(r-44032)/28%21)=4449+(r-44032)/28%21:=wrap32 (by omega) (by omega)
  have w8:IntKind.i32.wrap (4519+(r-44032)%28)=4519+(r-44032)%28:=wrap32 (by omega) (by omega)
  simp[go_sem,hs,w1,d1,d2,d3,d4,w2,w3,w6,w7,w8]
  refine zw (fun hc=>?_) (fun hc=>?_)
  ·have e:zQ r=[4352+(r-44032)/588,4449+(r-44032)/28%21]:=if_pos (by omega)
   simp[go_sem]
   exact zi [[4]] (.la [4] 1 0 2) ⟨rfl,by simp⟩ (by simp[go_sem,zd,leA,leT]) ⟨by rw[e];rfl,[4519+(r-44032)%28],by rw[e];rfl⟩
  ·have e:zQ r=[4352+(r-44032)/588,4449+(r-44032)/28%21,4519+(r-44032)%28]:=if_neg (by omega)
   simp[go_sem]
   exact zi [[4]] (.la [4] 1 0 3) ⟨rfl,by simp⟩ (by simp[go_sem,zd,leA,leT]) ⟨by rw[e];rfl,[],by rw[e];rfl⟩
 ·simp[go_sem,hs]
  exact zi [] (.p (.opq (.slice none 0 0))) ⟨rfl,by simp⟩ (by simp[go_sem,zd,leA,leT]) ⟨rfl,rfl⟩
theorem vN(l:List Int):(l.map fun k=>PV.int .i32 k).flatMap PV.cells=l.map fun k=>PV.int .i32 k:=by
 induction l with
 |nil=>rfl
 |cons k l ih=>simp only[List.map_cons,List.flatMap_cons,ih];rfl
def yR(r:Int):AV:=if Zc r then .p (yV (zQ r))else .p (.opq (.slice none 0 0))
theorem zic(r:Int):0< (zQ r).length:=by unfold zQ;split<;>simp
theorem WX [Gi](r:Int):CR Tryz.prog 186 [] [.p (.int .i32 r)] [] (is (yR r)):=by
 refine CR.freeze (zfx r) (fun _=>false) rfl ?_
 rintro x rs (⟨hs,rfl,rfl⟩|⟨hs,rfl,l,rfl⟩)
 ·refine⟨.p (.opq (.slice none 0 0)),fun g w v hG hv=>?_,rfl,by unfold yR;rw[hs];rfl⟩
  rw[wY]at hv⊢
  exact zl.ext (xh hG _) _ _ hv
 ·refine⟨.p (yV (zQ r)),fun g w v hG hv=>?_,rfl,by unfold yR;rw[hs];rfl⟩
  rw[wY]
  refine xU hG (l.map fun k=>AV.p (.int .i32 k)) (zic r) ?_ rfl (by simp) (fun e he=>?_) hv
  ·rw[vN]
   simp[zI]
  ·obtain⟨s,_,rfl⟩:=List.mem_map.1 he
   exact⟨rfl,rfl⟩
end Go.Proofs.YthbmelihnabkaaaGreat
end
section
namespace Go.Proofs.YthbmelihnabkaaaGreat
open Go.AM
set_option maxHeartbeats 4000000
set_option maxRecDepth 10000
def qO(t:zR):Nat→Int→List Int
 |0,r=>if Zc r then zQ r else [r]
 |d+1,r=>if Zc r then zQ r else
  if(t.par (rn r)).a=0∧(t.par (rn r)).b=0 then [r]else qO t d (t.par (rn r)).a++(if(t.par (rn r)).b=0 then []else qO t d (t.par (rn r)).b)
theorem wg(t:zR):∀d r,(qO t d r).length≤3*2^d
 |0,r=>by
  unfold qO
  split
  ·unfold zQ;split<;>simp
  ·simp
 |d+1,r=>by
  have h1:=wg t d (t.par (rn r)).a
  have h2:=wg t d (t.par (rn r)).b
  have h3:1≤2^d:=Nat.one_le_two_pow
  unfold qO
  rw[Nat.pow_succ]
  split
  ·unfold zQ;split<;>simp<;>omega
  ·split
   ·simp;omega
   ·split
    ·simp;omega
    ·simp;omega
def VH(t:zR):Prop:=∀i,0≤(t.par i).a∧(t.par i).a<1114112∧0≤(t.par i).b∧(t.par i).b<1114112
def qy(tab:PV)(tk:Tok)(es:List Int):List AV:=[.p tab,.os tk 1 (zr es)]
theorem uO [Gi] {t:zR} {c b j f p:PV}(h:jo t c b j f p)(hZ:Qq t)(hP:VH t)(ck cx sk sx:List PV):∀(d:Nat) (_:d≤8) (es:List Int) (r:Int) (_: -2147483648≤r∧r<2147483648) (_:es.length+3*2^d≤2^40),
  CR Tryz.prog 159 [[0]] [.lp [0] 0,.p (.int .i32 r),.p (.int .i64 d)] [([0],[.p (zF c b j f p ck cx sk sx),.os [901] 1 (zr es)])] (fun x rs=>x=.tup []∧∃tk:Tok,(tk=[0,1]∨tk=[901])∧rs=[([0],qy (zF c b j f p ck cx sk sx) tk (es++qO t d r))]):=by
 intro d
 induction d with
 |zero=>
  intro hd es r hr hes
  have hpow:1≤2^0:=Nat.one_le_two_pow
  refine qQ [] mixed 10 [] Tryz.func159 rfl (by kernel_rfl) [6] rfl (by simp) (by simp) ?_
  simp (maxSteps:=1000000) [go_sem,Tryz.f159]
  refine⟨⟨rfl,by simp[Tryz.f186]⟩,zc [] (WX r) (by simp[go_sem,zE]) ⟨by simp[go_sem],by simp[go_sem]⟩ (by simp[go_sem]) ?_⟩
  rintro _ rs ⟨rfl,rfl⟩
  by_cases hs:Zc r=true
  ·have e:qO t 0 r=zQ r:=by unfold qO;rw[if_pos hs]
   rw[e]
   have hsl:(zQ r).length≤3:=by unfold zQ;split<;>simp
   obtain⟨y,l,hy⟩:∃y l,zQ r=y::l:=by unfold zQ;split<;>exact⟨_,_,rfl⟩
   rw[hy]at hsl
   simp only[List.length_cons]at hsl
   simp (maxSteps:=1000000) [go_sem,yR,hs,yV,hy,zr]
   exact⟨by first|omega|(simp[zr];omega),zi [[0]] (.tup []) ⟨rfl,by simp⟩ (by simp[go_sem,zd,leT]) ⟨rfl,.inl (by simp[go_sem,qy,zr])⟩⟩
  ·have hs':Zc r=false:=by simpa using hs
   simp (maxSteps:=1000000) [go_sem,yR,hs']
   refine⟨⟨rfl,by simp[Tryz.f103]⟩,zc [] (vI h ck cx sk sx hZ hr) (by simp[go_sem,zE]) ⟨by simp[go_sem],by simp[go_sem]⟩ (by simp[go_sem]) ?_⟩
   rintro _ rs ⟨rfl,rfl⟩
   have hpp:=hP (rn r)
   obtain⟨q,hq⟩:∃q,t.par (rn r)=q:=⟨_,rfl⟩
   rw[hq]at hpp
   simp only[hq,Va]
   have e:qO t 0 r=[r]:=by unfold qO;rw[if_neg hs]
   rw[e]
   obtain⟨z,hz⟩:∃z,(!decide (q.a=0) ||!decide (q.b=0))=z:=⟨_,rfl⟩
   simp only[hz]
   cases z with
   |false=>
    simp (maxSteps:=1000000) [go_sem,zr]
    exact⟨by first|omega|(simp[zr];omega),zi [[0]] (.tup []) ⟨rfl,by simp⟩ (by simp[go_sem,zd,leT]) ⟨rfl,.inl (by simp[go_sem,qy,zr])⟩⟩
   |true=>
    simp (maxSteps:=1000000) [go_sem,zr]
    exact⟨by first|omega|(simp[zr];omega),zi [[0]] (.tup []) ⟨rfl,by simp⟩ (by simp[go_sem,zd,leT]) ⟨rfl,.inl (by simp[go_sem,qy,zr])⟩⟩
 |succ d ih=>
  intro hd es r hr hes
  have hd0:¬((d:Int)+1=0):=by omega
  have wd:IntKind.i64.wrap ((d:Int)+1-1)=(d:Int):=by rw[wrap64 (by omega) (by omega)];omega
  have wd':IntKind.i64.wrap (d:Int)=(d:Int):=wrap64 (by omega) (by omega)
  have hp2:2^(d+1)=2*2^d:=by rw[Nat.pow_succ];omega
  have hp3:2^d≤2^8:=Nat.pow_le_pow_right (by omega) (by omega)
  have hpow:1≤2^d:=Nat.one_le_two_pow
  refine qQ [] mixed 10 [] Tryz.func159 rfl (by kernel_rfl) [6] rfl (by simp) (by simp) ?_
  simp (maxSteps:=1000000) [go_sem,Tryz.f159]
  refine⟨⟨rfl,by simp[Tryz.f186]⟩,zc [] (WX r) (by simp[go_sem,zE]) ⟨by simp[go_sem],by simp[go_sem]⟩ (by simp[go_sem]) ?_⟩
  rintro _ rs ⟨rfl,rfl⟩
  by_cases hs:Zc r=true
  ·have e:qO t (d+1) r=zQ r:=by unfold qO;rw[if_pos hs]
   rw[e]
   have hsl:(zQ r).length≤3:=by unfold zQ;split<;>simp
   obtain⟨y,l,hy⟩:∃y l,zQ r=y::l:=by unfold zQ;split<;>exact⟨_,_,rfl⟩
   rw[hy]at hsl
   simp only[List.length_cons]at hsl
   simp (maxSteps:=1000000) [go_sem,yR,hs,yV,hy,zr]
   exact⟨by first|omega|(simp[zr];omega),zi [[0]] (.tup []) ⟨rfl,by simp⟩ (by simp[go_sem,zd,leT]) ⟨rfl,.inl (by simp[go_sem,qy,zr])⟩⟩
  ·have hs':Zc r=false:=by simpa using hs
   simp (maxSteps:=1000000) [go_sem,yR,hs']
   refine⟨⟨rfl,by simp[Tryz.f103]⟩,zc [] (vI h ck cx sk sx hZ hr) (by simp[go_sem,zE]) ⟨by simp[go_sem],by simp[go_sem]⟩ (by simp[go_sem]) ?_⟩
   rintro _ rs ⟨rfl,rfl⟩
   have hpp:=hP (rn r)
   obtain⟨q,hq⟩:∃q,t.par (rn r)=q:=⟨_,rfl⟩
   rw[hq]at hpp
   simp only[hq,Va]
   by_cases hz:q.a=0∧q.b=0
   ·have e:qO t (d+1) r=[r]:=by unfold qO;rw[if_neg hs,hq,if_pos hz]
    rw[e]
    simp (maxSteps:=1000000) [go_sem,zr,hz.1,hz.2]
    exact⟨by first|omega|(simp[zr];omega),zi [[0]] (.tup []) ⟨rfl,by simp⟩ (by simp[go_sem,zd,leT]) ⟨rfl,.inl (by simp[go_sem,qy,zr])⟩⟩
   ·have e:qO t (d+1) r=qO t d q.a++(if q.b=0 then []else qO t d q.b):=by
     rw[qO,if_neg hs,hq,if_neg hz]
    rw[e]
    have hzb:(!decide (q.a=0) ||!decide (q.b=0))=true:=by
     by_cases ha:q.a=0
     ·have:¬q.b=0:=fun hb=>hz ⟨ha,hb⟩
      simp[this]
     ·simp[ha]
    have hl1:=wg t d q.a
    simp only[hzb]
    simp (maxSteps:=1000000) [go_sem,hd0,wd']
    refine⟨⟨rfl,by simp[Tryz.f159]⟩,zc [([0],[0]),([901],[901]),([0,1],[0,1])] (ih (by omega) es q.a (by omega) (by omega)) (by simp[go_sem,zE]) ⟨by simp[go_sem],by simp[go_sem]⟩ (by simp[go_sem]) ?_⟩
    rintro _ _ ⟨rfl,tk,htk,rfl⟩
    by_cases hb:q.b=0
    ·rcases htk with rfl|rfl
     ·simp (maxSteps:=1000000) [go_sem,qy,hb]
      exact zi [[0]] (.tup []) ⟨rfl,by simp⟩ (by simp[go_sem,zd,leT]) ⟨rfl,.inl (by simp[go_sem,zr])⟩
     ·simp (maxSteps:=1000000) [go_sem,qy,hb]
      exact zi [[0]] (.tup []) ⟨rfl,by simp⟩ (by simp[go_sem,zd,leT]) ⟨rfl,.inr (by simp[go_sem,zr])⟩
    ·rcases htk with rfl|rfl
     ·simp (maxSteps:=1000000) [go_sem,qy,hb,wd']
      refine⟨⟨rfl,by simp[Tryz.f159]⟩,zc [([0],[0]),([901],[0,1]),([0,1],[901])] (ih (by omega) (es++qO t d q.a) q.b (by omega) (by simp;omega)) (by simp[go_sem,zE]) ⟨by simp[go_sem],by simp[go_sem]⟩ (by simp[go_sem]) ?_⟩
      rintro _ _ ⟨rfl,tk,htk,rfl⟩
      rcases htk with rfl|rfl
      ·simp (maxSteps:=1000000) [go_sem,qy]
       exact zi [[0]] (.tup []) ⟨rfl,by simp⟩ (by simp[go_sem,zd,leT]) ⟨rfl,.inr (by simp[go_sem,zr])⟩
      ·simp (maxSteps:=1000000) [go_sem,qy]
       exact zi [[0]] (.tup []) ⟨rfl,by simp⟩ (by simp[go_sem,zd,leT]) ⟨rfl,.inl (by simp[go_sem,zr])⟩
     ·simp (maxSteps:=1000000) [go_sem,qy,hb,wd']
      refine⟨⟨rfl,by simp[Tryz.f159]⟩,zc [([0],[0]),([901],[901]),([0,1],[0,1])] (ih (by omega) (es++qO t d q.a) q.b (by omega) (by simp;omega)) (by simp[go_sem,zE]) ⟨by simp[go_sem],by simp[go_sem]⟩ (by simp[go_sem]) ?_⟩
      rintro _ _ ⟨rfl,tk,htk,rfl⟩
      rcases htk with rfl|rfl
      ·simp (maxSteps:=1000000) [go_sem,qy]
       exact zi [[0]] (.tup []) ⟨rfl,by simp⟩ (by simp[go_sem,zd,leT]) ⟨rfl,.inl (by simp[go_sem,zr])⟩
      ·simp (maxSteps:=1000000) [go_sem,qy]
       exact zi [[0]] (.tup []) ⟨rfl,by simp⟩ (by simp[go_sem,zd,leT]) ⟨rfl,.inr (by simp[go_sem,zr])⟩
theorem take_nil [Gi] {t:zR} {c b j f p:PV}(h:jo t c b j f p)(hZ:Qq t)(hP:VH t)(ck cx sk sx:List PV):∀(d:Nat) (_:d≤8) (r:Int) (_: -2147483648≤r∧r<2147483648),
  CR Tryz.prog 159 [[0]] [.lp [0] 0,.p (.int .i32 r),.p (.int .i64 d)] [([0],[.p (zF c b j f p ck cx sk sx),.p (.opq (.slice none 0 0))])] (fun x rs=>x=.tup []∧∃tk:Tok,(tk=[0,1]∨tk=[901])∧rs=[([0],qy (zF c b j f p ck cx sk sx) tk (qO t d r))]):=by
 intro d
 induction d with
 |zero=>
  intro hd r hr
  have hpow:1≤2^0:=Nat.one_le_two_pow
  refine qQ [] mixed 10 [] Tryz.func159 rfl (by kernel_rfl) [6] rfl (by simp) (by simp) ?_
  simp (maxSteps:=1000000) [go_sem,Tryz.f159]
  refine⟨⟨rfl,by simp[Tryz.f186]⟩,zc [] (WX r) (by simp[go_sem,zE]) ⟨by simp[go_sem],by simp[go_sem]⟩ (by simp[go_sem]) ?_⟩
  rintro _ rs ⟨rfl,rfl⟩
  by_cases hs:Zc r=true
  ·have e:qO t 0 r=zQ r:=by unfold qO;rw[if_pos hs]
   rw[e]
   have hsl:(zQ r).length≤3:=by unfold zQ;split<;>simp
   obtain⟨y,l,hy⟩:∃y l,zQ r=y::l:=by unfold zQ;split<;>exact⟨_,_,rfl⟩
   rw[hy]at hsl
   simp only[List.length_cons]at hsl
   simp (maxSteps:=1000000) [go_sem,yR,hs,yV,hy]
   exact⟨by first|omega|(simp[zr];omega),zi [[0]] (.tup []) ⟨rfl,by simp⟩ (by simp[go_sem,zd,leT]) ⟨rfl,.inl (by simp[go_sem,qy,zr])⟩⟩
  ·have hs':Zc r=false:=by simpa using hs
   simp (maxSteps:=1000000) [go_sem,yR,hs']
   refine⟨⟨rfl,by simp[Tryz.f103]⟩,zc [] (vI h ck cx sk sx hZ hr) (by simp[go_sem,zE]) ⟨by simp[go_sem],by simp[go_sem]⟩ (by simp[go_sem]) ?_⟩
   rintro _ rs ⟨rfl,rfl⟩
   have hpp:=hP (rn r)
   obtain⟨q,hq⟩:∃q,t.par (rn r)=q:=⟨_,rfl⟩
   rw[hq]at hpp
   simp only[hq,Va]
   have e:qO t 0 r=[r]:=by unfold qO;rw[if_neg hs]
   rw[e]
   obtain⟨z,hz⟩:∃z,(!decide (q.a=0) ||!decide (q.b=0))=z:=⟨_,rfl⟩
   simp only[hz]
   cases z with
   |false=>
    simp (maxSteps:=1000000) [go_sem]
    exact zi [[0]] (.tup []) ⟨rfl,by simp⟩ (by simp[go_sem,zd,leT]) ⟨rfl,.inl (by simp[go_sem,qy,zr])⟩
   |true=>
    simp (maxSteps:=1000000) [go_sem]
    exact zi [[0]] (.tup []) ⟨rfl,by simp⟩ (by simp[go_sem,zd,leT]) ⟨rfl,.inl (by simp[go_sem,qy,zr])⟩
 |succ d ih=>
  intro hd r hr
  have hd0:¬((d:Int)+1=0):=by omega
  have wd:IntKind.i64.wrap ((d:Int)+1-1)=(d:Int):=by rw[wrap64 (by omega) (by omega)];omega
  have wd':IntKind.i64.wrap (d:Int)=(d:Int):=wrap64 (by omega) (by omega)
  have hp2:2^(d+1)=2*2^d:=by rw[Nat.pow_succ];omega
  have hp3:2^d≤2^8:=Nat.pow_le_pow_right (by omega) (by omega)
  have hpow:1≤2^d:=Nat.one_le_two_pow
  refine qQ [] mixed 10 [] Tryz.func159 rfl (by kernel_rfl) [6] rfl (by simp) (by simp) ?_
  simp (maxSteps:=1000000) [go_sem,Tryz.f159]
  refine⟨⟨rfl,by simp[Tryz.f186]⟩,zc [] (WX r) (by simp[go_sem,zE]) ⟨by simp[go_sem],by simp[go_sem]⟩ (by simp[go_sem]) ?_⟩
  rintro _ rs ⟨rfl,rfl⟩
  by_cases hs:Zc r=true
  ·have e:qO t (d+1) r=zQ r:=by unfold qO;rw[if_pos hs]
   rw[e]
   have hsl:(zQ r).length≤3:=by unfold zQ;split<;>simp
   obtain⟨y,l,hy⟩:∃y l,zQ r=y::l:=by unfold zQ;split<;>exact⟨_,_,rfl⟩
   rw[hy]at hsl
   simp only[List.length_cons]at hsl
   simp (maxSteps:=1000000) [go_sem,yR,hs,yV,hy]
   exact⟨by first|omega|(simp[zr];omega),zi [[0]] (.tup []) ⟨rfl,by simp⟩ (by simp[go_sem,zd,leT]) ⟨rfl,.inl (by simp[go_sem,qy,zr])⟩⟩
  ·have hs':Zc r=false:=by simpa using hs
   simp (maxSteps:=1000000) [go_sem,yR,hs']
   refine⟨⟨rfl,by simp[Tryz.f103]⟩,zc [] (vI h ck cx sk sx hZ hr) (by simp[go_sem,zE]) ⟨by simp[go_sem],by simp[go_sem]⟩ (by simp[go_sem]) ?_⟩
   rintro _ rs ⟨rfl,rfl⟩
   have hpp:=hP (rn r)
   obtain⟨q,hq⟩:∃q,t.par (rn r)=q:=⟨_,rfl⟩
   rw[hq]at hpp
   simp only[hq,Va]
   by_cases hz:q.a=0∧q.b=0
   ·have e:qO t (d+1) r=[r]:=by unfold qO;rw[if_neg hs,hq,if_pos hz]
    rw[e]
    simp (maxSteps:=1000000) [go_sem,hz.1,hz.2]
    exact zi [[0]] (.tup []) ⟨rfl,by simp⟩ (by simp[go_sem,zd,leT]) ⟨rfl,.inl (by simp[go_sem,qy,zr])⟩
   ·have e:qO t (d+1) r=qO t d q.a++(if q.b=0 then []else qO t d q.b):=by
     rw[qO,if_neg hs,hq,if_neg hz]
    rw[e]
    have hzb:(!decide (q.a=0) ||!decide (q.b=0))=true:=by
     by_cases ha:q.a=0
     ·have:¬q.b=0:=fun hb=>hz ⟨ha,hb⟩
      simp[this]
     ·simp[ha]
    have hl1:=wg t d q.a
    simp only[hzb]
    simp (maxSteps:=1000000) [go_sem,hd0,wd']
    refine⟨⟨rfl,by simp[Tryz.f159]⟩,zc [([0],[0]),([901],[901]),([0,1],[0,1])] (ih (by omega) q.a (by omega)) (by simp[go_sem,zE]) ⟨by simp[go_sem],by simp[go_sem]⟩ (by simp[go_sem]) ?_⟩
    rintro _ _ ⟨rfl,tk,htk,rfl⟩
    by_cases hb:q.b=0
    ·rcases htk with rfl|rfl
     ·simp (maxSteps:=1000000) [go_sem,qy,hb]
      exact zi [[0]] (.tup []) ⟨rfl,by simp⟩ (by simp[go_sem,zd,leT]) ⟨rfl,.inl (by simp[go_sem,zr])⟩
     ·simp (maxSteps:=1000000) [go_sem,qy,hb]
      exact zi [[0]] (.tup []) ⟨rfl,by simp⟩ (by simp[go_sem,zd,leT]) ⟨rfl,.inr (by simp[go_sem,zr])⟩
    ·rcases htk with rfl|rfl
     ·simp (maxSteps:=1000000) [go_sem,qy,hb,wd']
      refine⟨⟨rfl,by simp[Tryz.f159]⟩,zc [([0],[0]),([901],[0,1]),([0,1],[901])] (uO h hZ hP ck cx sk sx d (by omega) (qO t d q.a) q.b (by omega) (by simp;omega)) (by simp[go_sem,zE]) ⟨by simp[go_sem],by simp[go_sem]⟩ (by simp[go_sem]) ?_⟩
      rintro _ _ ⟨rfl,tk,htk,rfl⟩
      rcases htk with rfl|rfl
      ·simp (maxSteps:=1000000) [go_sem,qy]
       exact zi [[0]] (.tup []) ⟨rfl,by simp⟩ (by simp[go_sem,zd,leT]) ⟨rfl,.inr (by simp[go_sem,zr])⟩
      ·simp (maxSteps:=1000000) [go_sem,qy]
       exact zi [[0]] (.tup []) ⟨rfl,by simp⟩ (by simp[go_sem,zd,leT]) ⟨rfl,.inl (by simp[go_sem,zr])⟩
     ·simp (maxSteps:=1000000) [go_sem,qy,hb,wd']
      refine⟨⟨rfl,by simp[Tryz.f159]⟩,zc [([0],[0]),([901],[901]),([0,1],[0,1])] (uO h hZ hP ck cx sk sx d (by omega) (qO t d q.a) q.b (by omega) (by simp;omega)) (by simp[go_sem,zE]) ⟨by simp[go_sem],by simp[go_sem]⟩ (by simp[go_sem]) ?_⟩
      rintro _ _ ⟨rfl,tk,htk,rfl⟩
      rcases htk with rfl|rfl
      ·simp (maxSteps:=1000000) [go_sem,qy]
       exact zi [[0]] (.tup []) ⟨rfl,by simp⟩ (by simp[go_sem,zd,leT]) ⟨rfl,.inl (by simp[go_sem,zr])⟩
      ·simp (maxSteps:=1000000) [go_sem,qy]
       exact zi [[0]] (.tup []) ⟨rfl,by simp⟩ (by simp[go_sem,zd,leT]) ⟨rfl,.inr (by simp[go_sem,zr])⟩
end Go.Proofs.YthbmelihnabkaaaGreat
end
section
namespace Go.AM
def Qz(r:Option Nat):Fence:={Fence.wide with round:=r}
theorem zhD(r:Option Nat)(P:Program)(m:Machine):m.fenced P (Qz r):=fenced_wide P m
theorem zfr {r:Option Nat} {P:Program} {m m':Machine}:StepsIn (Machine.fenced P (Qz r)) P m m'↔Steps P m m':=
 ⟨StepsIn.steps,fun h=>(StepsIn.of_steps h).mono fun m _=>zhD r P m⟩
theorem YP {r:Option Nat} {n:Nat} {P:Program} {f:FuncId} {args:Array Value} {w:World} {R:Ending→World→Prop}(h:Calls P f args w R):CallsIn (Qz r) n P f args w R:=
 (callsIn_wide (n:=n)).2 h
theorem Xt {r:Option Nat} {n:Nat} {P:Program} {row:String} {args:Array Value} {w:World} {R:Value→World→Prop}(h:Rows P row args w R):RowsIn (Qz r) n P row args w R:=
 fun c cs _=>let⟨v,w',k,s⟩:=h c cs;⟨v,w',k,zfr.2 s⟩
def ZB(o:Oper):Bool:=match o.op with
 |.defer _=>false
 |_=>true
theorem Vh {o:Oper}(h:ZB o=true):∀c,o.op≠ .defer c:=fun c e=>by unfold ZB at h;rw[e]at h;cases h
section
variable {r:Option Nat} {n:Nat} {P:Program} {Q:Exit→Act→World→Prop}
theorem zls {o:Oper} {a:Act} {next:Act→World→Prop}(_:¬LetsOut Q):∀{res:Result Next},o.upon P a next Q res→o.uponIn (Qz r) n P a next Q res
 |.ok (.value _) _,h=>h
 |.ok .skip _,h=>h
 |.ok (.defer _) _,h=>h
 |.ok (.enter _ _) _,h=>⟨fun e=>(by cases e),YP h⟩
 |.ok (.row _ _) _,h=>⟨fun e=>(by cases e),Xt h⟩
 |.halt (.panic _) _,h=>h
theorem zaN {o:Oper} {a:Act} {w:World} {next:Act→World→Prop}(hd:ZB o=true)(hQ:¬LetsOut Q)(h:o.wp P a w next Q):o.wpIn (Qz r) n P a w next Q:=by
 unfold Oper.wpIn
 rw[Oper.semAt_eq _ _ _ (Vh hd)]
 exact⟨fun _ _=>trivial,zls hQ h⟩
theorem zlC {ops:Array Oper} {i:Nat} {K:Act→World→Prop} {a:Act} {w:World}(hd:ops.all ZB=true)(hQ:¬LetsOut Q)(h:wpOp P ops Q i K a w):wpOpIn (Qz r) n P ops Q i K a w:=by
 unfold wpOp at h
 unfold wpOpIn
 cases ho:ops[i]? with
 |none=>simp only[ho]at h⊢;exact h
 |some o=>
  simp only[ho]at h⊢
  have hdo:ZB o=true:=by
   have:=Array.all_eq_true'.1 hd o (Array.mem_of_getElem? ho)
   exact this
  by_cases hw:Region.wanted o (yielded ops a.tmps)=true
  ·rw[if_pos hw]at h⊢
   exact zaN hdo hQ (h.resolve_right fun k=>hQ k.2)
  ·rw[if_neg hw]at h⊢
   exact⟨fun _ _=>trivial,h⟩
theorem JK {ops:Array Oper} {md:Region.Mode}(hd:ops.all ZB=true)(hQ:¬LetsOut Q):∀(fuel:Nat) (listed:Array Bool) (a:Act) (w:World),wpAny P md ops Q fuel listed a w→wpAnyIn (Qz r) n P md ops Q fuel listed a w
 |0,_,_,_,h=>h
 |fuel+1,_,_,_,h=>⟨h.1,fun i hi=>zlC hd hQ (wpOp_mono (fun a' w' k=>JK hd hQ fuel _ a' w' k) (h.2 i hi))⟩
theorem uz {ops:Array Oper}(hQ:¬LetsOut Q):∀(l:List Oper) (a:Act) (w:World),l.all ZB=true→wpList P ops Q l a w→wpListIn (Qz r) n P ops Q l a w
 | [],_,_,_,h=>h
 |o::l,a,w,hd,h=>by
  simp only[List.all_cons,Bool.and_eq_true]at hd
  unfold wpList at h
  unfold wpListIn
  split at h
  ·rename_i hw
   rw[if_pos hw]
   exact zaN hd.1 hQ (Oper.wp_mono (fun a' w' k=>uz hQ l a' w' hd.2 k) (h.resolve_right fun k=>hQ k.2))
  ·rename_i hw
   rw[if_neg hw]
   exact⟨fun _ _=>trivial,uz hQ l _ w hd.2 h⟩
theorem zej {w:World} {a:Act} {l:List Oper}(m:Nat)(hB:Region.lexTailB .any l.toArray m=true)
  (h:wpStill P l.toArray w (fun a'=>wpList P l.toArray Q (l.drop m) a' w) (l.take m) a):wpAny P .any l.toArray Q l.toArray.size (Array.replicate l.toArray.size false) a w:=by
 simp only[Region.lexTailB,Bool.and_eq_true,decide_eq_true_eq]at hB
 obtain⟨⟨⟨⟨hsel,hn⟩,hs⟩,hc⟩,hlex⟩:=hB
 have hn':m<l.length:=by simpa using hn
 have htl:(l.take m).length=m:=by simp;omega
 have hdl:(l.drop m).length=l.toArray.size-m:=by simp
 have inv0:HeadInv .any l.toArray m (Array.replicate l.toArray.size false):=
  ⟨by simp,fun j oj _ hl=>(by rw[getD_replicate_false]at hl;cases hl),fun t _ ht=>getD_in (by simpa using ht) (getD_replicate_false _ _)⟩
 have H:=wpAnyL_lex (md:=.any) (g:=l.toArray.size-m) hsel hs hc hn (l.take m) 0 _ a (fun j hj=>by
  have hj':j<m:=by rw[htl]at hj;exact hj
  simp[hj']) (by simpa using htl) inv0 (by rw[htl];exact hlex) h
 have:=wpAny_of_head (Q':=Q) (g:=l.toArray.size-m) (fun listed a' hL=>by
  have:=wpAny_of_seq (md:=.any) (Q':=Q) (l.drop m) m listed a' w (fun j=>by simp[List.getElem?_drop]) (by rw[hdl];exact hL.1) hL.2
  rwa[hdl]at this) _ _ _ H
 rw[htl,show m+(l.toArray.size-m)=l.toArray.size by omega]at this
 exact this
end
def JB(K:Act→World→Prop):Exit→Act→World→Prop
 |.normal,a,w=>K a w
 |_,_,_=>False
theorem uA(K:Act→World→Prop):¬LetsOut (JB K):=fun⟨_,_,h⟩=>h
def zeA(ops:Array Oper)(draw:Bool):Bool:=
 ops.all ZB&&(!draw || (decide (Zk ops.toList≠ops.size)&&Region.lexTailB .any ops.toList.toArray (Zk ops.toList)))
theorem Xp [Gi] {r:Option Nat} {n:Nat} {P:Program} {id:Nat} {ops:Array Oper} {draw:Bool}(hm:P.follows .mixedOrders=true)(hd:zeA ops draw=true) {E:Ent} {K:St→Prop}
  {S:St} {g:Gh} {a:Act} {w:World} (h:Qb P ops ops.toList S K) (hS:SR E S g a w):(Code.region id ops draw).wpIn (Qz r) n P (JB fun a' w'=>∃S' g',K S'∧SR E S' g' a' w') a w:=by
 unfold zeA at hd
 simp only[Bool.and_eq_true]at hd
 obtain⟨hnd,hd⟩:=hd
 have hndl:ops.toList.all ZB=true:=by rw[←Array.all_toList]at hnd;exact hnd
 have hQ:∀S' g' a' w',K S'→SR E S' g' a' w'→JB (fun a' w'=>∃S' g',K S'∧SR E S' g' a' w') .normal a' w':=fun S' g' a' w' k hs=>⟨S',g',k,hs⟩
 cases draw with
 |false=>exact wpIn_region_list (uz (uA _) _ _ _ hndl (kN hQ ops.toList h hS))
 |true=>
  simp only[Bool.not_true,Bool.false_or,Bool.and_eq_true,decide_eq_true_eq]at hd
  have hw1:SR E S g a {w with drawn:=w.drawn+1}:=hS.drew
  refine wpIn_region_any hm ?_
  refine JK hnd (uA _) _ _ _ _ ?_
  have e:ops=ops.toList.toArray:=by simp
  rw[e]
  refine zej (Zk ops.toList) hd.2 ?_
  rw[←e]
  have:=jM (P:=P) (ops:=ops) (K:=K) (ops.toList.drop (Zk ops.toList)) (ops.toList.take (Zk ops.toList)) (yB _) (by rw[List.take_append_drop];exact h) hw1
  have mono:∀(l:List Oper) (a:Act) (F G:Act→Prop),(∀a,F a→G a)→wpStill P ops {w with drawn:=w.drawn+1} F l a→wpStill P ops {w with drawn:=w.drawn+1} G l a:=by
   intro l
   induction l with
   |nil=>intro a F G hFG hh;exact hFG _ hh
   |cons o l ih=>
    intro a F G hFG hh
    unfold wpStill at hh⊢
    split
    ·rename_i hw
     rw[if_pos hw]at hh
     exact Oper.still_mono (fun a h=>ih a F G hFG h) hh
    ·rename_i hw
     rw[if_neg hw]at hh
     exact ih _ F G hFG hh
  exact mono _ _ _ _ (fun a' ⟨S',g',h1,h2⟩=>kN hQ _ h1 h2) this
theorem YD [Gi] {r:Option Nat} {n:Nat} {P:Program} {id:Nat} {ops:Array Oper}(hm:P.follows .mixedOrders=true)(hd:ops.all ZB=true) {E:Ent} {K:St→Prop}
  {S:St} {g:Gh} {a:Act} {w:World} (h:∃t,(Region.noSelect ops&&okT ops ops.size (Array.replicate ops.size false) t)=true∧kE P ops K t S) (hS:SR E S g a w):(Code.region id ops true).wpIn (Qz r) n P (JB fun a' w'=>∃S' g',K S'∧SR E S' g' a' w') a w:=by
 obtain⟨t,hok,h⟩:=h
 have hw1:SR E S g a {w with drawn:=w.drawn+1}:=hS.drew
 simp only[Bool.and_eq_true]at hok
 exact wpIn_region_any hm (JK hd (uA _) _ _ _ _ (zcO (Q:=JB fun a' w'=>∃S' g',K S'∧SR E S' g' a' w') (fun S' g' a' w' k hs=>⟨S',g',k,hs⟩) (fun c a w hq=>hq) hok.1 hok.2 h hw1))
def Qu(D:List Nat):Code→Bool
 |.region id ops draw=>bif draw&&D.contains (id+200000)then ops.all ZB else zeA ops draw&& !(draw&&(D.contains (id+100000) || D.contains id))
 |.seq x y=>Qu D x&&Qu D y
 |.cond _ x y=>Qu D x&&Qu D y
 |.block _ c=>Qu D c
 |.skip=>true
 |.exit _=>true
 |.ret=>true
 |_=>false
theorem kx {F:Fence} {n:Nat} {P:Program} {c:Code} {K:Act→World→Prop} {Q:Exit→Act→World→Prop} {a:Act} {w:World}(h:c.wpIn F n P (JB K) a w)(hq:∀a w,K a w→Q .normal a w):c.wpIn F n P Q a w:=
 wpIn_mono h fun e a w k=>match e,k with
  |.normal,k=>hq a w k
theorem QB [Gi] {r:Option Nat} {n:Nat} {P:Program} {D:List Nat}(hm:P.follows .mixedOrders=true) {E:Ent}:∀(c:Code) {Q:Exit→St→Prop} {S:St} {g:Gh} {a:Act} {w:World},Qu D c=true→wpA P D c Q S→SR E S g a w→c.wpIn (Qz r) n P (post E Q) a w
 |.skip,Q,S,g,a,w,_,h,hS=>wpIn_skip ⟨S,g,h,hS⟩
 |.region id ops draw,Q,S,g,a,w,hc,h,hS=>by
  simp only[wpA]at h
  by_cases hT:(draw&&D.contains (id+200000))=true
  ·simp only[Qu,hT,cond_true]at hc
   rw[if_pos hT]at h
   simp only[Bool.and_eq_true]at hT
   obtain⟨rfl,_⟩:=hT
   obtain⟨t,K',h1,h2,h3⟩:=h
   refine kx (YD hm hc (K:=K') ⟨t,h1,h2⟩ hS.clean) (fun a w k=>?_)
   obtain⟨S',g',hk,hs⟩:=k
   rcases h3 S' hk with h|⟨S1,hl,h⟩
   ·exact⟨S',g',h,hs⟩
   ·obtain⟨g2,hs2⟩:=hs.leR hl
    exact⟨S1,g2,h,hs2⟩
  rw[if_neg hT]at h
  simp only[Qu,Bool.eq_false_iff.2 hT,cond_false,Bool.and_eq_true,Bool.not_eq_true',Bool.and_eq_false_iff,Bool.or_eq_false_iff]at hc
  have h1:(draw&&D.contains (id+100000))=false:=by
   rcases hc.2 with e|e
   ·rw[e];rfl
   ·rw[e.1];exact Bool.and_false _
  have h2:(draw&&D.contains id)=false:=by
   rcases hc.2 with e|e
   ·rw[e];rfl
   ·rw[e.2];exact Bool.and_false _
  rw[h1,h2]at h
  simp only[Bool.false_eq_true,if_false]at h
  exact kx (Xp hm hc.1 (K:=Q .normal) h hS.clean) (fun a w k=>k)
 |.seq x y,Q,S,g,a,w,hc,h,hS=>by
  simp only[Qu,Bool.and_eq_true]at hc
  simp only[wpA]at h
  refine wpIn_seq (wpIn_mono (QB hm x hc.1 h hS) ?_)
  rintro e a' w' ⟨S',g',hq,hs⟩
  cases e with
  |normal=>exact QB hm y hc.2 hq hs
  |_=>exact⟨S',g',hq,hs⟩
 |.cond c x y,Q,S,g,a,w,hc,h,hS=>by
  simp only[Qu,Bool.and_eq_true]at hc
  simp only[wpA]at h
  have hr:=hS.ev c
  split at h
  ·rename_i b hb
   rw[hb]at hr
   simp only[zb,zl]at hr
   cases b with
   |true=>exact wpIn_cond_true hr (QB hm x hc.1 (h.1 rfl) hS)
   |false=>exact wpIn_cond_false hr (QB hm y hc.2 (h.2 rfl) hS)
  ·exact h.elim
 |.block id c,Q,S,g,a,w,hc,h,hS=>by
  simp only[Qu]at hc
  simp only[wpA]at h
  refine wpIn_block (wpIn_mono (QB hm c hc h hS) ?_)
  rintro e a' w' ⟨S',g',hq,hs⟩
  cases e with
  |exit i=>
   simp only[Exit.inBlock]
   simp only[]at hq
   split
   ·rename_i hi;rw[if_pos hi]at hq;exact⟨S',g',hq,hs⟩
   ·rename_i hi;rw[if_neg hi]at hq;exact⟨S',g',hq,hs⟩
  |_=>exact⟨S',g',hq,hs⟩
 |.exit id,Q,S,g,a,w,_,h,hS=>wpIn_exit ⟨S,g,h,hS⟩
 |.ret,Q,S,g,a,w,_,h,hS=>wpIn_ret ⟨S,g,h,hS⟩
 |.loop _,Q,S,g,a,w,hc,_,_=>by cases hc
 |.rangeFunc ..,Q,S,g,a,w,hc,_,_=>by cases hc
 |.scope _,Q,S,g,a,w,hc,_,_=>by cases hc
 |.label _,Q,S,g,a,w,hc,_,_=>by cases hc
 |.goto _,Q,S,g,a,w,hc,_,_=>by cases hc
 |.refuse _,Q,S,g,a,w,hc,_,_=>by cases hc
def j8(ds:List Deferred)(a:Act):Act:={a with defers:=ds}
theorem zaa(ds:List Deferred)(a:Act)(d:Option Nat)(v:Value):j8 ds (a.put d v)=(j8 ds a).put d v:=by cases d<;>rfl
theorem Yz(ds:List Deferred)(a:Act)(x:Operand):(j8 ds a).eval x=a.eval x:=by cases x<;>rfl
theorem zjn [Gi] {r:Option Nat} {n:Nat} {P:Program} {E:Ent} {K:St→Prop} {o:Oper} {a:Act} {w:World} {ds:List Deferred}(hd:ZB o=true)
  (h:o.wp P a w (fun a' w'=>∃S' g',K S'∧SR E S' g' a' w') (fun _ _ _=>False)) (_:a.defers=[]):
  o.wpIn (Qz r) n P (j8 ds a) w (fun a' w'=>∃b,a'=j8 ds b∧∃S' g',K S'∧SR E S' g' b w') (fun _ _ _=>False):=by
 unfold Oper.wpIn
 rw[Oper.semAt_eq _ _ _ (Vh hd)]
 refine⟨fun _ _=>trivial,?_⟩
 unfold Oper.wp at h
 have he:(j8 ds a).eval=a.eval:=funext (Yz ds a)
 rw[he]
 generalize (execOp a.eval o).run P w=res at h
 have put:∀v w',(∃S' g',K S'∧SR E S' g' (a.put o.dst v) w')→∃b,(j8 ds a).put o.dst v=j8 ds b∧∃S' g',K S'∧SR E S' g' b w':=fun v w' k=>⟨a.put o.dst v,(zaa ds a _ v).symm,k⟩
 match res,h with
 |.ok (.value v) w',h=>exact put v w' h
 |.ok .skip w',h=>exact put undef w' h
 |.ok (.defer d) w',h=>
  obtain⟨S',g',_,hs⟩:=h
  have:=hs.defers
  cases hdst:o.dst<;>rw[hdst]at this<;>simp[Act.put]at this
 |.ok (.enter f args) w',h=>
  refine⟨fun e=>(by cases e),YP (Calls.mono h fun e w'' k=>?_)⟩
  cases e with
  |returned v=>exact put v w'' k
  |panicked c=>exact k
  |outgrown=>exact k
 |.ok (.row row args) w',h=>exact⟨fun e=>(by cases e),Xt (Rows.mono h fun v w'' k=>put v w'' k)⟩
 |.halt (.panic v) w',h=>exact h
theorem zbO [Gi] {r:Option Nat} {n:Nat} {P:Program} {ops:Array Oper} {E:Ent} {K:St→Prop} {ds:List Deferred} {Q:Exit→Act→World→Prop}(hQ:∀S' g' a' w',K S'→SR E S' g' a' w'→Q .normal (j8 ds a') w'):
  ∀(l:List Oper) {S:St} {g:Gh} {a:Act} {w:World},l.all ZB=true→Qb P ops l S K→SR E S g a w→wpListIn (Qz r) n P ops Q l (j8 ds a) w
 | [],S,g,a,w,_,h,hS=>hQ _ _ _ _ h hS
 |o::l,S,g,a,w,hd,h,hS=>by
  simp only[List.all_cons,Bool.and_eq_true]at hd
  unfold Qb at h
  cases hc:qT ops S o with
  |none=>simp only[hc]at h
  |some c=>
   simp only[hc]at h
   have:=wJ (P:=P) hS hc h (next:=fun a' w'=>∃S' g',Qb P ops l S' K∧SR E S' g' a' w') (Q:=fun _ _ _=>False) (fun S' g' a' w' hk hs=>⟨S',g',hk,hs⟩)
   have hy:yielded ops (j8 ds a).tmps=yielded ops a.tmps:=rfl
   unfold wpListIn
   rw[hy]
   split
   ·rename_i hw
    rw[if_pos hw]at this
    have h1:=zjn (r:=r) (n:=n) (ds:=ds) hd.1 this hS.defers
    refine⟨h1.1,?_⟩
    have h2:=h1.2
    generalize (o.semAt (Qz r).round (j8 ds a).eval).run P w=res at h2
    have go:∀a' w',(∃b,a'=j8 ds b∧∃S' g',Qb P ops l S' K∧SR E S' g' b w')→wpListIn (Qz r) n P ops Q l a' w':=by
     rintro a' w' ⟨b,rfl,S',g',hk,hs⟩
     exact zbO hQ l hd.2 hk hs
    match res,h2 with
    |.ok (.value v) w',k=>exact go _ _ k
    |.ok .skip w',k=>exact go _ _ k
    |.ok (.defer d) w',k=>exact go _ _ k
    |.ok (.enter f args) w',k=>
     refine⟨k.1,CallsIn.mono k.2 fun e w'' k=>?_⟩
     cases e with
     |returned v=>exact go _ _ k
     |panicked c=>exact k.elim
     |outgrown=>obtain⟨_,_,k⟩:=k;exact k.elim
    |.ok (.row row args) w',k=>exact⟨k.1,RowsIn.mono k.2 fun v w'' k=>go _ _ k⟩
    |.ok (.round l' f t as1 b) w',k=>
     refine⟨k.1,RoundIn.mono k.2 fun e w'' k=>?_⟩
     cases e with
     |returned v=>exact go _ _ k
     |panicked c=>exact k.elim
     |outgrown=>obtain⟨_,_,k⟩:=k;exact k.elim
    |.halt (.panic v) w',k=>exact k.elim
   ·rename_i hw
    rw[if_neg hw]at this
    refine⟨fun _ _=>trivial,?_⟩
    obtain⟨S',g',hk,hs⟩:=this
    rw[←zaa]
    exact zbO hQ l hd.2 hk hs
def ko:Code→Bool
 |.region _ ops draw=>!draw&&ops.all ZB
 |.seq x y=>ko x&&ko y
 |.cond _ x y=>ko x&&ko y
 |.block _ c=>ko c
 |.skip=>true
 |.exit _=>true
 |.ret=>true
 |_=>false
def zn1 [Gi](ds:List Deferred)(E:Ent)(Q:Exit→St→Prop):Exit→Act→World→Prop:=fun e a w=>∃b,a=j8 ds b∧post E Q e b w
theorem kz [Gi] {r:Option Nat} {n:Nat} {P:Program} {D:List Nat} {E:Ent} {ds:List Deferred}:∀(c:Code) {Q:Exit→St→Prop} {S:St} {g:Gh} {a:Act} {w:World},ko c=true→wpA P D c Q S→SR E S g a w→c.wpIn (Qz r) n P (zn1 ds E Q) (j8 ds a) w
 |.skip,Q,S,g,a,w,_,h,hS=>wpIn_skip ⟨a,rfl,S,g,h,hS⟩
 |.region id ops draw,Q,S,g,a,w,hc,h,hS=>by
  simp only[ko,Bool.and_eq_true,Bool.not_eq_true']at hc
  obtain⟨rfl,hc⟩:=hc
  simp only[wpA,Bool.false_and,Bool.false_eq_true,if_false]at h
  have hndl:ops.toList.all ZB=true:=by rw[←Array.all_toList]at hc;exact hc
  exact wpIn_region_list (zbO (K:=Q .normal) (fun S' g' a' w' k hs=>⟨a',rfl,S',g',k,hs⟩) ops.toList hndl h hS.clean)
 |.seq x y,Q,S,g,a,w,hc,h,hS=>by
  simp only[ko,Bool.and_eq_true]at hc
  simp only[wpA]at h
  refine wpIn_seq (wpIn_mono (kz x hc.1 h hS) ?_)
  rintro e a' w' ⟨b,rfl,S',g',hq,hs⟩
  cases e with
  |normal=>exact kz y hc.2 hq hs
  |_=>exact⟨b,rfl,S',g',hq,hs⟩
 |.cond c x y,Q,S,g,a,w,hc,h,hS=>by
  simp only[ko,Bool.and_eq_true]at hc
  simp only[wpA]at h
  have hr:=hS.ev c
  rw[←Yz ds]at hr
  split at h
  ·rename_i b hb
   rw[hb]at hr
   simp only[zb,zl]at hr
   cases b with
   |true=>exact wpIn_cond_true hr (kz x hc.1 (h.1 rfl) hS)
   |false=>exact wpIn_cond_false hr (kz y hc.2 (h.2 rfl) hS)
  ·exact h.elim
 |.block id c,Q,S,g,a,w,hc,h,hS=>by
  simp only[ko]at hc
  simp only[wpA]at h
  refine wpIn_block (wpIn_mono (kz c hc h hS) ?_)
  rintro e a' w' ⟨b,rfl,S',g',hq,hs⟩
  cases e with
  |exit i=>
   simp only[Exit.inBlock]
   simp only[]at hq
   split
   ·rename_i hi;rw[if_pos hi]at hq;exact⟨b,rfl,S',g',hq,hs⟩
   ·rename_i hi;rw[if_neg hi]at hq;exact⟨b,rfl,S',g',hq,hs⟩
  |_=>exact⟨b,rfl,S',g',hq,hs⟩
 |.exit id,Q,S,g,a,w,_,h,hS=>wpIn_exit ⟨a,rfl,S,g,h,hS⟩
 |.ret,Q,S,g,a,w,_,h,hS=>wpIn_ret ⟨a,rfl,S,g,h,hS⟩
 |.loop _,Q,S,g,a,w,hc,_,_=>by cases hc
 |.rangeFunc ..,Q,S,g,a,w,hc,_,_=>by cases hc
 |.scope _,Q,S,g,a,w,hc,_,_=>by cases hc
 |.label _,Q,S,g,a,w,hc,_,_=>by cases hc
 |.goto _,Q,S,g,a,w,hc,_,_=>by cases hc
 |.refuse _,Q,S,g,a,w,hc,_,_=>by cases hc
end Go.AM
end
