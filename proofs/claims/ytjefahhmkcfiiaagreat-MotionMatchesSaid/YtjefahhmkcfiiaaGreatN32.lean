/- A part of the proof of this seat's statements, by an abstract machine: what each operation does to values, and what the law's functions compute. Conditions: as each law says. -/
import Derived.Test.YtjefahhmkcfiiaaGreatN31
import Derived.Test.YtjefahhmkcfiiaaGreatN20
import Derived.Test.YtjefahhmkcfiiaaGreatN28
section
namespace Go.Proofs.YtjefahhmkcfiiaaGreat
open Go.AM
set_option maxHeartbeats 1000000
set_option maxRecDepth 10000
def zQ(r:Int):List Int:=
 if(r-44032)%28=0 then [4352+(r-44032)/588,4449+(r-44032)/28%21]else [4352+(r-44032)/588,4449+(r-44032)/28%21,4519+(r-44032)%28]
theorem zfj [Gi](r:Int):CR Tryz.prog 208 [] [.p (.int .i32 r)] [] (fun x rs=>(Zc r=false∧x=.p (.opq (.slice none 0 0))∧rs=[])∨(Zc r=true∧x=.la [4] 1 0 (zQ r).length∧∃l,rs=[([4],((zQ r++l).map fun k=>AV.p (.int .i32 k)))])):=by
 refine qK [] mixed 5 [] Tryz.func208 rfl (by kernel_rfl) [2] rfl (by simp) (by simp) ?_
 simp[go_sem,Tryz.f208]
 refine⟨⟨rfl,by simp[Tryz.f226]⟩,zb [] (ziJ r) (by simp[go_sem]) ⟨by simp[go_sem],by simp[go_sem]⟩ (by simp[go_sem]) ?_⟩
 rintro y rs ⟨rfl,rfl⟩
 by_cases hs:Zc r=true
 ·have hs':44032≤r∧r<55204:=by simpa[Zc]using hs
  have w1:IntKind.i32.wrap (r-44032)=r-44032:=wrap32 (by omega) (by omega)
  have d1:(r-44032).tdiv 588=(r-44032)/588:=Int.tdiv_eq_ediv_of_nonneg (by omega)
  have d2:(r-44032).tdiv 28=(r-44032)/28:=Int.tdiv_eq_ediv_of_nonneg (by omega)
  have d3:(r-44032).tmod 28=(r-44032)%28:=Int.tmod_eq_emod_of_nonneg (by omega)
  have d4:((r-44032)/28).tmod 21=(r-44032)/28%21:=Int.tmod_eq_emod_of_nonneg (by omega)
  have w2:IntKind.i32.wrap ((r-44032)/588)=(r-44032)/588:=wrap32 (by omega) (by omega)
  have w3:IntKind.i32.wrap ((r-44032)/28)=(r-44032)/28:=wrap32 (by omega) (by omega)
  have w4:IntKind.i32.wrap ((r-44032)%28)=(r-44032)%28:=wrap32 (by omega) (by omega)
  have w5:IntKind.i32.wrap ((r-44032)/28%21)=(r-44032)/28%21:=wrap32 (by omega) (by omega)
  have w6:IntKind.i32.wrap (4352+(r-44032)/588)=4352+(r-44032)/588:=wrap32 (by omega) (by omega)
  have w7:IntKind.i32.wrap (4449+(r-44032)/28%21)=4449+(r-44032)/28%21:=wrap32 (by omega) (by omega)
  have w8:IntKind.i32.wrap (4519+(r-44032)%28)=4519+(r-44032)%28:=wrap32 (by omega) (by omega)
  simp[go_sem,hs,w1,d1,d2,d3,d4,w2,w3,w6,w7,w8]
  refine zx (fun hc=>?_) (fun hc=>?_)
  ·have e:zQ r=[4352+(r-44032)/588,4449+(r-44032)/28%21]:=if_pos (by omega)
   simp[go_sem]
   exact zl [[4]] (.la [4] 1 0 2) ⟨rfl,by simp⟩ (by simp[go_sem,zf,leA,leT]) ⟨by rw[e];rfl,[4519+(r-44032)%28],by rw[e];rfl⟩
  ·have e:zQ r=[4352+(r-44032)/588,4449+(r-44032)/28%21,4519+(r-44032)%28]:=if_neg (by omega)
   simp[go_sem]
   exact zl [[4]] (.la [4] 1 0 3) ⟨rfl,by simp⟩ (by simp[go_sem,zf,leA,leT]) ⟨by rw[e];rfl,[],by rw[e];rfl⟩
 ·simp[go_sem,hs]
  exact zl [] (.p (.opq (.slice none 0 0))) ⟨rfl,by simp⟩ (by simp[go_sem,zf,leA,leT]) ⟨rfl,rfl⟩
theorem vM(l:List Int):(l.map fun k=>PV.int .i32 k).flatMap PV.cells=l.map fun k=>PV.int .i32 k:=by
 induction l with
 |nil=>rfl
 |cons k l ih=>simp only[List.map_cons,List.flatMap_cons,ih];rfl
def yP(r:Int):AV:=if Zc r then .p (Z5 (zQ r))else .p (.opq (.slice none 0 0))
theorem zhG(r:Int):0< (zQ r).length:=by unfold zQ;split<;>simp
theorem VC [Gi](r:Int):CR Tryz.prog 208 [] [.p (.int .i32 r)] [] (is (yP r)):=by
 refine CR.freeze (zfj r) (fun _=>false) rfl ?_
 rintro x rs (⟨hs,rfl,rfl⟩|⟨hs,rfl,l,rfl⟩)
 ·refine⟨.p (.opq (.slice none 0 0)),fun g w v hG hv=>?_,rfl,by unfold yP;rw[hs];rfl⟩
  rw[Ww]at hv⊢
  exact zk.ext (wG hG _) _ _ hv
 ·refine⟨.p (Z5 (zQ r)),fun g w v hG hv=>?_,rfl,by unfold yP;rw[hs];rfl⟩
  rw[Ww]
  refine uI hG (l.map fun k=>AV.p (.int .i32 k)) (zhG r) ?_ rfl (by simp) (fun e he=>?_) hv
  ·rw[vM]
   simp[zH]
  ·obtain⟨s,_,rfl⟩:=List.mem_map.1 he
   exact⟨rfl,rfl⟩
end Go.Proofs.YtjefahhmkcfiiaaGreat
end
section
namespace Go.Proofs.YtjefahhmkcfiiaaGreat
open Go.AM
set_option maxHeartbeats 4000000
set_option maxRecDepth 10000
def qL(t:zR):Nat→Int→List Int
 |0,r=>if Zc r then zQ r else [r]
 |d+1,r=>if Zc r then zQ r else
  if(t.par (rn r)).a=0∧(t.par (rn r)).b=0 then [r]else qL t d (t.par (rn r)).a++(if(t.par (rn r)).b=0 then []else qL t d (t.par (rn r)).b)
theorem xS(t:zR):∀d r,(qL t d r).length≤3*2^d
 |0,r=>by
  unfold qL
  split
  ·unfold zQ;split<;>simp
  ·simp
 |d+1,r=>by
  have h1:=xS t d (t.par (rn r)).a
  have h2:=xS t d (t.par (rn r)).b
  have h3:1≤2^d:=Nat.one_le_two_pow
  unfold qL
  rw[Nat.pow_succ]
  split
  ·unfold zQ;split<;>simp<;>omega
  ·split
   ·simp;omega
   ·split
    ·simp;omega
    ·simp;omega
def Wi(t:zR):Prop:=∀i,0≤(t.par i).a∧(t.par i).a<1114112∧0≤(t.par i).b∧(t.par i).b<1114112
def Zb(tab:PV)(tk:Tok)(es:List Int):List AV:=[.p tab,.os tk 1 (zB es)]
theorem KU [Gi] {t:zR} {c b j f p:PV}(h:Qp t c b j f p)(hZ:Z3 t)(hP:Wi t)(ck cx sk sx:List PV):∀(d:Nat) (_:d≤8) (es:List Int) (r:Int) (_: -2147483648≤r∧r<2147483648) (_:es.length+3*2^d≤2^40),
  CR Tryz.prog 173 [[0]] [.lp [0] 0,.p (.int .i32 r),.p (.int .i64 d)] [([0],[.p (zE c b j f p ck cx sk sx),.os [901] 1 (zB es)])] (fun x rs=>x=.tup []∧∃tk:Tok,(tk=[0,1]∨tk=[901])∧rs=[([0],Zb (zE c b j f p ck cx sk sx) tk (es++qL t d r))]):=by
 intro d
 induction d with
 |zero=>
  intro hd es r hr hes
  have hpow:1≤2^0:=Nat.one_le_two_pow
  refine qK [] mixed 10 [] Tryz.func173 rfl (by kernel_rfl) [6] rfl (by simp) (by simp) ?_
  simp (maxSteps:=1000000) [go_sem,Tryz.f173]
  refine⟨⟨rfl,by simp[Tryz.f208]⟩,zb [] (VC r) (by simp[go_sem,zD]) ⟨by simp[go_sem],by simp[go_sem]⟩ (by simp[go_sem]) ?_⟩
  rintro _ rs ⟨rfl,rfl⟩
  by_cases hs:Zc r=true
  ·have e:qL t 0 r=zQ r:=by unfold qL;rw[if_pos hs]
   rw[e]
   have hsl:(zQ r).length≤3:=by unfold zQ;split<;>simp
   obtain⟨y,l,hy⟩:∃y l,zQ r=y::l:=by unfold zQ;split<;>exact⟨_,_,rfl⟩
   rw[hy]at hsl
   simp only[List.length_cons]at hsl
   simp (maxSteps:=1000000) [go_sem,yP,hs,Z5,hy,zB]
   exact⟨by first|omega|(simp[zB];omega),zl [[0]] (.tup []) ⟨rfl,by simp⟩ (by simp[go_sem,zf,leT]) ⟨rfl,.inl (by simp[go_sem,Zb,zB])⟩⟩
  ·have hs':Zc r=false:=by simpa using hs
   simp (maxSteps:=1000000) [go_sem,yP,hs']
   refine⟨⟨rfl,by simp[Tryz.f122]⟩,zb [] (VB h ck cx sk sx hZ hr) (by simp[go_sem,zD]) ⟨by simp[go_sem],by simp[go_sem]⟩ (by simp[go_sem]) ?_⟩
   rintro _ rs ⟨rfl,rfl⟩
   have hpp:=hP (rn r)
   obtain⟨q,hq⟩:∃q,t.par (rn r)=q:=⟨_,rfl⟩
   rw[hq]at hpp
   simp only[hq,JW]
   have e:qL t 0 r=[r]:=by unfold qL;rw[if_neg hs]
   rw[e]
   obtain⟨z,hz⟩:∃z,(!decide (q.a=0) ||!decide (q.b=0))=z:=⟨_,rfl⟩
   simp only[hz]
   cases z with
   |false=>
    simp (maxSteps:=1000000) [go_sem,zB]
    exact⟨by first|omega|(simp[zB];omega),zl [[0]] (.tup []) ⟨rfl,by simp⟩ (by simp[go_sem,zf,leT]) ⟨rfl,.inl (by simp[go_sem,Zb,zB])⟩⟩
   |true=>
    simp (maxSteps:=1000000) [go_sem,zB]
    exact⟨by first|omega|(simp[zB];omega),zl [[0]] (.tup []) ⟨rfl,by simp⟩ (by simp[go_sem,zf,leT]) ⟨rfl,.inl (by simp[go_sem,Zb,zB])⟩⟩
 |succ d ih=>
  intro hd es r hr hes
  have hd0:¬((d:Int)+1=0):=by omega
  have wd:IntKind.i64.wrap ((d:Int)+1-1)=(d:Int):=by rw[wrap64 (by omega) (by omega)];omega
  have wd':IntKind.i64.wrap (d:Int)=(d:Int):=wrap64 (by omega) (by omega)
  have hp2:2^(d+1)=2*2^d:=by rw[Nat.pow_succ];omega
  have hp3:2^d≤2^8:=Nat.pow_le_pow_right (by omega) (by omega)
  have hpow:1≤2^d:=Nat.one_le_two_pow
  refine qK [] mixed 10 [] Tryz.func173 rfl (by kernel_rfl) [6] rfl (by simp) (by simp) ?_
  simp (maxSteps:=1000000) [go_sem,Tryz.f173]
  refine⟨⟨rfl,by simp[Tryz.f208]⟩,zb [] (VC r) (by simp[go_sem,zD]) ⟨by simp[go_sem],by simp[go_sem]⟩ (by simp[go_sem]) ?_⟩
  rintro _ rs ⟨rfl,rfl⟩
  by_cases hs:Zc r=true
  ·have e:qL t (d+1) r=zQ r:=by unfold qL;rw[if_pos hs]
   rw[e]
   have hsl:(zQ r).length≤3:=by unfold zQ;split<;>simp
   obtain⟨y,l,hy⟩:∃y l,zQ r=y::l:=by unfold zQ;split<;>exact⟨_,_,rfl⟩
   rw[hy]at hsl
   simp only[List.length_cons]at hsl
   simp (maxSteps:=1000000) [go_sem,yP,hs,Z5,hy,zB]
   exact⟨by first|omega|(simp[zB];omega),zl [[0]] (.tup []) ⟨rfl,by simp⟩ (by simp[go_sem,zf,leT]) ⟨rfl,.inl (by simp[go_sem,Zb,zB])⟩⟩
  ·have hs':Zc r=false:=by simpa using hs
   simp (maxSteps:=1000000) [go_sem,yP,hs']
   refine⟨⟨rfl,by simp[Tryz.f122]⟩,zb [] (VB h ck cx sk sx hZ hr) (by simp[go_sem,zD]) ⟨by simp[go_sem],by simp[go_sem]⟩ (by simp[go_sem]) ?_⟩
   rintro _ rs ⟨rfl,rfl⟩
   have hpp:=hP (rn r)
   obtain⟨q,hq⟩:∃q,t.par (rn r)=q:=⟨_,rfl⟩
   rw[hq]at hpp
   simp only[hq,JW]
   by_cases hz:q.a=0∧q.b=0
   ·have e:qL t (d+1) r=[r]:=by unfold qL;rw[if_neg hs,hq,if_pos hz]
    rw[e]
    simp (maxSteps:=1000000) [go_sem,zB,hz.1,hz.2]
    exact⟨by first|omega|(simp[zB];omega),zl [[0]] (.tup []) ⟨rfl,by simp⟩ (by simp[go_sem,zf,leT]) ⟨rfl,.inl (by simp[go_sem,Zb,zB])⟩⟩
   ·have e:qL t (d+1) r=qL t d q.a++(if q.b=0 then []else qL t d q.b):=by
     rw[qL,if_neg hs,hq,if_neg hz]
    rw[e]
    have hzb:(!decide (q.a=0) ||!decide (q.b=0))=true:=by
     by_cases ha:q.a=0
     ·have:¬q.b=0:=fun hb=>hz ⟨ha,hb⟩
      simp[this]
     ·simp[ha]
    have hl1:=xS t d q.a
    simp only[hzb]
    simp (maxSteps:=1000000) [go_sem,hd0,wd']
    refine⟨⟨rfl,by simp[Tryz.f173]⟩,zb [([0],[0]),([901],[901]),([0,1],[0,1])] (ih (by omega) es q.a (by omega) (by omega)) (by simp[go_sem,zD]) ⟨by simp[go_sem],by simp[go_sem]⟩ (by simp[go_sem]) ?_⟩
    rintro _ _ ⟨rfl,tk,htk,rfl⟩
    by_cases hb:q.b=0
    ·rcases htk with rfl|rfl
     ·simp (maxSteps:=1000000) [go_sem,Zb,hb]
      exact zl [[0]] (.tup []) ⟨rfl,by simp⟩ (by simp[go_sem,zf,leT]) ⟨rfl,.inl (by simp[go_sem,zB])⟩
     ·simp (maxSteps:=1000000) [go_sem,Zb,hb]
      exact zl [[0]] (.tup []) ⟨rfl,by simp⟩ (by simp[go_sem,zf,leT]) ⟨rfl,.inr (by simp[go_sem,zB])⟩
    ·rcases htk with rfl|rfl
     ·simp (maxSteps:=1000000) [go_sem,Zb,hb,wd']
      refine⟨⟨rfl,by simp[Tryz.f173]⟩,zb [([0],[0]),([901],[0,1]),([0,1],[901])] (ih (by omega) (es++qL t d q.a) q.b (by omega) (by simp;omega)) (by simp[go_sem,zD]) ⟨by simp[go_sem],by simp[go_sem]⟩ (by simp[go_sem]) ?_⟩
      rintro _ _ ⟨rfl,tk,htk,rfl⟩
      rcases htk with rfl|rfl
      ·simp (maxSteps:=1000000) [go_sem,Zb]
       exact zl [[0]] (.tup []) ⟨rfl,by simp⟩ (by simp[go_sem,zf,leT]) ⟨rfl,.inr (by simp[go_sem,zB])⟩
      ·simp (maxSteps:=1000000) [go_sem,Zb]
       exact zl [[0]] (.tup []) ⟨rfl,by simp⟩ (by simp[go_sem,zf,leT]) ⟨rfl,.inl (by simp[go_sem,zB])⟩
     ·simp (maxSteps:=1000000) [go_sem,Zb,hb,wd']
      refine⟨⟨rfl,by simp[Tryz.f173]⟩,zb [([0],[0]),([901],[901]),([0,1],[0,1])] (ih (by omega) (es++qL t d q.a) q.b (by omega) (by simp;omega)) (by simp[go_sem,zD]) ⟨by simp[go_sem],by simp[go_sem]⟩ (by simp[go_sem]) ?_⟩
      rintro _ _ ⟨rfl,tk,htk,rfl⟩
      rcases htk with rfl|rfl
      ·simp (maxSteps:=1000000) [go_sem,Zb]
       exact zl [[0]] (.tup []) ⟨rfl,by simp⟩ (by simp[go_sem,zf,leT]) ⟨rfl,.inl (by simp[go_sem,zB])⟩
      ·simp (maxSteps:=1000000) [go_sem,Zb]
       exact zl [[0]] (.tup []) ⟨rfl,by simp⟩ (by simp[go_sem,zf,leT]) ⟨rfl,.inr (by simp[go_sem,zB])⟩
theorem take_nil [Gi] {t:zR} {c b j f p:PV}(h:Qp t c b j f p)(hZ:Z3 t)(hP:Wi t)(ck cx sk sx:List PV):∀(d:Nat) (_:d≤8) (r:Int) (_: -2147483648≤r∧r<2147483648),
  CR Tryz.prog 173 [[0]] [.lp [0] 0,.p (.int .i32 r),.p (.int .i64 d)] [([0],[.p (zE c b j f p ck cx sk sx),.p (.opq (.slice none 0 0))])] (fun x rs=>x=.tup []∧∃tk:Tok,(tk=[0,1]∨tk=[901])∧rs=[([0],Zb (zE c b j f p ck cx sk sx) tk (qL t d r))]):=by
 intro d
 induction d with
 |zero=>
  intro hd r hr
  have hpow:1≤2^0:=Nat.one_le_two_pow
  refine qK [] mixed 10 [] Tryz.func173 rfl (by kernel_rfl) [6] rfl (by simp) (by simp) ?_
  simp (maxSteps:=1000000) [go_sem,Tryz.f173]
  refine⟨⟨rfl,by simp[Tryz.f208]⟩,zb [] (VC r) (by simp[go_sem,zD]) ⟨by simp[go_sem],by simp[go_sem]⟩ (by simp[go_sem]) ?_⟩
  rintro _ rs ⟨rfl,rfl⟩
  by_cases hs:Zc r=true
  ·have e:qL t 0 r=zQ r:=by unfold qL;rw[if_pos hs]
   rw[e]
   have hsl:(zQ r).length≤3:=by unfold zQ;split<;>simp
   obtain⟨y,l,hy⟩:∃y l,zQ r=y::l:=by unfold zQ;split<;>exact⟨_,_,rfl⟩
   rw[hy]at hsl
   simp only[List.length_cons]at hsl
   simp (maxSteps:=1000000) [go_sem,yP,hs,Z5,hy]
   exact⟨by first|omega|(simp[zB];omega),zl [[0]] (.tup []) ⟨rfl,by simp⟩ (by simp[go_sem,zf,leT]) ⟨rfl,.inl (by simp[go_sem,Zb,zB])⟩⟩
  ·have hs':Zc r=false:=by simpa using hs
   simp (maxSteps:=1000000) [go_sem,yP,hs']
   refine⟨⟨rfl,by simp[Tryz.f122]⟩,zb [] (VB h ck cx sk sx hZ hr) (by simp[go_sem,zD]) ⟨by simp[go_sem],by simp[go_sem]⟩ (by simp[go_sem]) ?_⟩
   rintro _ rs ⟨rfl,rfl⟩
   have hpp:=hP (rn r)
   obtain⟨q,hq⟩:∃q,t.par (rn r)=q:=⟨_,rfl⟩
   rw[hq]at hpp
   simp only[hq,JW]
   have e:qL t 0 r=[r]:=by unfold qL;rw[if_neg hs]
   rw[e]
   obtain⟨z,hz⟩:∃z,(!decide (q.a=0) ||!decide (q.b=0))=z:=⟨_,rfl⟩
   simp only[hz]
   cases z with
   |false=>
    simp (maxSteps:=1000000) [go_sem]
    exact zl [[0]] (.tup []) ⟨rfl,by simp⟩ (by simp[go_sem,zf,leT]) ⟨rfl,.inl (by simp[go_sem,Zb,zB])⟩
   |true=>
    simp (maxSteps:=1000000) [go_sem]
    exact zl [[0]] (.tup []) ⟨rfl,by simp⟩ (by simp[go_sem,zf,leT]) ⟨rfl,.inl (by simp[go_sem,Zb,zB])⟩
 |succ d ih=>
  intro hd r hr
  have hd0:¬((d:Int)+1=0):=by omega
  have wd:IntKind.i64.wrap ((d:Int)+1-1)=(d:Int):=by rw[wrap64 (by omega) (by omega)];omega
  have wd':IntKind.i64.wrap (d:Int)=(d:Int):=wrap64 (by omega) (by omega)
  have hp2:2^(d+1)=2*2^d:=by rw[Nat.pow_succ];omega
  have hp3:2^d≤2^8:=Nat.pow_le_pow_right (by omega) (by omega)
  have hpow:1≤2^d:=Nat.one_le_two_pow
  refine qK [] mixed 10 [] Tryz.func173 rfl (by kernel_rfl) [6] rfl (by simp) (by simp) ?_
  simp (maxSteps:=1000000) [go_sem,Tryz.f173]
  refine⟨⟨rfl,by simp[Tryz.f208]⟩,zb [] (VC r) (by simp[go_sem,zD]) ⟨by simp[go_sem],by simp[go_sem]⟩ (by simp[go_sem]) ?_⟩
  rintro _ rs ⟨rfl,rfl⟩
  by_cases hs:Zc r=true
  ·have e:qL t (d+1) r=zQ r:=by unfold qL;rw[if_pos hs]
   rw[e]
   have hsl:(zQ r).length≤3:=by unfold zQ;split<;>simp
   obtain⟨y,l,hy⟩:∃y l,zQ r=y::l:=by unfold zQ;split<;>exact⟨_,_,rfl⟩
   rw[hy]at hsl
   simp only[List.length_cons]at hsl
   simp (maxSteps:=1000000) [go_sem,yP,hs,Z5,hy]
   exact⟨by first|omega|(simp[zB];omega),zl [[0]] (.tup []) ⟨rfl,by simp⟩ (by simp[go_sem,zf,leT]) ⟨rfl,.inl (by simp[go_sem,Zb,zB])⟩⟩
  ·have hs':Zc r=false:=by simpa using hs
   simp (maxSteps:=1000000) [go_sem,yP,hs']
   refine⟨⟨rfl,by simp[Tryz.f122]⟩,zb [] (VB h ck cx sk sx hZ hr) (by simp[go_sem,zD]) ⟨by simp[go_sem],by simp[go_sem]⟩ (by simp[go_sem]) ?_⟩
   rintro _ rs ⟨rfl,rfl⟩
   have hpp:=hP (rn r)
   obtain⟨q,hq⟩:∃q,t.par (rn r)=q:=⟨_,rfl⟩
   rw[hq]at hpp
   simp only[hq,JW]
   by_cases hz:q.a=0∧q.b=0
   ·have e:qL t (d+1) r=[r]:=by unfold qL;rw[if_neg hs,hq,if_pos hz]
    rw[e]
    simp (maxSteps:=1000000) [go_sem,hz.1,hz.2]
    exact zl [[0]] (.tup []) ⟨rfl,by simp⟩ (by simp[go_sem,zf,leT]) ⟨rfl,.inl (by simp[go_sem,Zb,zB])⟩
   ·have e:qL t (d+1) r=qL t d q.a++(if q.b=0 then []else qL t d q.b):=by
     rw[qL,if_neg hs,hq,if_neg hz]
    rw[e]
    have hzb:(!decide (q.a=0) ||!decide (q.b=0))=true:=by
     by_cases ha:q.a=0
     ·have:¬q.b=0:=fun hb=>hz ⟨ha,hb⟩
      simp[this]
     ·simp[ha]
    have hl1:=xS t d q.a
    simp only[hzb]
    simp (maxSteps:=1000000) [go_sem,hd0,wd']
    refine⟨⟨rfl,by simp[Tryz.f173]⟩,zb [([0],[0]),([901],[901]),([0,1],[0,1])] (ih (by omega) q.a (by omega)) (by simp[go_sem,zD]) ⟨by simp[go_sem],by simp[go_sem]⟩ (by simp[go_sem]) ?_⟩
    rintro _ _ ⟨rfl,tk,htk,rfl⟩
    by_cases hb:q.b=0
    ·rcases htk with rfl|rfl
     ·simp (maxSteps:=1000000) [go_sem,Zb,hb]
      exact zl [[0]] (.tup []) ⟨rfl,by simp⟩ (by simp[go_sem,zf,leT]) ⟨rfl,.inl (by simp[go_sem,zB])⟩
     ·simp (maxSteps:=1000000) [go_sem,Zb,hb]
      exact zl [[0]] (.tup []) ⟨rfl,by simp⟩ (by simp[go_sem,zf,leT]) ⟨rfl,.inr (by simp[go_sem,zB])⟩
    ·rcases htk with rfl|rfl
     ·simp (maxSteps:=1000000) [go_sem,Zb,hb,wd']
      refine⟨⟨rfl,by simp[Tryz.f173]⟩,zb [([0],[0]),([901],[0,1]),([0,1],[901])] (KU h hZ hP ck cx sk sx d (by omega) (qL t d q.a) q.b (by omega) (by simp;omega)) (by simp[go_sem,zD]) ⟨by simp[go_sem],by simp[go_sem]⟩ (by simp[go_sem]) ?_⟩
      rintro _ _ ⟨rfl,tk,htk,rfl⟩
      rcases htk with rfl|rfl
      ·simp (maxSteps:=1000000) [go_sem,Zb]
       exact zl [[0]] (.tup []) ⟨rfl,by simp⟩ (by simp[go_sem,zf,leT]) ⟨rfl,.inr (by simp[go_sem,zB])⟩
      ·simp (maxSteps:=1000000) [go_sem,Zb]
       exact zl [[0]] (.tup []) ⟨rfl,by simp⟩ (by simp[go_sem,zf,leT]) ⟨rfl,.inl (by simp[go_sem,zB])⟩
     ·simp (maxSteps:=1000000) [go_sem,Zb,hb,wd']
      refine⟨⟨rfl,by simp[Tryz.f173]⟩,zb [([0],[0]),([901],[901]),([0,1],[0,1])] (KU h hZ hP ck cx sk sx d (by omega) (qL t d q.a) q.b (by omega) (by simp;omega)) (by simp[go_sem,zD]) ⟨by simp[go_sem],by simp[go_sem]⟩ (by simp[go_sem]) ?_⟩
      rintro _ _ ⟨rfl,tk,htk,rfl⟩
      rcases htk with rfl|rfl
      ·simp (maxSteps:=1000000) [go_sem,Zb]
       exact zl [[0]] (.tup []) ⟨rfl,by simp⟩ (by simp[go_sem,zf,leT]) ⟨rfl,.inl (by simp[go_sem,zB])⟩
      ·simp (maxSteps:=1000000) [go_sem,Zb]
       exact zl [[0]] (.tup []) ⟨rfl,by simp⟩ (by simp[go_sem,zf,leT]) ⟨rfl,.inr (by simp[go_sem,zB])⟩
end Go.Proofs.YtjefahhmkcfiiaaGreat
end
