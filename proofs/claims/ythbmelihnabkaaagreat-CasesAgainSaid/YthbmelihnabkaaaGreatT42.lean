/- A part of the proof of this seat's statements, by an abstract machine: what each operation does to values, and what the law's functions compute. Conditions: as each law says. -/
import Derived.Test.YthbmelihnabkaaaGreatT40
import Derived.Test.YthbmelihnabkaaaGreatT38
section
namespace Go.Proofs.YthbmelihnabkaaaGreat
open Go.AM
set_option maxHeartbeats 4000000
set_option maxRecDepth 10000
attribute [local irreducible] za
def xm(d:Nat):List (Tok×Tok):=[([0],[d,0]),([0,1],[d,0,1]),([0,2],[d,0,2])]
attribute [go_sem] xm zI
theorem uf(l:List Int):(qv za l).length≤3*l.length:=by
 have h2:=vU (kD za) (mkD za) (jM za l) []
 have h3:(jM za l).length=(Zs za l).length:=yy _ _
 have h4:=y9 l
 have h5:(qv za l).length=((jM za l).foldl (Z6 (kD za) (mkD za)) []).length:=rfl
 simp only[List.length_nil]at h2
 omega
theorem zaQ [Gi](l:List Int)(n:Nat)(hn:n<2^31):CR Tryz.prog 8 [] [.p (zh l),.p (.int .i64 n)] [] (is (.p (zh (l.take n)))):=zlQ l n hn
theorem Wk [Gi]:CR Tryz.prog 10 [] [.p (zI za)] [] (fun x rs=>rs=[]∧∃e,x=.p e∧Zl e):=zg1
theorem zlc [Gi] {e:PV}(hT:Zl e)(l:List Int)(hn:l.length≤1000)(hr:∀x∈l,zD x):CR Tryz.prog 17 [] [.p e,.p (zh (qv za l))] [] (znX e (z8 za (qv za l))):=by
 have h:=uf l
 have:=zbq hT (qv za l) (by omega) (kj.rune l (by omega) hr) (by rw[vS];omega)
 rwa[vS]at this
theorem lnC(l:List Int)(hn:l.length≤1000)(hr:∀x∈l,zD x):Ln (qv za l) (z8 za (qv za l)):=
 ⟨rfl,by have:=uf l;omega,kj.rune l (by omega) hr⟩
theorem zn9(s:List Int)(hn:s.length≤60):(z8 za (qv za s)).length≤180:=by
 have:=zeR s
 omega
theorem kU [Gi] {S:St} {dst:Option Nat} {x:Operand} {args:Array Operand} {argTypes:Array TypeId} {tt:TypeId} {pos:String} {after:Array Edge} {guard:Option (Nat×Bool)} {r:AV} {c:Option Bool} {K:St→Prop}(f:FuncId) {as1:List AV}
  (hC:CR Tryz.prog f [] as1 [] (is r)) (hk:dOK S dst∧K (S.qH dst (gv c r))) (hr:Ww r=true:=by rfl) (hf:zd8 (S.ev x)=some f:=by rfl) (hb:((Tryz.prog.funcs[f]?).map (·.body.isSome))=some true∧((Tryz.prog.funcs[f]?).map (·.name))≠some "runtime.NumGoroutine" :=by exact⟨by kernel_rfl,by decide+kernel⟩)
  (ha:(ZX S [] args.toList).1:=by simp[go_sem]) (ha':(ZX S [] args.toList).2=as1:=by simp[go_sem]):JD Tryz.prog S ⟨dst,.call ⟨.value x,args,argTypes⟩,tt,pos,after,guard⟩ c K:=
 Qx r hr rfl (fun _=>Qy f hC hf hb ⟨ha,ha'⟩) hk
theorem XX {L:List (List Int)}(h:ClL L) {a:Int}(ha:a≤(plc L (kf L a):Int)):cnt (pl L) a=kf L a:=by
 have q3:=yp L a
 by_cases c0:a<0
 ·rw[zar L c0]
  exact wz (Nat.zero_le _) (fun i _ hi=>absurd hi (by omega)) (fun i _ _=>by omega)
 ·have q1:=vK L a (by omega)
  have e:a=(plc L (kf L a):Int):=by omega
  have:=KC h q3
  rw[←e]at this
  exact this
theorem zcJ {L:List (List Int)}(h:ClL L) {a:Int}(ha:(plc L (kf L a):Int)<a)(hk:kf L a<L.length):cnt (pl L) a=kf L a+1:=by
 have q2:=K0 L a hk
 refine wz (by rw[qq];omega) (fun i hi hik=>?_) (fun i hi hik=>?_)
 ·rw[ZM];have:=ju h (i:=i) (j:=kf L a) (by omega) (by omega);omega
 ·rw[ZM];rw[qq]at hi;have:=ju h (i:=kf L a+1) (j:=i) hik (by omega);omega
theorem zgh {L:List (List Int)}(h:ClL L) {a:Int}(ha:(Zd L:Int)≤a):cnt (pl L) a=L.length:=by
 refine wz (by rw[qq];omega) (fun i hi _=>?_) (fun i hi hik=>?_)
 ·rw[ZM];rw[qq]at hi;have:=ZG h hi (Nat.le_refl _);rw[qF]at this;omega
 ·rw[qq]at hi;omega
theorem zjR {L:List (List Int)}(h:ClL L) {i:Nat}(hi:(i:Int)<Zd L):cnt (pl L) ((i:Int)+1)=cnt (pl L) i+(if isB L i=true then 1 else 0):=by
 have q0:=WA h hi (by omega)
 have q1:=vK L i (by omega)
 have q2:=K0 L i q0
 by_cases c:isB L i=true
 ·have e:(plc L (kf L i):Int)=i:=of_decide_eq_true c
  rw[if_pos c,XX h (a:=(i:Int)) (by omega)]
  refine wz (by rw[qq];omega) (fun j hj hjk=>?_) (fun j hj hjk=>?_)
  ·rw[ZM];have:=ju h (i:=j) (j:=kf L i) (by omega) (by omega);omega
  ·rw[ZM];rw[qq]at hj;have:=ju h (i:=kf L i+1) (j:=j) hjk (by omega);omega
 ·have e:¬(plc L (kf L i):Int)=i:=fun e=>c (decide_eq_true e)
  rw[if_neg c,zcJ h (a:=(i:Int)) (by omega) q0]
  refine wz (by rw[qq];omega) (fun j hj hjk=>?_) (fun j hj hjk=>?_)
  ·rw[ZM];have:=ju h (i:=j) (j:=kf L i) (by omega) (by omega);omega
  ·rw[ZM];rw[qq]at hj;have:=ju h (i:=kf L i+1) (j:=j) hjk (by omega);omega
end Go.Proofs.YthbmelihnabkaaaGreat
end
section
namespace Go.Proofs.YthbmelihnabkaaaGreat
open Go.AM
set_option maxHeartbeats 4000000
set_option maxRecDepth 100000
def zcc(r:Int):Bool:=za.any fun w=>decide (w.k=2)&&decide (w.b=r)&&!decide (r=0)&&!xg za w.f
theorem zia:(M0.2.all fun r=>M0.1.any fun c=>decide (c.1.b=r))=true∧(M0.1.all fun c=>M0.2.contains c.1.b)=true:=by decide+kernel
theorem zeB:(Q3.all fun w=>decide (qY Q3 w.f=none∨qY Q3 w.f=some (w.a,w.b)))=true:=by decide+kernel
theorem zeT:(Q3.all fun w=>decide (w.b=0∨qY Q3 w.f≠none))=true:=by decide+kernel
theorem ziX(r:Int):(T0.flg (rn r)).o=decide (aL za 3 r=1):=by
 by_cases h:0≤r∧r≤1114111
 ·have e:(T0.flg (rn r)).o=qK (qg za 3) r:=by
   rw[uH (by omega)];exact congrArg (qK (qg za 3)) (Int.toNat_of_nonneg h.1)
  rw[e,uo _ _ _ h]
  unfold qg
  rw[zlH _ _ (ja zoi).rise]
  unfold qK spA
  cases atL (zK za 3) r with
  |none=>rfl
  |some s=>simp only;rfl
 ·rw[xd (by omega),VX _ _ _ h,Z7.f];rfl
attribute [local irreducible] za
theorem zc6 {c:qZ×Int}(h:c∈Vu za):zcc c.1.b=true:=by
 unfold Vu at h
 obtain⟨w,hw,hc⟩:=List.mem_filterMap.1 h
 unfold x8 at hc
 split at hc
 ·rename_i q
  injection hc with hc
  subst hc
  unfold zcc
  refine List.any_eq_true.2 ⟨w,hw,?_⟩
  simp[q.1,q.2.1,q.2.2.2]
 ·cases hc
theorem zja {r:Int}(h:zcc r=true):∃c∈Vu za,c.1.b=r:=by
 obtain⟨w,hw,q⟩:=List.any_eq_true.1 h
 simp only[Bool.and_eq_true,decide_eq_true_eq,Bool.not_eq_true',decide_eq_false_iff_not]at q
 obtain⟨⟨⟨q1,q2⟩,q3⟩,q4⟩:=q
 have m:w∈Q3:=List.mem_filter.2 ⟨hw,by simp[q1]⟩
 have f1:=List.all_eq_true.1 zeB w m
 have f2:=List.all_eq_true.1 zeT w m
 rw[UM]at f1 f2
 simp only[decide_eq_true_eq]at f1 f2
 have h0:w.b≠0:=by omega
 refine⟨(⟨w.a,w.b⟩,w.f),List.mem_filterMap.2 ⟨w,hw,?_⟩,q2⟩
 unfold x8
 have f3:qY za w.f=some (w.a,w.b):=by
  rcases f1 with f1|f1
  ·rcases f2 with f2|f2
   ·exact absurd f2 h0
   ·exact absurd f1 f2
  ·exact f1
 rw[if_pos ⟨q1,h0,f3,q4⟩]
theorem zkX(r:Int):decide (r∈M0.2)=zcc r:=by
 obtain⟨h1,h2⟩:=zia
 rw[XA]at h1 h2
 cases hs:zcc r with
 |true=>
  obtain⟨c,hc,rfl⟩:=zja hs
  have:=List.all_eq_true.1 h2 c hc
  simpa using this
 |false=>
  refine decide_eq_false fun hm=>?_
  obtain⟨c,hc,e⟩:=List.any_eq_true.1 (List.all_eq_true.1 h1 r hm)
  have:=zc6 hc
  rw[of_decide_eq_true e,hs]at this
  cases this
theorem zlm [Gi] {e:PV}(hT:Zl e)(r:Int)(hr:zD r):CR Tryz.prog 51 [] [.p e,.p (.int .i32 r)] [] (is (.p (.bool (xg za r)))):=by
 obtain⟨c,b,j,f,p,h,rfl⟩:=hT
 have w1:IntKind.i64.wrap r=r:=wrap64 (by have:=hr.1;omega) (by have:=hr.2;omega)
 have hpr:=vi h (ckP M0.1) (cxP M0.1) (ZD M0.2) (qe M0.2) Z7 hr
 have hfl:=V7 h.f Z7.f r
 have hcl:=ZS h (ckP M0.1) (cxP M0.1) (ZD M0.2) (qe M0.2) Z7 hr
 have hw:=zfO r
 have ho:=ziX r
 rw[KB]at hcl
 refine zm mixed 8 [] Tryz.func51 rfl (by kernel_rfl) rfl (by simp) (by simp) ?_
 simp (maxSteps:=1000000) [go_sem,Tryz.f51,zF]
 refine zn hpr ?_ (ha':=by simp[go_sem,zF])
 have hd:xg za r=(match qY za r with
  |none=>false
  |some p=>decide (p.2=0) || decide (aL za 3 r=1) ||!decide (aL za 1 r=0) ||!decide (aL za 1 p.1=0)):=rfl
 rw[hd]
 cases hp:qY za r with
 |none=>
  rw[hp]at hw
  simp only at hw
  simp only[hw,WZ]
  simp (maxSteps:=1000000) [go_sem]
  exact ret
 |some q=>
  have hb:=WU yS hp
  have h0:¬(q.1=0∧q.2=0):=by
   intro h0
   unfold qY at hp
   cases hr:rowAt za 2 r with
   |none=>rw[hr]at hp;simp at hp
   |some x=>
    rw[hr]at hp
    simp only at hp
    split at hp
    ·simp at hp
    ·rename_i hx
     have:=Option.some.inj hp
     rw[←this]at h0
     exact hx h0
  rw[hp]at hw
  simp only at hw
  obtain⟨x,y⟩:=q
  simp only at h0 hb
  have hx:=ZS h (ckP M0.1) (cxP M0.1) (ZD M0.2) (qe M0.2) Z7 (i:=x) (by omega)
  rw[KB]at hx
  have hz:(!decide (x=0) ||!decide (y=0))=true:=by
   simp only[Bool.or_eq_true,Bool.not_eq_true',decide_eq_false_iff_not];omega
  simp only[hw,WZ,hz]
  by_cases c0:y=0
  ·simp (maxSteps:=1000000) [go_sem,c0]
   exact ret
  ·simp (maxSteps:=1000000) [go_sem,c0,w1]
   refine zn hfl ?_
   generalize T0.flg (rn r)=fl at ho
   by_cases c1:aL za 3 r=1
   ·rw[decide_eq_true c1]at ho
    simp (maxSteps:=1000000) [go_sem,qu,ho,c1]
    exact ret
   ·rw[decide_eq_false c1]at ho
    simp (maxSteps:=1000000) [go_sem,qu,ho,c1]
    refine zn hcl ?_ (ha':=by simp[go_sem,zF])
    by_cases c2:aL za 1 r=0
    ·simp (maxSteps:=1000000) [go_sem,c2]
     refine zn hx ?_ (ha':=by simp[go_sem,zF])
     simp (maxSteps:=1000000) [go_sem]
     exact ret
    ·simp (maxSteps:=1000000) [go_sem,c2]
     exact ret
def qcD(r:Int):Int:=if xg za r then 1 else if zcc r || zgT r then 2 else 0
theorem zew [Gi] {e:PV}(hT:Zl e)(r:Int)(hr:zD r):CR Tryz.prog 198 [] [.p e,.p (.int .i32 r)] [] (is (.p (.int .i64 (qcD r)))):=by
 refine walk Tryz.func198 6 [9] [] [] ?_
 have h1:=zlm hT r hr
 have h2:CR Tryz.prog 210 [] [.p e,.p (.int .i32 r)] [] (is (.p (.bool (zcc r)))):=by
  rw[←zkX]
  obtain⟨c,b,j,f,p,h,rfl⟩:=hT
  exact zho c b j f p _ _ M0.2 r
 have h3:=zl7 r
 unfold qcD
 simp (maxSteps:=1000000) [go_sem,Tryz.f198]
 refine zn h1 ?_
 cases xg za r with
 |true=>
  simp (maxSteps:=1000000) [go_sem]
  exact ret
 |false=>
  simp (maxSteps:=1000000) [go_sem]
  refine zn h2 ?_
  cases zcc r with
  |true=>
   simp (maxSteps:=1000000) [go_sem]
   exact ret
  |false=>
   simp (maxSteps:=1000000) [go_sem]
   refine zn h3 ?_
   cases zgT r with
   |true=>
    simp (maxSteps:=1000000) [go_sem]
    exact ret
   |false=>
    simp (maxSteps:=1000000) [go_sem]
    exact ret
end Go.Proofs.YthbmelihnabkaaaGreat
end
section
namespace Go.Proofs.YthbmelihnabkaaaGreat
open Go.AM
set_option maxHeartbeats 4000000
set_option maxRecDepth 10000
attribute [local irreducible] za
theorem zj3 [Gi] {e:PV}(hT:Zl e)(r:Int)(hr:zD r):CR Tryz.prog 197 [] [.p e,.p (.int .i32 r)] [] (is (.p (zh (z5 za 8 r)))):=by
 rw[←xF]
 obtain⟨c,b,j,f,p,h,rfl⟩:=hT
 have ht:=take_nil h Z7 zdZ (ckP M0.1) (cxP M0.1) (ZD M0.2) (qe M0.2) 8 (by omega) r hr
 refine walk Tryz.func197 6 [] [] [] ?_
 simp (maxSteps:=1000000) [go_sem,Tryz.f197,zF]
 refine call [([0],[5]),([901],[901]),([0,1],[902])] ht ?_ (hr:=by simp[go_sem,zF])
 rintro _ _ ⟨rfl,tk,htk,rfl⟩
 rcases htk with rfl|rfl
 ·simp (maxSteps:=1000000) [go_sem,qT,zF]
  exact ret
 ·simp (maxSteps:=1000000) [go_sem,qT,zF]
  exact ret
theorem Wy(r:Int):z5 za 8 r≠ []:=by rw[←xF];exact Yw T0 8 r
theorem znA(r:Int)(hr:zD r):∀x∈z5 za 8 r,zD x:=by rw[←xF];exact wM zdZ 8 r hr
def u9(r:Int):Int:=(z5 za 8 r).headD 0
theorem zdB {r:Int}(hr:zD r):zD (u9 r):=by
 have h1:=Wy r
 have h2:=znA r hr
 unfold u9
 cases h:z5 za 8 r with
 |nil=>exact absurd h h1
 |cons x l=>rw[h]at h2;exact h2 x (by simp)
def yJ(r:Int):Bool:=decide (aL za 1 r=0)&&decide (qcD r=0)&&decide (aL za 1 (u9 r)=0)&&decide (qcD (u9 r)=0)
def znN(r y:Int)(i:Nat):Prop:=i≤2∧(1≤i→aL za 1 r=0∧qcD r=0)∧(2≤i→aL za 1 y=0∧qcD y=0)
theorem zdu [Gi] {e:PV}(hT:Zl e)(r:Int)(hr:zD r):CR Tryz.prog 165 [] [.p e,.p (.int .i32 r)] [] (is (.p (.bool (yJ r)))):=by
 refine walk Tryz.func165 7 [13,14] [] [] ?_
 have hf:=zj3 hT r hr
 have hr2:=zdB hr
 have hc:∀x,zD x→CR Tryz.prog 105 [] [.p e,.p (.int .i32 x)] [] (is (.p (.int .i64 (aL za 1 x)))):=fun x hx=>by
  obtain⟨c,b,j,f,p,h,rfl⟩:=hT
  have:=ZS h (ckP M0.1) (cxP M0.1) (ZD M0.2) (qe M0.2) Z7 hx
  rw[KB]at this
  exact this
 have hq:=fun x hx=>zew hT x hx
 have hc1:=hc r hr
 have hc2:=hc _ hr2
 have hq1:=hq r hr
 have hq2:=hq _ hr2
 unfold yJ
 have h0:=Wy r
 obtain⟨y,l,hy⟩:∃y l,z5 za 8 r=y::l:=by
  cases h:z5 za 8 r with
  |nil=>exact absurd h h0
  |cons x l=>exact⟨_,_,rfl⟩
 have hfd:u9 r=y:=by unfold u9;rw[hy];rfl
 rw[hfd]at hc2 hq2⊢
 rw[hy]at hf
 simp (maxSteps:=1000000) [go_sem,Tryz.f165]
 refine zn hf ?_
 have em:elemAt (PV.int .i32 y::l.map fun r=>PV.int .i32 r) 0=.int .i32 y:=rfl
 simp (maxSteps:=1000000) [go_sem,zx,em]
 refine loop (znN r y) (fun i:Nat=>[(14,.p (.int .i64 i)),(6,.zX)]) (fun _=>[]) (fun i=>2-i) 0 ⟨by omega,by omega,by omega⟩ (fun i hi=>?_)
 obtain⟨i1,i2,i3⟩:=hi
 have hcase:i=0∨i=1∨i=2:=by omega
 rcases hcase with rfl|rfl|rfl
 ·simp (maxSteps:=1000000) [go_sem]
  refine zn hc1 ?_
  by_cases d1:aL za 1 r=0
  ·simp (maxSteps:=1000000) [go_sem,d1]
   refine zn hq1 ?_
   by_cases d2:qcD r=0
   ·simp (maxSteps:=1000000) [go_sem,d2]
    have w:IntKind.i64.wrap 1=1:=wrap64 (by omega) (by omega)
    exact next 1 ⟨by omega,fun _=>⟨d1,d2⟩,fun h=>by omega⟩ (h3:=by decide) (h2:=by simp[go_sem,LeS,leV,leR,leA,w])
   ·simp (maxSteps:=1000000) [go_sem,d2]
    exact ret
  ·simp (maxSteps:=1000000) [go_sem,d1]
   exact ret
 ·simp (maxSteps:=1000000) [go_sem]
  refine zn hc2 ?_
  by_cases d1:aL za 1 y=0
  ·simp (maxSteps:=1000000) [go_sem,d1]
   refine zn hq2 ?_
   by_cases d2:qcD y=0
   ·simp (maxSteps:=1000000) [go_sem,d2]
    have w:IntKind.i64.wrap 2=2:=wrap64 (by omega) (by omega)
    exact next 2 ⟨by omega,fun _=>i2 (by omega),fun _=>⟨d1,d2⟩⟩ (h3:=by decide) (h2:=by simp[go_sem,LeS,leV,leR,leA,w])
   ·simp (maxSteps:=1000000) [go_sem,d2]
    exact ret
  ·simp (maxSteps:=1000000) [go_sem,d1]
   exact ret
 ·simp (maxSteps:=1000000) [go_sem,i2,i3]
  exact ret
end Go.Proofs.YthbmelihnabkaaaGreat
end
section
namespace Go.Proofs.YthbmelihnabkaaaGreat
open Go.AM
set_option maxHeartbeats 4000000
set_option maxRecDepth 10000
attribute [local irreducible] za
def kI(l:List Int):Nat→Nat
 |0=>0
 |n+1=>if yJ (l.getD (n+1) 0)then n+1 else kI l n
def Zv(l:List Int)(f:Nat):Nat:=if f=0 then 0 else kI l (f-1)
def YR(l:List Int):Nat→Nat→Nat
 |0,k=>k
 |n+1,k=>if yJ (l.getD k 0)then k else YR l n (k+1)
def onL(l:List Int)(k:Nat):Nat:=YR l (l.length-k) k
theorem VW(l:List Int):∀n,kI l n≤n
 |0=>Nat.le_refl _
 |n+1=>by
  unfold kI
  split
  ·exact Nat.le_refl _
  ·have:=VW l n;omega
theorem vq(l:List Int)(f:Nat):Zv l f≤f:=by
 have:=VW l (f-1)
 unfold Zv;split<;>omega
theorem zfF(l:List Int):∀n k,k≤YR l n k∧YR l n k≤k+n
 |0,k=>⟨Nat.le_refl _,Nat.le_refl _⟩
 |n+1,k=>by
  unfold YR
  split
  ·omega
  ·have:=zfF l n (k+1);omega
theorem JV(l:List Int) {k:Nat}(h:k≤l.length):k≤onL l k∧onL l k≤l.length:=by
 have:=zfF l (l.length-k) k
 unfold onL;omega
theorem zjm {l:List Int} {k:Nat}(h:k<l.length):onL l k=if yJ (l.getD k 0)then k else onL l (k+1):=by
 unfold onL
 have:l.length-k=(l.length- (k+1))+1:=by omega
 rw[this];rfl
theorem zkP(l:List Int):onL l l.length=l.length:=by unfold onL;rw[Nat.sub_self];rfl
theorem Ql {l:List Int} {k:Nat}(h:k<l.length):elemAt (zx l) k=.int .i32 (l.getD k 0):=by
 rw[zx,zq (fun r=>PV.int .i32 r) l k h,List.getD_eq_getElem?_getD,List.getElem?_eq_getElem h];rfl
theorem Xz {l:List Int}(hr:∀x∈l,zD x) {k:Nat}(h:k<l.length):zD (l.getD k 0):=by
 rw[List.getD_eq_getElem?_getD,List.getElem?_eq_getElem h];exact hr _ (List.getElem_mem _)
theorem zid [Gi] {e:PV}(hT:Zl e)(l:List Int)(hn:l.length<2^31)(hr:∀x∈l,zD x)(f:Nat)(hf:f≤l.length):
  CR Tryz.prog 118 [] [.p e,.p (zh l),.p (.int .i64 f)] [] (is (.p (.int .i64 (Zv l f:Nat)))):=by
 refine walk Tryz.func118 7 [] [] [] ?_
 unfold Zv
 by_cases c0:f=0
 ·subst c0
  simp (maxSteps:=1000000) [go_sem,Tryz.f118]
  exact ret
 ·rw[if_neg c0]
  obtain⟨m,hm⟩:∃m,f-1=m:=⟨_,rfl⟩
  rw[hm]
  have w1:IntKind.i64.wrap ((f:Int)-1)=(m:Int):=zL (by omega) (by omega)
  have hml:m<l.length:=by omega
  simp (maxSteps:=1000000) [go_sem,Tryz.f118,w1,c0]
  refine loop (fun i:Nat=>i≤m∧kI l i=kI l m) (fun i=>[(2,.p (.int .i64 i))]) (fun _=>[]) (fun i=>i) m ⟨Nat.le_refl _,rfl⟩ (fun i hi=>?_)
  obtain⟨i1,i2⟩:=hi
  rw[←i2]
  by_cases d0:i=0
  ·subst d0
   simp (maxSteps:=1000000) [go_sem]
   refine ret (hx:=by simp[go_sem,zd,leA,leT,kI])
  ·obtain⟨j,hj⟩:∃j,i=j+1:=⟨i-1,by omega⟩
   have w2:IntKind.i64.wrap ((i:Int)-1)=(j:Int):=zL (by omega) hj
   have hil:i<l.length:=by omega
   have em:=Ql hil
   have hst:=zdu hT _ (Xz hr hil)
   have hb:kI l i=if yJ (l.getD i 0)then i else kI l j:=by rw[hj];rfl
   have hpos:0<i:=by omega
   generalize l.getD i 0=x at em hst hb
   rw[hb]
   simp (maxSteps:=1000000) [go_sem,hpos,em,hil]
   refine zn hst ?_
   cases yJ x with
   |true=>
    simp (maxSteps:=1000000) [go_sem]
    exact ret
   |false=>
    simp (maxSteps:=1000000) [go_sem,w2]
    exact next j ⟨by omega,rfl⟩ (h3:=by show j<i;omega)
theorem zmV [Gi] {e:PV}(hT:Zl e)(l:List Int)(hn:l.length<2^31)(hr:∀x∈l,zD x)(f:Nat)(hf:f≤l.length):
  CR Tryz.prog 119 [] [.p e,.p (zh l),.p (.int .i64 f)] [] (is (.p (.int .i64 (onL l f:Nat)))):=by
 refine walk Tryz.func119 7 [] [] [] ?_
 simp (maxSteps:=1000000) [go_sem,Tryz.f119]
 refine loop (fun i:Nat=>i≤l.length∧onL l i=onL l f) (fun i=>[(2,.p (.int .i64 i))]) (fun _=>[]) (fun i=>l.length-i) f ⟨hf,rfl⟩ (fun i hi=>?_)
 obtain⟨i1,i2⟩:=hi
 rw[←i2]
 by_cases d0:i<l.length
 ·have w1:IntKind.i64.wrap ((i:Int)+1)=((i+1:Nat):Int):=zT (by omega)
  have em:=Ql d0
  have hst:=zdu hT _ (Xz hr d0)
  have hb:=zjm d0
  generalize l.getD i 0=x at em hst hb
  rw[hb]
  simp (maxSteps:=1000000) [go_sem,em,d0]
  refine zn hst ?_
  cases hs:yJ x with
  |true=>
   simp (maxSteps:=1000000) [go_sem]
   exact ret
  |false=>
   simp (maxSteps:=1000000) [go_sem,w1]
   exact next (i+1) ⟨by omega,rfl⟩ (h3:=by show l.length- (i+1)<l.length-i;omega)
 ·obtain rfl:i=l.length:=by omega
  rw[zkP]
  simp (maxSteps:=1000000) [go_sem]
  exact ret
end Go.Proofs.YthbmelihnabkaaaGreat
end
section
namespace Go.Proofs.YthbmelihnabkaaaGreat
open Go.AM
set_option maxHeartbeats 4000000
set_option maxRecDepth 10000
attribute [local irreducible] za
def uy(l:List Int)(f t:Nat)(ins:List Int):List Int:=qv za (cut l (Zv l f:Nat) (f:Nat)++(ins++cut l (t:Nat) (onL l t:Nat)))
def zR(l:List Int)(f t:Nat)(ins:List Int):List Int:=l.take (Zv l f)++(uy l f t ins++l.drop (onL l t))
def kS(a b c:Nat):PV:=.agg [.int .i64 a,.int .i64 b,.int .i64 c]
theorem jd {a b:List Int}(ha:∀x∈a,zD x)(hb:∀x∈b,zD x):∀x∈a++b,zD x:=fun x hx=>(List.mem_append.1 hx).elim (ha x) (hb x)
theorem jv {a:List Int}(ha:∀x∈a,zD x)(n:Nat):∀x∈a.take n,zD x:=fun x hx=>ha x (List.mem_of_mem_take hx)
theorem jx {a:List Int}(ha:∀x∈a,zD x)(n:Nat):∀x∈a.drop n,zD x:=fun x hx=>ha x (List.mem_of_mem_drop hx)
theorem Y8 [Gi] {e:PV}(hT:Zl e)(l:List Int)(hn:l.length≤65536)(hr:∀x∈l,zD x)(f t:Nat)(hft:f≤t)(ht:t≤l.length)(ins:List Int)(hi:ins.length≤65536)(hri:∀x∈ins,zD x):
  CR Tryz.prog 64 [] [.p e,.p (zh l),.p (.int .i64 f),.p (.int .i64 t),.p (zh ins)] []
   (is (.tup [.p (zh (zR l f t ins)),.p (kS (Zv l f) (onL l t) (Zv l f+(uy l f t ins).length)),.p (.int .i64 0)])):=by
 refine walk Tryz.func64 16 [] [4,6] [] ?_
 have h1:=zid hT l (by omega) hr f (by omega)
 have h2:=zmV hT l (by omega) hr t ht
 have b1:=vq l f
 have b2:=JV l ht
 unfold zR uy
 obtain⟨b,hb⟩:∃b,Zv l f=b:=⟨_,rfl⟩
 obtain⟨o,ho⟩:∃o,onL l t=o:=⟨_,rfl⟩
 rw[hb]at h1 b1⊢
 rw[ho]at h2 b2⊢
 obtain⟨A,hA⟩:∃A,A=cut l (b:Nat) (f:Nat):=⟨_,rfl⟩
 obtain⟨B,hB⟩:∃B,B=cut l (t:Nat) (o:Nat):=⟨_,rfl⟩
 have rA:∀x∈A,zD x:=by rw[hA];exact jv (jx hr _) _
 have rB:∀x∈B,zD x:=by rw[hB];exact jv (jx hr _) _
 have lA:A.length≤65536:=by rw[hA,cut,List.length_take,List.length_drop];omega
 have lB:B.length≤65536:=by rw[hB,cut,List.length_take,List.length_drop];omega
 have j1:=XK [A,ins,B] (by simp) (by simp[Zd];omega)
 have f1:[A,ins,B].flatten=A++(ins++B):=by simp
 rw[f1]at j1
 have rM:=jd rA (jd hri rB)
 have lM:(A++(ins++B)).length<2^20:=by simp only[List.length_append];omega
 have f0:qv za (cut l (b:Nat) (f:Nat)++(ins++cut l (t:Nat) (o:Nat)))=qv za (A++(ins++B)):=by rw[hA,hB]
 rw[f0]
 have jN:=zgg hT (A++(ins++B)) lM rM
 have lX:=uf (A++(ins++B))
 have rX:=kj.rune _ lM rM
 have lM2:(A++(ins++B)).length≤196608:=by simp only[List.length_append];omega
 generalize A++(ins++B)=M at j1 jN lX rX lM rM lM2⊢
 generalize qv za M=X at jN lX rX⊢
 have lP:(l.take b).length≤65536:=by rw[List.length_take];omega
 have lQ:(l.drop o).length≤65536:=by rw[List.length_drop];omega
 have j2:=XK [l.take b,X,l.drop o] (by simp) (by simp[Zd];omega)
 have f2:[l.take b,X,l.drop o].flatten=l.take b++(X++l.drop o):=by simp
 rw[f2]at j2
 have q1:(f:Int)≤t:=by omega
 have q2:(t:Int)≤l.length:=by omega
 have q3:¬(t:Int)<f:=by omega
 have q4:¬(l.length:Int)<t:=by omega
 have q0:¬(f:Int)<0:=by omega
 simp (maxSteps:=1000000) [go_sem,Tryz.f64,q0,q3,q4]
 refine zn h1 ?_
 simp (maxSteps:=1000000) [go_sem]
 refine zn h2 ?_
 simp (maxSteps:=1000000) [go_sem]
 refine⟨⟨b1,by omega⟩,b2,rfl,?_⟩
 rw[←hA,←hB]
 refine kU 120 j1 ?_ (ha':=by simp[go_sem,yO])
 simp (maxSteps:=1000000) [go_sem]
 refine zn jN ?_
 simp (maxSteps:=1000000) [go_sem]
 have k1:cut l 0 (b:Nat)=l.take b:=by simp[cut]
 have k2:cut l (o:Nat) (l.length:Nat)=l.drop o:=by simp[cut,List.take_of_length_le]
 refine⟨by omega,b2.2,rfl,?_⟩
 rw[k1,k2]
 refine kU 120 j2 ?_ (ha':=by simp[go_sem,yO])
 have w1:IntKind.i64.wrap ((b:Int)+X.length)=((b+X.length:Nat):Int):=by rw[wrap64 (by omega) (by omega)];omega
 simp (maxSteps:=1000000) [go_sem,w1]
 exact ret (hx:=by simp[go_sem,zd,leA,leT,leP,kS])
end Go.Proofs.YthbmelihnabkaaaGreat
end
section
namespace Go.Proofs.YthbmelihnabkaaaGreat
open Go.AM
set_option maxHeartbeats 4000000
set_option maxRecDepth 10000
attribute [local irreducible] za
def QO(l s:List Int)(b p:Nat):Nat→Nat→Nat
 |0,m=>m
 |k+1,m=>if p≤k∧b<m∧l.getD k 0=s.getD (m-1) 0 then QO l s b p k (m-1)else m
theorem zig [Gi](l s:List Int)(hl:l.length<2^31)(hs:s.length<2^31)(b o c p:Nat)(ho:o≤l.length)(hc:c≤s.length)(hb:b<2^31)(hp:p<2^31):
  CR Tryz.prog 67 [] [.p (zh l),.p (zh s),.p (kS b o c),.p (.int .i64 p)] [] (is (.p (.int .i64 (QO l s b p o c:Nat)))):=by
 refine walk Tryz.func67 11 [] [1] [] ?_
 simp (maxSteps:=1000000) [go_sem,Tryz.f67,kS]
 refine loop (fun i:Nat×Nat=>i.1≤l.length∧i.2≤s.length∧QO l s b p i.1 i.2=QO l s b p o c) (fun i=>[(9,.p (.int .i64 i.1)),(10,.p (.int .i64 i.2))]) (fun _=>[]) (fun i=>i.1) (o,c) ⟨ho,hc,rfl⟩ (fun i hi=>?_)
 obtain⟨k,m⟩:=i
 obtain⟨i1,i2,i3⟩:=hi
 simp only at i1 i2 i3
 rw[←i3]
 by_cases d1:p<k
 ·obtain⟨k',hk⟩:∃k',k=k'+1:=⟨k-1,by omega⟩
  by_cases d2:b<m
  ·obtain⟨m',hm⟩:∃m',m=m'+1:=⟨m-1,by omega⟩
   have w1:IntKind.i64.wrap ((k:Int)-1)=(k':Int):=zL (by omega) hk
   have w2:IntKind.i64.wrap ((m:Int)-1)=(m':Int):=zL (by omega) hm
   have a1:k'<l.length:=by omega
   have a2:m'<s.length:=by omega
   have e1:=Ql a1
   have e2:=Ql a2
   have hst:QO l s b p k m=if l.getD k' 0=s.getD m' 0 then QO l s b p k' m' else m:=by
    rw[hk,hm]
    unfold QO
    have e3:m'+1-1=m':=rfl
    rw[e3]
    by_cases q:l.getD k' 0=s.getD m' 0
    ·rw[if_pos ⟨by omega,by omega,q⟩,if_pos q]
     cases k'<;>rfl
    ·rw[if_neg (fun h=>q h.2.2),if_neg q]
   generalize l.getD k' 0=x at e1 hst
   generalize s.getD m' 0=y at e2 hst
   rw[hst]
   by_cases q:x=y
   ·simp (maxSteps:=1000000) [go_sem,d1,d2,w1,w2,e1,e2,a1,a2,q]
    exact next (k',m') ⟨by show k'≤_;omega,by show m'≤_;omega,rfl⟩ (h3:=by show k'<k;omega)
   ·simp (maxSteps:=1000000) [go_sem,d1,d2,w1,w2,e1,e2,a1,a2,q]
    exact ret
  ·have hst:QO l s b p k m=m:=by
    rw[hk];unfold QO;rw[if_neg (fun h=>d2 h.2.1)]
   rw[hst]
   obtain⟨x1,y1,z1⟩:=zY s (IntKind.i64.wrap ((m:Int)-1)).toNat
   obtain⟨x2,y2,z2⟩:=zY l (IntKind.i64.wrap ((k:Int)-1)).toNat
   by_cases z3:x2=x1
   ·simp (maxSteps:=1000000) [go_sem,d1,d2,z1,z2,z3]
    exact ret
   ·simp (maxSteps:=1000000) [go_sem,d1,d2,z1,z2,z3]
    exact ret
 ·have hst:QO l s b p k m=m:=by
   cases k with
   |zero=>rfl
   |succ k=>unfold QO;rw[if_neg (fun h=>d1 (by omega))]
  rw[hst]
  obtain⟨x1,y1,z1⟩:=zY s (IntKind.i64.wrap ((m:Int)-1)).toNat
  obtain⟨x2,y2,z2⟩:=zY l (IntKind.i64.wrap ((k:Int)-1)).toNat
  by_cases z3:x2=x1
  ·simp (maxSteps:=1000000) [go_sem,d1,z1,z2,z3]
   exact ret
  ·simp (maxSteps:=1000000) [go_sem,d1,z1,z2,z3]
   exact ret
def Zo(b:Nat)(x y:List Int):PV:=.agg [.int .i64 b,zh x,zh y]
def zjX:OT:=.now 0 2 (.now 2 0 (.now 3 0 (.now 4 0 (.now 5 0 (.now 6 0 (.now 7 0 (.now 9 2 (.now 10 2 (.now 12 2 (.mk [(1,.mk [(8,.now 11 0 (.now 13 0 (.now 14 0 (.mk [(15,.now 16 0 (.mk [(17,.mk [])]))])))),(11,.mk [(8,.now 13 0 (.now 14 0 (.mk [(15,.now 16 0 (.mk [(17,.mk [])]))]))),(13,.mk [(8,.now 14 0 (.mk [(15,.now 16 0 (.mk [(17,.mk [])]))])),(14,.mk [(8,.mk [(15,.now 16 0 (.mk [(17,.mk [])]))])])])]),(13,.mk [(8,.now 11 0 (.now 14 0 (.mk [(15,.now 16 0 (.mk [(17,.mk [])]))]))),(11,.mk [(8,.now 14 0 (.mk [(15,.now 16 0 (.mk [(17,.mk [])]))])),(14,.mk [(8,.mk [(15,.now 16 0 (.mk [(17,.mk [])]))])])])])]),(8,.now 11 0 (.now 13 0 (.now 14 0 (.mk [(1,.mk [(15,.now 16 0 (.mk [(17,.mk [])]))]),(15,.now 1 0 (.now 16 0 (.mk [(17,.mk [])])))])))),(11,.mk [(1,.mk [(8,.now 13 0 (.now 14 0 (.mk [(15,.now 16 0 (.mk [(17,.mk [])]))]))),(13,.mk [(8,.now 14 0 (.mk [(15,.now 16 0 (.mk [(17,.mk [])]))])),(14,.mk [(8,.mk [(15,.now 16 0 (.mk [(17,.mk [])]))])])])]),(8,.now 13 0 (.now 14 0 (.mk [(1,.mk [(15,.now 16 0 (.mk [(17,.mk [])]))]),(15,.now 1 0 (.now 16 0 (.mk [(17,.mk [])])))]))),(13,.mk [(1,.mk [(8,.now 14 0 (.mk [(15,.now 16 0 (.mk [(17,.mk [])]))])),(14,.mk [(8,.mk [(15,.now 16 0 (.mk [(17,.mk [])]))])])]),(8,.now 14 0 (.mk [(1,.mk [(15,.now 16 0 (.mk [(17,.mk [])]))]),(15,.now 1 0 (.now 16 0 (.mk [(17,.mk [])])))])),(14,.mk [(1,.mk [(8,.mk [(15,.now 16 0 (.mk [(17,.mk [])]))])]),(8,.mk [(1,.mk [(15,.now 16 0 (.mk [(17,.mk [])]))]),(15,.now 1 0 (.now 16 0 (.mk [(17,.mk [])])))])])])]),(13,.mk [(1,.mk [(8,.now 11 0 (.now 14 0 (.mk [(15,.now 16 0 (.mk [(17,.mk [])]))]))),(11,.mk [(8,.now 14 0 (.mk [(15,.now 16 0 (.mk [(17,.mk [])]))])),(14,.mk [(8,.mk [(15,.now 16 0 (.mk [(17,.mk [])]))])])])]),(8,.now 11 0 (.now 14 0 (.mk [(1,.mk [(15,.now 16 0 (.mk [(17,.mk [])]))]),(15,.now 1 0 (.now 16 0 (.mk [(17,.mk [])])))]))),(11,.mk [(1,.mk [(8,.now 14 0 (.mk [(15,.now 16 0 (.mk [(17,.mk [])]))])),(14,.mk [(8,.mk [(15,.now 16 0 (.mk [(17,.mk [])]))])])]),(8,.now 14 0 (.mk [(1,.mk [(15,.now 16 0 (.mk [(17,.mk [])]))]),(15,.now 1 0 (.now 16 0 (.mk [(17,.mk [])])))])),(14,.mk [(1,.mk [(8,.mk [(15,.now 16 0 (.mk [(17,.mk [])]))])]),(8,.mk [(1,.mk [(15,.now 16 0 (.mk [(17,.mk [])]))]),(15,.now 1 0 (.now 16 0 (.mk [(17,.mk [])])))])])])])]))))))))))
theorem zet [Gi](l s:List Int)(hl:l.length<2^31)(hs:s.length<2^31)(b o c:Nat)(h1:b≤o)(h2:b≤c)(ho:o≤l.length)(hc:c≤s.length):
  CR Tryz.prog 68 [] [.p (zh l),.p (zh s),.p (kS b o c)] [] (is (.p (Zo b (cut l b o) (cut s b c)))):=by
 refine walk Tryz.func68 7 [] [200001] [] ?_
 have q1:(cut l (b:Nat) (o:Nat)).length*4≤140737488355328:=by
  unfold cut;rw[List.length_take,List.length_drop];omega
 have q2:(cut s (b:Nat) (c:Nat)).length*4≤140737488355328:=by
  unfold cut;rw[List.length_take,List.length_drop];omega
 simp (maxSteps:=1000000) [go_sem,Tryz.f68,kS]
 refine zel zjX {n:=24,nv:=7,vs:=[(0,.p (.sl 1 (zx l))),(1,.p (.sl 1 (zx s))),(2,.p (.agg [.int .i64 b,.int .i64 o,.int .i64 c])),(5,.lp [5] 0),(6,.lp [6] 0)],ts:=[],rs:=[([5],[.p (.int .i64 b),.p (.int .i64 o),.p (.int .i64 c)]),([6],[.p (.int .i64 b),.p (.sl 1 (zx (cut l b o))),.p (.sl 1 (zx (cut s b c)))])]} (by kernel_rfl) ?_ ?_
 ·simp (maxSteps:=1000000) [go_sem,zjX,LeS,leV,leR,leA,leL,q1,q2,h1,h2,ho,hc]
 ·simp (maxSteps:=1000000) [go_sem]
  exact ret (hx:=by simp[go_sem,zd,leA,leT,Zo])
end Go.Proofs.YthbmelihnabkaaaGreat
end
