/- A part of the proof of this seat's statements, by an abstract machine: what each operation does to values, and what the law's functions compute. Conditions: as each law says. -/
import Derived.Test.YthbmelihnabkaaaGreatW43
import Derived.Test.YthbmelihnabkaaaGreatW40
section
namespace Go.Proofs.YthbmelihnabkaaaGreat
open Go.AM
set_option maxHeartbeats 4000000
set_option maxRecDepth 10000
attribute [local irreducible] za
def xm(d:Nat):List (Tok×Tok):=[([0],[d,0]),([0,1],[d,0,1]),([0,2],[d,0,2])]
attribute [go_sem] xm zJ
theorem Qm(l:List Int):(qN za l).length≤3*l.length:=by
 have h2:=V0 (kD za) (mkD za) (ZO za l) []
 have h3:(ZO za l).length=(ZV za l).length:=k9 _ _
 have h4:=Ke l
 have h5:(qN za l).length=((ZO za l).foldl (yc (kD za) (mkD za)) []).length:=rfl
 simp only[List.length_nil]at h2
 omega
theorem zlQ [Gi](l:List Int)(n:Nat)(hn:n<2^31):CR Tryz.prog 8 [] [.p (zh l),.p (.int .i64 n)] [] (is (.p (zh (l.take n)))):=zm2 l n hn
theorem Ys [Gi]:CR Tryz.prog 10 [] [.p (zJ za)] [] (fun x rs=>rs=[]∧∃e,x=.p e∧qB e):=zhT
theorem zk7 [Gi] {e:PV}(hT:qB e)(l:List Int)(hn:l.length≤1000)(hr:∀x∈l,zu x):CR Tryz.prog 17 [] [.p e,.p (zh (qN za l))] [] (zoc e (qn za (qN za l))):=by
 have h:=Qm l
 have:=zk1 hT (qN za l) (by omega) (kd.rune l (by omega) hr) (by rw[zax];omega)
 rwa[zax]at this
theorem lnC(l:List Int)(hn:l.length≤1000)(hr:∀x∈l,zu x):Ln (qN za l) (qn za (qN za l)):=
 ⟨rfl,by have:=Qm l;omega,kd.rune l (by omega) hr⟩
theorem Qt [Gi] {S:St} {dst:Option Nat} {x:Operand} {args:Array Operand} {argTypes:Array TypeId} {tt:TypeId} {pos:String} {after:Array Edge} {guard:Option (Nat×Bool)} {r:AV} {c:Option Bool} {K:St→Prop}(f:FuncId) {as1:List AV}
  (hC:CR Tryz.prog f [] as1 [] (is r)) (hk:dOK S dst∧K (S.qJ dst (gv c r))) (hr:Wr r=true:=by rfl) (hf:zfk (S.ev x)=some f:=by rfl) (hb:((Tryz.prog.funcs[f]?).map (·.body.isSome))=some true∧((Tryz.prog.funcs[f]?).map (·.name))≠some "runtime.NumGoroutine" :=by exact⟨by kernel_rfl,by decide+kernel⟩)
  (ha:(Z9 S [] args.toList).1:=by simp[go_sem]) (ha':(Z9 S [] args.toList).2=as1:=by simp[go_sem]):J8 Tryz.prog S ⟨dst,.call ⟨.value x,args,argTypes⟩,tt,pos,after,guard⟩ c K:=
 QO r hr rfl (fun _=>jP f hC hf hb ⟨ha,ha'⟩) hk
theorem XG {L:List (List Int)}(h:ClL L) {a:Int}(ha:a≤(plc L (kf L a):Int)):cnt (pl L) a=kf L a:=by
 have q3:=vf L a
 by_cases c0:a<0
 ·rw[zbl L c0]
  exact wV (Nat.zero_le _) (fun i _ hi=>absurd hi (by omega)) (fun i _ _=>by omega)
 ·have q1:=uX L a (by omega)
  have e:a=(plc L (kf L a):Int):=by omega
  have:=Vc h q3
  rw[←e]at this
  exact this
theorem zd6 {L:List (List Int)}(h:ClL L) {a:Int}(ha:(plc L (kf L a):Int)<a)(hk:kf L a<L.length):cnt (pl L) a=kf L a+1:=by
 have q2:=YC L a hk
 refine wV (by rw[qI];omega) (fun i hi hik=>?_) (fun i hi hik=>?_)
 ·rw[Z1];have:=QU h (i:=i) (j:=kf L a) (by omega) (by omega);omega
 ·rw[Z1];rw[qI]at hi;have:=QU h (i:=kf L a+1) (j:=i) hik (by omega);omega
theorem zlz {L:List (List Int)}(h:ClL L) {a:Int}(ha:(Zz L:Int)≤a):cnt (pl L) a=L.length:=by
 refine wV (by rw[qI];omega) (fun i hi _=>?_) (fun i hi hik=>?_)
 ·rw[Z1];rw[qI]at hi;have:=Zx h hi (Nat.le_refl _);rw[qP]at this;omega
 ·rw[qI]at hi;omega
theorem zmf {L:List (List Int)}(h:ClL L) {i:Nat}(hi:(i:Int)<Zz L):cnt (pl L) ((i:Int)+1)=cnt (pl L) i+(if isB L i=true then 1 else 0):=by
 have q0:=Vw h hi (by omega)
 have q1:=uX L i (by omega)
 have q2:=YC L i q0
 by_cases c:isB L i=true
 ·have e:(plc L (kf L i):Int)=i:=of_decide_eq_true c
  rw[if_pos c,XG h (a:=(i:Int)) (by omega)]
  refine wV (by rw[qI];omega) (fun j hj hjk=>?_) (fun j hj hjk=>?_)
  ·rw[Z1];have:=QU h (i:=j) (j:=kf L i) (by omega) (by omega);omega
  ·rw[Z1];rw[qI]at hj;have:=QU h (i:=kf L i+1) (j:=j) hjk (by omega);omega
 ·have e:¬(plc L (kf L i):Int)=i:=fun e=>c (decide_eq_true e)
  rw[if_neg c,zd6 h (a:=(i:Int)) (by omega) q0]
  refine wV (by rw[qI];omega) (fun j hj hjk=>?_) (fun j hj hjk=>?_)
  ·rw[Z1];have:=QU h (i:=j) (j:=kf L i) (by omega) (by omega);omega
  ·rw[Z1];rw[qI]at hj;have:=QU h (i:=kf L i+1) (j:=j) hjk (by omega);omega
end Go.Proofs.YthbmelihnabkaaaGreat
end
section
namespace Go.Proofs.YthbmelihnabkaaaGreat
open Go.AM
set_option maxHeartbeats 4000000
set_option maxRecDepth 100000
def Y0(r:Int):Bool:=za.any fun w=>decide (w.k=2)&&decide (w.b=r)&&!decide (r=0)&&!yk za w.f
theorem zji:(M0.2.all fun r=>M0.1.any fun c=>decide (c.1.b=r))=true∧(M0.1.all fun c=>M0.2.contains c.1.b)=true:=by decide+kernel
theorem zfh:(jq.all fun w=>decide (Za jq w.f=none∨Za jq w.f=some (w.a,w.b)))=true:=by decide+kernel
theorem zfC:(jq.all fun w=>decide (w.b=0∨Za jq w.f≠none))=true:=by decide+kernel
theorem zkm(r:Int):(T0.flg (rn r)).o=decide (aL za 3 r=1):=by
 by_cases h:0≤r∧r≤1114111
 ·have e:(T0.flg (rn r)).o=qR (qg za 3) r:=by
   rw[uU (by omega)];exact congrArg (qR (qg za 3)) (Int.toNat_of_nonneg h.1)
  rw[e,uq _ _ _ h]
  unfold qg
  rw[zl9 _ _ (jy zox).rise]
  unfold qR spA
  cases atL (zP za 3) r with
  |none=>rfl
  |some s=>simp only;rfl
 ·rw[xz (by omega),UP _ _ _ h,Z0.f];rfl
attribute [local irreducible] za
theorem zjk {c:Zd×Int}(h:c∈Ks za):Y0 c.1.b=true:=by
 unfold Ks at h
 obtain⟨w,hw,hc⟩:=List.mem_filterMap.1 h
 unfold wI at hc
 split at hc
 ·rename_i q
  injection hc with hc
  subst hc
  unfold Y0
  refine List.any_eq_true.2 ⟨w,hw,?_⟩
  simp[q.1,q.2.1,q.2.2.2]
 ·cases hc
theorem zks {r:Int}(h:Y0 r=true):∃c∈Ks za,c.1.b=r:=by
 obtain⟨w,hw,q⟩:=List.any_eq_true.1 h
 simp only[Bool.and_eq_true,decide_eq_true_eq,Bool.not_eq_true',decide_eq_false_iff_not]at q
 obtain⟨⟨⟨q1,q2⟩,q3⟩,q4⟩:=q
 have m:w∈jq:=List.mem_filter.2 ⟨hw,by simp[q1]⟩
 have f1:=List.all_eq_true.1 zfh w m
 have f2:=List.all_eq_true.1 zfC w m
 rw[Kh]at f1 f2
 simp only[decide_eq_true_eq]at f1 f2
 have h0:w.b≠0:=by omega
 refine⟨(⟨w.a,w.b⟩,w.f),List.mem_filterMap.2 ⟨w,hw,?_⟩,q2⟩
 unfold wI
 have f3:Za za w.f=some (w.a,w.b):=by
  rcases f1 with f1|f1
  ·rcases f2 with f2|f2
   ·exact absurd f2 h0
   ·exact absurd f1 f2
  ·exact f1
 rw[if_pos ⟨q1,h0,f3,q4⟩]
theorem zk0(r:Int):decide (r∈M0.2)=Y0 r:=by
 obtain⟨h1,h2⟩:=zji
 rw[XF]at h1 h2
 cases hs:Y0 r with
 |true=>
  obtain⟨c,hc,rfl⟩:=zks hs
  have:=List.all_eq_true.1 h2 c hc
  simpa using this
 |false=>
  refine decide_eq_false fun hm=>?_
  obtain⟨c,hc,e⟩:=List.any_eq_true.1 (List.all_eq_true.1 h1 r hm)
  have:=zjk hc
  rw[of_decide_eq_true e,hs]at this
  cases this
theorem zlg [Gi] {e:PV}(hT:qB e)(r:Int)(hr:zu r):CR Tryz.prog 51 [] [.p e,.p (.int .i32 r)] [] (is (.p (.bool (yk za r)))):=by
 obtain⟨c,b,j,f,p,h,rfl⟩:=hT
 have w1:IntKind.i64.wrap r=r:=wrap64 (by have:=hr.1;omega) (by have:=hr.2;omega)
 have hpr:=vI h (ckP M0.1) (cxP M0.1) (ZD M0.2) (qd M0.2) Z0 hr
 have hfl:=VU h.f Z0.f r
 have hcl:=Z4 h (ckP M0.1) (cxP M0.1) (ZD M0.2) (qd M0.2) Z0 hr
 have hw:=zfS r
 have ho:=zkm r
 rw[K0]at hcl
 refine zn mixed 8 [] Tryz.func51 rfl (by kernel_rfl) rfl (by simp) (by simp) ?_
 simp (maxSteps:=1000000) [go_sem,Tryz.f51,zF]
 refine zk hpr ?_ (ha':=by simp[go_sem,zF])
 have hd:yk za r=(match Za za r with
  |none=>false
  |some p=>decide (p.2=0) || decide (aL za 3 r=1) ||!decide (aL za 1 r=0) ||!decide (aL za 1 p.1=0)):=rfl
 rw[hd]
 cases hp:Za za r with
 |none=>
  rw[hp]at hw
  simp only at hw
  simp only[hw,Va]
  simp (maxSteps:=1000000) [go_sem]
  exact ret
 |some q=>
  have hb:=VF Zr hp
  have h0:¬(q.1=0∧q.2=0):=by
   intro h0
   unfold Za at hp
   cases hr:rowAt za 2 r with
   |none=>rw[hr]at hp;simp at hp
   |some x=>
    rw[hr]at hp
    simp only at hp
    split at hp
    ·simp at hp
    ·rename_i hx
     have:=Option.some.inj hp
     rw[←this]at h0
     exact hx h0
  rw[hp]at hw
  simp only at hw
  obtain⟨x,y⟩:=q
  simp only at h0 hb
  have hx:=Z4 h (ckP M0.1) (cxP M0.1) (ZD M0.2) (qd M0.2) Z0 (i:=x) (by omega)
  rw[K0]at hx
  have hz:(!decide (x=0) ||!decide (y=0))=true:=by
   simp only[Bool.or_eq_true,Bool.not_eq_true',decide_eq_false_iff_not];omega
  simp only[hw,Va,hz]
  by_cases c0:y=0
  ·simp (maxSteps:=1000000) [go_sem,c0]
   exact ret
  ·simp (maxSteps:=1000000) [go_sem,c0,w1]
   refine zk hfl ?_
   generalize T0.flg (rn r)=fl at ho
   by_cases c1:aL za 3 r=1
   ·rw[decide_eq_true c1]at ho
    simp (maxSteps:=1000000) [go_sem,qv,ho,c1]
    exact ret
   ·rw[decide_eq_false c1]at ho
    simp (maxSteps:=1000000) [go_sem,qv,ho,c1]
    refine zk hcl ?_ (ha':=by simp[go_sem,zF])
    by_cases c2:aL za 1 r=0
    ·simp (maxSteps:=1000000) [go_sem,c2]
     refine zk hx ?_ (ha':=by simp[go_sem,zF])
     simp (maxSteps:=1000000) [go_sem]
     exact ret
    ·simp (maxSteps:=1000000) [go_sem,c2]
     exact ret
def qcD(r:Int):Int:=if yk za r then 1 else if Y0 r || zcT r then 2 else 0
theorem zfq [Gi] {e:PV}(hT:qB e)(r:Int)(hr:zu r):CR Tryz.prog 198 [] [.p e,.p (.int .i32 r)] [] (is (.p (.int .i64 (qcD r)))):=by
 refine walk Tryz.func198 6 [9] [] [] ?_
 have h1:=zlg hT r hr
 have h2:CR Tryz.prog 210 [] [.p e,.p (.int .i32 r)] [] (is (.p (.bool (Y0 r)))):=by
  rw[←zk0]
  obtain⟨c,b,j,f,p,h,rfl⟩:=hT
  exact zhF c b j f p _ _ M0.2 r
 have h3:=zmm r
 unfold qcD
 simp (maxSteps:=1000000) [go_sem,Tryz.f198]
 refine zk h1 ?_
 cases yk za r with
 |true=>
  simp (maxSteps:=1000000) [go_sem]
  exact ret
 |false=>
  simp (maxSteps:=1000000) [go_sem]
  refine zk h2 ?_
  cases Y0 r with
  |true=>
   simp (maxSteps:=1000000) [go_sem]
   exact ret
  |false=>
   simp (maxSteps:=1000000) [go_sem]
   refine zk h3 ?_
   cases zcT r with
   |true=>
    simp (maxSteps:=1000000) [go_sem]
    exact ret
   |false=>
    simp (maxSteps:=1000000) [go_sem]
    exact ret
end Go.Proofs.YthbmelihnabkaaaGreat
end
section
namespace Go.Proofs.YthbmelihnabkaaaGreat
open Go.AM
set_option maxHeartbeats 4000000
set_option maxRecDepth 10000
attribute [local irreducible] za
theorem zja [Gi] {e:PV}(hT:qB e)(r:Int)(hr:zu r):CR Tryz.prog 197 [] [.p e,.p (.int .i32 r)] [] (is (.p (zh (z6 za 8 r)))):=by
 rw[←xO]
 obtain⟨c,b,j,f,p,h,rfl⟩:=hT
 have ht:=take_nil h Z0 UJ (ckP M0.1) (cxP M0.1) (ZD M0.2) (qd M0.2) 8 (by omega) r hr
 refine walk Tryz.func197 6 [] [] [] ?_
 simp (maxSteps:=1000000) [go_sem,Tryz.f197,zF]
 refine call [([0],[5]),([901],[901]),([0,1],[902])] ht ?_ (hr:=by simp[go_sem,zF])
 rintro _ _ ⟨rfl,tk,htk,rfl⟩
 rcases htk with rfl|rfl
 ·simp (maxSteps:=1000000) [go_sem,qy,zF]
  exact ret
 ·simp (maxSteps:=1000000) [go_sem,qy,zF]
  exact ret
theorem Vq(r:Int):z6 za 8 r≠ []:=by rw[←xO];exact VB T0 8 r
theorem zoe(r:Int)(hr:zu r):∀x∈z6 za 8 r,zu x:=by rw[←xO];exact wF UJ 8 r hr
def xD(r:Int):Int:=(z6 za 8 r).headD 0
theorem U5 {r:Int}(hr:zu r):zu (xD r):=by
 have h1:=Vq r
 have h2:=zoe r hr
 unfold xD
 cases h:z6 za 8 r with
 |nil=>exact absurd h h1
 |cons x l=>rw[h]at h2;exact h2 x (by simp)
def xl(r:Int):Bool:=decide (aL za 1 r=0)&&decide (qcD r=0)&&decide (aL za 1 (xD r)=0)&&decide (qcD (xD r)=0)
def zn7(r y:Int)(i:Nat):Prop:=i≤2∧(1≤i→aL za 1 r=0∧qcD r=0)∧(2≤i→aL za 1 y=0∧qcD y=0)
theorem zb9 [Gi] {e:PV}(hT:qB e)(r:Int)(hr:zu r):CR Tryz.prog 165 [] [.p e,.p (.int .i32 r)] [] (is (.p (.bool (xl r)))):=by
 refine walk Tryz.func165 7 [13,14] [] [] ?_
 have hf:=zja hT r hr
 have hr2:=U5 hr
 have hc:∀x,zu x→CR Tryz.prog 105 [] [.p e,.p (.int .i32 x)] [] (is (.p (.int .i64 (aL za 1 x)))):=fun x hx=>by
  obtain⟨c,b,j,f,p,h,rfl⟩:=hT
  have:=Z4 h (ckP M0.1) (cxP M0.1) (ZD M0.2) (qd M0.2) Z0 hx
  rw[K0]at this
  exact this
 have hq:=fun x hx=>zfq hT x hx
 have hc1:=hc r hr
 have hc2:=hc _ hr2
 have hq1:=hq r hr
 have hq2:=hq _ hr2
 unfold xl
 have h0:=Vq r
 obtain⟨y,l,hy⟩:∃y l,z6 za 8 r=y::l:=by
  cases h:z6 za 8 r with
  |nil=>exact absurd h h0
  |cons x l=>exact⟨_,_,rfl⟩
 have hfd:xD r=y:=by unfold xD;rw[hy];rfl
 rw[hfd]at hc2 hq2⊢
 rw[hy]at hf
 simp (maxSteps:=1000000) [go_sem,Tryz.f165]
 refine zk hf ?_
 have em:elemAt (PV.int .i32 y::l.map fun r=>PV.int .i32 r) 0=.int .i32 y:=rfl
 simp (maxSteps:=1000000) [go_sem,zr,em]
 refine loop (zn7 r y) (fun i:Nat=>[(14,.p (.int .i64 i)),(6,.zU)]) (fun _=>[]) (fun i=>2-i) 0 ⟨by omega,by omega,by omega⟩ (fun i hi=>?_)
 obtain⟨i1,i2,i3⟩:=hi
 have hcase:i=0∨i=1∨i=2:=by omega
 rcases hcase with rfl|rfl|rfl
 ·simp (maxSteps:=1000000) [go_sem]
  refine zk hc1 ?_
  by_cases d1:aL za 1 r=0
  ·simp (maxSteps:=1000000) [go_sem,d1]
   refine zk hq1 ?_
   by_cases d2:qcD r=0
   ·simp (maxSteps:=1000000) [go_sem,d2]
    have w:IntKind.i64.wrap 1=1:=wrap64 (by omega) (by omega)
    exact next 1 ⟨by omega,fun _=>⟨d1,d2⟩,fun h=>by omega⟩ (h3:=by decide) (h2:=by simp[go_sem,LeS,leV,leR,leA,w])
   ·simp (maxSteps:=1000000) [go_sem,d2]
    exact ret
  ·simp (maxSteps:=1000000) [go_sem,d1]
   exact ret
 ·simp (maxSteps:=1000000) [go_sem]
  refine zk hc2 ?_
  by_cases d1:aL za 1 y=0
  ·simp (maxSteps:=1000000) [go_sem,d1]
   refine zk hq2 ?_
   by_cases d2:qcD y=0
   ·simp (maxSteps:=1000000) [go_sem,d2]
    have w:IntKind.i64.wrap 2=2:=wrap64 (by omega) (by omega)
    exact next 2 ⟨by omega,fun _=>i2 (by omega),fun _=>⟨d1,d2⟩⟩ (h3:=by decide) (h2:=by simp[go_sem,LeS,leV,leR,leA,w])
   ·simp (maxSteps:=1000000) [go_sem,d2]
    exact ret
  ·simp (maxSteps:=1000000) [go_sem,d1]
   exact ret
 ·simp (maxSteps:=1000000) [go_sem,i2,i3]
  exact ret
end Go.Proofs.YthbmelihnabkaaaGreat
end
section
namespace Go.Proofs.YthbmelihnabkaaaGreat
open Go.AM
set_option maxHeartbeats 4000000
set_option maxRecDepth 10000
attribute [local irreducible] za
def ym(l:List Int):Nat→Nat
 |0=>0
 |n+1=>if xl (l.getD (n+1) 0)then n+1 else ym l n
def ZM(l:List Int)(f:Nat):Nat:=if f=0 then 0 else ym l (f-1)
def zkd(l:List Int):Nat→Nat→Nat
 |0,k=>k
 |n+1,k=>if xl (l.getD k 0)then k else zkd l n (k+1)
def onL(l:List Int)(k:Nat):Nat:=zkd l (l.length-k) k
theorem XY(l:List Int):∀n,ym l n≤n
 |0=>Nat.le_refl _
 |n+1=>by
  unfold ym
  split
  ·exact Nat.le_refl _
  ·have:=XY l n;omega
theorem vW(l:List Int)(f:Nat):ZM l f≤f:=by
 have:=XY l (f-1)
 unfold ZM;split<;>omega
theorem zgs(l:List Int):∀n k,k≤zkd l n k∧zkd l n k≤k+n
 |0,k=>⟨Nat.le_refl _,Nat.le_refl _⟩
 |n+1,k=>by
  unfold zkd
  split
  ·omega
  ·have:=zgs l n (k+1);omega
theorem K9(l:List Int) {k:Nat}(h:k≤l.length):k≤onL l k∧onL l k≤l.length:=by
 have:=zgs l (l.length-k) k
 unfold onL;omega
theorem zcd {l:List Int} {k:Nat}(h:k<l.length):onL l k=if xl (l.getD k 0)then k else onL l (k+1):=by
 unfold onL
 have:l.length-k=(l.length- (k+1))+1:=by omega
 rw[this];rfl
theorem zge(l:List Int):onL l l.length=l.length:=by unfold onL;rw[Nat.sub_self];rfl
theorem Qj {l:List Int} {k:Nat}(h:k<l.length):elemAt (zr l) k=.int .i32 (l.getD k 0):=by
 rw[zr,zt (fun r=>PV.int .i32 r) l k h,List.getD_eq_getElem?_getD,List.getElem?_eq_getElem h];rfl
theorem uK {l:List Int}(hr:∀x∈l,zu x) {k:Nat}(h:k<l.length):zu (l.getD k 0):=by
 rw[List.getD_eq_getElem?_getD,List.getElem?_eq_getElem h];exact hr _ (List.getElem_mem _)
theorem zki [Gi] {e:PV}(hT:qB e)(l:List Int)(hn:l.length<2^31)(hr:∀x∈l,zu x)(f:Nat)(hf:f≤l.length):
  CR Tryz.prog 118 [] [.p e,.p (zh l),.p (.int .i64 f)] [] (is (.p (.int .i64 (ZM l f:Nat)))):=by
 refine walk Tryz.func118 7 [] [] [] ?_
 unfold ZM
 by_cases c0:f=0
 ·subst c0
  simp (maxSteps:=1000000) [go_sem,Tryz.f118]
  exact ret
 ·rw[if_neg c0]
  obtain⟨m,hm⟩:∃m,f-1=m:=⟨_,rfl⟩
  rw[hm]
  have w1:IntKind.i64.wrap ((f:Int)-1)=(m:Int):=zq (by omega) (by omega)
  have hml:m<l.length:=by omega
  simp (maxSteps:=1000000) [go_sem,Tryz.f118,w1,c0]
  refine loop (fun i:Nat=>i≤m∧ym l i=ym l m) (fun i=>[(2,.p (.int .i64 i))]) (fun _=>[]) (fun i=>i) m ⟨Nat.le_refl _,rfl⟩ (fun i hi=>?_)
  obtain⟨i1,i2⟩:=hi
  rw[←i2]
  by_cases d0:i=0
  ·subst d0
   simp (maxSteps:=1000000) [go_sem]
   refine ret (hx:=by simp[go_sem,zd,leA,leT,ym])
  ·obtain⟨j,hj⟩:∃j,i=j+1:=⟨i-1,by omega⟩
   have w2:IntKind.i64.wrap ((i:Int)-1)=(j:Int):=zq (by omega) hj
   have hil:i<l.length:=by omega
   have em:=Qj hil
   have hst:=zb9 hT _ (uK hr hil)
   have hb:ym l i=if xl (l.getD i 0)then i else ym l j:=by rw[hj];rfl
   have hpos:0<i:=by omega
   generalize l.getD i 0=x at em hst hb
   rw[hb]
   simp (maxSteps:=1000000) [go_sem,hpos,em,hil]
   refine zk hst ?_
   cases xl x with
   |true=>
    simp (maxSteps:=1000000) [go_sem]
    exact ret
   |false=>
    simp (maxSteps:=1000000) [go_sem,w2]
    exact next j ⟨by omega,rfl⟩ (h3:=by show j<i;omega)
theorem zm5 [Gi] {e:PV}(hT:qB e)(l:List Int)(hn:l.length<2^31)(hr:∀x∈l,zu x)(f:Nat)(hf:f≤l.length):
  CR Tryz.prog 119 [] [.p e,.p (zh l),.p (.int .i64 f)] [] (is (.p (.int .i64 (onL l f:Nat)))):=by
 refine walk Tryz.func119 7 [] [] [] ?_
 simp (maxSteps:=1000000) [go_sem,Tryz.f119]
 refine loop (fun i:Nat=>i≤l.length∧onL l i=onL l f) (fun i=>[(2,.p (.int .i64 i))]) (fun _=>[]) (fun i=>l.length-i) f ⟨hf,rfl⟩ (fun i hi=>?_)
 obtain⟨i1,i2⟩:=hi
 rw[←i2]
 by_cases d0:i<l.length
 ·have w1:IntKind.i64.wrap ((i:Int)+1)=((i+1:Nat):Int):=zN (by omega)
  have em:=Qj d0
  have hst:=zb9 hT _ (uK hr d0)
  have hb:=zcd d0
  generalize l.getD i 0=x at em hst hb
  rw[hb]
  simp (maxSteps:=1000000) [go_sem,em,d0]
  refine zk hst ?_
  cases hs:xl x with
  |true=>
   simp (maxSteps:=1000000) [go_sem]
   exact ret
  |false=>
   simp (maxSteps:=1000000) [go_sem,w1]
   exact next (i+1) ⟨by omega,rfl⟩ (h3:=by show l.length- (i+1)<l.length-i;omega)
 ·obtain rfl:i=l.length:=by omega
  rw[zge]
  simp (maxSteps:=1000000) [go_sem]
  exact ret
end Go.Proofs.YthbmelihnabkaaaGreat
end
section
namespace Go.Proofs.YthbmelihnabkaaaGreat
open Go.AM
set_option maxHeartbeats 4000000
set_option maxRecDepth 10000
attribute [local irreducible] za
def vE(l:List Int)(f t:Nat)(ins:List Int):List Int:=qN za (cut l (ZM l f:Nat) (f:Nat)++(ins++cut l (t:Nat) (onL l t:Nat)))
def zX(l:List Int)(f t:Nat)(ins:List Int):List Int:=l.take (ZM l f)++(vE l f t ins++l.drop (onL l t))
def xA(a b c:Nat):PV:=.agg [.int .i64 a,.int .i64 b,.int .i64 c]
theorem q8 {a b:List Int}(ha:∀x∈a,zu x)(hb:∀x∈b,zu x):∀x∈a++b,zu x:=fun x hx=>(List.mem_append.1 hx).elim (ha x) (hb x)
theorem Qp {a:List Int}(ha:∀x∈a,zu x)(n:Nat):∀x∈a.take n,zu x:=fun x hx=>ha x (List.mem_of_mem_take hx)
theorem ZA {a:List Int}(ha:∀x∈a,zu x)(n:Nat):∀x∈a.drop n,zu x:=fun x hx=>ha x (List.mem_of_mem_drop hx)
theorem zag [Gi] {e:PV}(hT:qB e)(l:List Int)(hn:l.length≤65536)(hr:∀x∈l,zu x)(f t:Nat)(hft:f≤t)(ht:t≤l.length)(ins:List Int)(hi:ins.length≤65536)(hri:∀x∈ins,zu x):
  CR Tryz.prog 64 [] [.p e,.p (zh l),.p (.int .i64 f),.p (.int .i64 t),.p (zh ins)] []
   (is (.tup [.p (zh (zX l f t ins)),.p (xA (ZM l f) (onL l t) (ZM l f+(vE l f t ins).length)),.p (.int .i64 0)])):=by
 refine walk Tryz.func64 16 [] [4,6] [] ?_
 have h1:=zki hT l (by omega) hr f (by omega)
 have h2:=zm5 hT l (by omega) hr t ht
 have b1:=vW l f
 have b2:=K9 l ht
 unfold zX vE
 obtain⟨b,hb⟩:∃b,ZM l f=b:=⟨_,rfl⟩
 obtain⟨o,ho⟩:∃o,onL l t=o:=⟨_,rfl⟩
 rw[hb]at h1 b1⊢
 rw[ho]at h2 b2⊢
 obtain⟨A,hA⟩:∃A,A=cut l (b:Nat) (f:Nat):=⟨_,rfl⟩
 obtain⟨B,hB⟩:∃B,B=cut l (t:Nat) (o:Nat):=⟨_,rfl⟩
 have rA:∀x∈A,zu x:=by rw[hA];exact Qp (ZA hr _) _
 have rB:∀x∈B,zu x:=by rw[hB];exact Qp (ZA hr _) _
 have lA:A.length≤65536:=by rw[hA,cut,List.length_take,List.length_drop];omega
 have lB:B.length≤65536:=by rw[hB,cut,List.length_take,List.length_drop];omega
 have j1:=zaj [A,ins,B] (by simp) (by simp[Zz];omega)
 have f1:[A,ins,B].flatten=A++(ins++B):=by simp
 rw[f1]at j1
 have rM:=q8 rA (q8 hri rB)
 have lM:(A++(ins++B)).length<2^20:=by simp only[List.length_append];omega
 have f0:qN za (cut l (b:Nat) (f:Nat)++(ins++cut l (t:Nat) (o:Nat)))=qN za (A++(ins++B)):=by rw[hA,hB]
 rw[f0]
 have jN:=jY hT (A++(ins++B)) lM rM
 have lX:=Qm (A++(ins++B))
 have rX:=kd.rune _ lM rM
 have lM2:(A++(ins++B)).length≤196608:=by simp only[List.length_append];omega
 generalize A++(ins++B)=M at j1 jN lX rX lM rM lM2⊢
 generalize qN za M=X at jN lX rX⊢
 have lP:(l.take b).length≤65536:=by rw[List.length_take];omega
 have lQ:(l.drop o).length≤65536:=by rw[List.length_drop];omega
 have j2:=zaj [l.take b,X,l.drop o] (by simp) (by simp[Zz];omega)
 have f2:[l.take b,X,l.drop o].flatten=l.take b++(X++l.drop o):=by simp
 rw[f2]at j2
 have q1:(f:Int)≤t:=by omega
 have q2:(t:Int)≤l.length:=by omega
 have q3:¬(t:Int)<f:=by omega
 have q4:¬(l.length:Int)<t:=by omega
 have q0:¬(f:Int)<0:=by omega
 simp (maxSteps:=1000000) [go_sem,Tryz.f64,q0,q3,q4]
 refine zk h1 ?_
 simp (maxSteps:=1000000) [go_sem]
 refine zk h2 ?_
 simp (maxSteps:=1000000) [go_sem]
 refine⟨⟨b1,by omega⟩,b2,rfl,?_⟩
 rw[←hA,←hB]
 refine Qt 120 j1 ?_ (ha':=by simp[go_sem,xb])
 simp (maxSteps:=1000000) [go_sem]
 refine zk jN ?_
 simp (maxSteps:=1000000) [go_sem]
 have k1:cut l 0 (b:Nat)=l.take b:=by simp[cut]
 have k2:cut l (o:Nat) (l.length:Nat)=l.drop o:=by simp[cut,List.take_of_length_le]
 refine⟨by omega,b2.2,rfl,?_⟩
 rw[k1,k2]
 refine Qt 120 j2 ?_ (ha':=by simp[go_sem,xb])
 have w1:IntKind.i64.wrap ((b:Int)+X.length)=((b+X.length:Nat):Int):=by rw[wrap64 (by omega) (by omega)];omega
 simp (maxSteps:=1000000) [go_sem,w1]
 exact ret (hx:=by simp[go_sem,zd,leA,leT,leP,xA])
end Go.Proofs.YthbmelihnabkaaaGreat
end
section
namespace Go.Proofs.YthbmelihnabkaaaGreat
open Go.AM
set_option maxHeartbeats 1000000
set_option maxRecDepth 10000
attribute [local irreducible] za
end Go.Proofs.YthbmelihnabkaaaGreat
end
section
namespace Go.Proofs.YthbmelihnabkaaaGreat
open Go.AM
set_option maxHeartbeats 1000000
set_option maxRecDepth 10000
attribute [local irreducible] za
def Y6(l:List Int):Nat:=(ZV za l).length
theorem K5:∀l:List Int,l.length≤Y6 l
 | []=>Nat.zero_le _
 |x::l=>by
  have ih:=K5 l
  have h:=Vq x
  have hp:0< (z6 za 8 x).length:=List.length_pos_iff.2 h
  have e:Y6 (x::l)=(z6 za 8 x).length+Y6 l:=by unfold Y6 ZV;rw[List.flatMap_cons,List.length_append]
  rw[e,List.length_cons];omega
end Go.Proofs.YthbmelihnabkaaaGreat
end
