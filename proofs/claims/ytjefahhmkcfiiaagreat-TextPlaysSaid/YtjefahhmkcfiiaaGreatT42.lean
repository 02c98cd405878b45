/- A part of the proof of this seat's statements, by an abstract machine: what each operation does to values, and what the law's functions compute. Conditions: as each law says. -/
import Derived.Test.YtjefahhmkcfiiaaGreatT40
import Derived.Test.YtjefahhmkcfiiaaGreatT37
section
namespace Go.Proofs.YtjefahhmkcfiiaaGreat
open Go.AM
set_option maxHeartbeats 4000000
set_option maxRecDepth 100000
def zaq(r:Int):Bool:=za.any fun w=>decide (w.k=2)&&decide (w.b=r)&&!decide (r=0)&&!yQ za w.f
theorem zlu:(M0.2.all fun r=>M0.1.any fun c=>decide (c.1.b=r))=true∧(M0.1.all fun c=>M0.2.contains c.1.b)=true:=by decide+kernel
theorem zfz:(jH.all fun w=>decide (Zk jH w.f=none∨Zk jH w.f=some (w.a,w.b)))=true:=by decide+kernel
theorem zg3:(jH.all fun w=>decide (w.b=0∨Zk jH w.f≠none))=true:=by decide+kernel
theorem zlb(r:Int):(T0.flg (rn r)).o=decide (aL za 3 r=1):=by
 by_cases h:0≤r∧r≤1114111
 ·have e:(T0.flg (rn r)).o=qV (qt za 3) r:=by
   rw[Vf (by omega)];exact congrArg (qV (qt za 3)) (Int.toNat_of_nonneg h.1)
  rw[e,WA _ _ _ h]
  unfold qt
  rw[znw _ _ (jQ zpo).rise]
  unfold qV spA
  cases atL (zU za 3) r with
  |none=>rfl
  |some s=>simp only;rfl
 ·rw[wg (by omega),Kx _ _ _ h,Z3.f];rfl
attribute [local irreducible] za
theorem zdK {c:Zh×Int}(h:c∈Ul za):zaq c.1.b=true:=by
 unfold Ul at h
 obtain⟨w,hw,hc⟩:=List.mem_filterMap.1 h
 unfold vA at hc
 split at hc
 ·rename_i q
  injection hc with hc
  subst hc
  unfold zaq
  refine List.any_eq_true.2 ⟨w,hw,?_⟩
  simp[q.1,q.2.1,q.2.2.2]
 ·cases hc
theorem zlj {r:Int}(h:zaq r=true):∃c∈Ul za,c.1.b=r:=by
 obtain⟨w,hw,q⟩:=List.any_eq_true.1 h
 simp only[Bool.and_eq_true,decide_eq_true_eq,Bool.not_eq_true',decide_eq_false_iff_not]at q
 obtain⟨⟨⟨q1,q2⟩,q3⟩,q4⟩:=q
 have m:w∈jH:=List.mem_filter.2 ⟨hw,by simp[q1]⟩
 have f1:=List.all_eq_true.1 zfz w m
 have f2:=List.all_eq_true.1 zg3 w m
 rw[Jg]at f1 f2
 simp only[decide_eq_true_eq]at f1 f2
 have h0:w.b≠0:=by omega
 refine⟨(⟨w.a,w.b⟩,w.f),List.mem_filterMap.2 ⟨w,hw,?_⟩,q2⟩
 unfold vA
 have f3:Zk za w.f=some (w.a,w.b):=by
  rcases f1 with f1|f1
  ·rcases f2 with f2|f2
   ·exact absurd f2 h0
   ·exact absurd f1 f2
  ·exact f1
 rw[if_pos ⟨q1,h0,f3,q4⟩]
theorem zmP(r:Int):decide (r∈M0.2)=zaq r:=by
 obtain⟨h1,h2⟩:=zlu
 rw[zbT]at h1 h2
 cases hs:zaq r with
 |true=>
  obtain⟨c,hc,rfl⟩:=zlj hs
  have:=List.all_eq_true.1 h2 c hc
  simpa using this
 |false=>
  refine decide_eq_false fun hm=>?_
  obtain⟨c,hc,e⟩:=List.any_eq_true.1 (List.all_eq_true.1 h1 r hm)
  have:=zdK hc
  rw[of_decide_eq_true e,hs]at this
  cases this
theorem zmw [Gi] {e:PV}(hT:Zc e)(r:Int)(hr:zB r):CR Tryz.prog 70 [] [.p e,.p (.int .i32 r)] [] (is (.p (.bool (yQ za r)))):=by
 obtain⟨c,b,j,f,p,h,rfl⟩:=hT
 have w1:IntKind.i64.wrap r=r:=wrap64 (by have:=hr.1;omega) (by have:=hr.2;omega)
 have hpr:=uX h (ckP M0.1) (cxP M0.1) (Zl M0.2) (qi M0.2) Z3 hr
 have hfl:=K8 h.f Z3.f r
 have hcl:=Qb h (ckP M0.1) (cxP M0.1) (Zl M0.2) (qi M0.2) Z3 hr
 have hw:=zh3 r
 have ho:=zlb r
 rw[Yg]at hcl
 refine zm mixed 8 [] Tryz.func70 rfl (by kernel_rfl) rfl (by simp) (by simp) ?_
 simp (maxSteps:=1000000) [go_sem,Tryz.f70,zF]
 refine zo hpr ?_ (ha':=by simp[go_sem,zF])
 have hd:yQ za r=(match Zk za r with
  |none=>false
  |some p=>decide (p.2=0) || decide (aL za 3 r=1) ||!decide (aL za 1 r=0) ||!decide (aL za 1 p.1=0)):=rfl
 rw[hd]
 cases hp:Zk za r with
 |none=>
  rw[hp]at hw
  simp only at hw
  simp only[hw,V8]
  simp (maxSteps:=1000000) [go_sem]
  exact ret
 |some q=>
  have hb:=UQ ZN hp
  have h0:¬(q.1=0∧q.2=0):=by
   intro h0
   unfold Zk at hp
   cases hr:rowAt za 2 r with
   |none=>rw[hr]at hp;simp at hp
   |some x=>
    rw[hr]at hp
    simp only at hp
    split at hp
    ·simp at hp
    ·rename_i hx
     have:=Option.some.inj hp
     rw[←this]at h0
     exact hx h0
  rw[hp]at hw
  simp only at hw
  obtain⟨x,y⟩:=q
  simp only at h0 hb
  have hx:=Qb h (ckP M0.1) (cxP M0.1) (Zl M0.2) (qi M0.2) Z3 (i:=x) (by omega)
  rw[Yg]at hx
  have hz:(!decide (x=0) ||!decide (y=0))=true:=by
   simp only[Bool.or_eq_true,Bool.not_eq_true',decide_eq_false_iff_not];omega
  simp only[hw,V8,hz]
  by_cases c0:y=0
  ·simp (maxSteps:=1000000) [go_sem,c0]
   exact ret
  ·simp (maxSteps:=1000000) [go_sem,c0,w1]
   refine zo hfl ?_
   generalize T0.flg (rn r)=fl at ho
   by_cases c1:aL za 3 r=1
   ·rw[decide_eq_true c1]at ho
    simp (maxSteps:=1000000) [go_sem,qF,ho,c1]
    exact ret
   ·rw[decide_eq_false c1]at ho
    simp (maxSteps:=1000000) [go_sem,qF,ho,c1]
    refine zo hcl ?_ (ha':=by simp[go_sem,zF])
    by_cases c2:aL za 1 r=0
    ·simp (maxSteps:=1000000) [go_sem,c2]
     refine zo hx ?_ (ha':=by simp[go_sem,zF])
     simp (maxSteps:=1000000) [go_sem]
     exact ret
    ·simp (maxSteps:=1000000) [go_sem,c2]
     exact ret
def qcD(r:Int):Int:=if yQ za r then 1 else if zaq r || zcv r then 2 else 0
theorem zgZ [Gi] {e:PV}(hT:Zc e)(r:Int)(hr:zB r):CR Tryz.prog 219 [] [.p e,.p (.int .i32 r)] [] (is (.p (.int .i64 (qcD r)))):=by
 refine walk Tryz.func219 6 [9] [] [] ?_
 have h1:=zmw hT r hr
 have h2:CR Tryz.prog 230 [] [.p e,.p (.int .i32 r)] [] (is (.p (.bool (zaq r)))):=by
  rw[←zmP]
  obtain⟨c,b,j,f,p,h,rfl⟩:=hT
  exact zjU c b j f p _ _ M0.2 r
 have h3:=zn2 r
 unfold qcD
 simp (maxSteps:=1000000) [go_sem,Tryz.f219]
 refine zo h1 ?_
 cases yQ za r with
 |true=>
  simp (maxSteps:=1000000) [go_sem]
  exact ret
 |false=>
  simp (maxSteps:=1000000) [go_sem]
  refine zo h2 ?_
  cases zaq r with
  |true=>
   simp (maxSteps:=1000000) [go_sem]
   exact ret
  |false=>
   simp (maxSteps:=1000000) [go_sem]
   refine zo h3 ?_
   cases zcv r with
   |true=>
    simp (maxSteps:=1000000) [go_sem]
    exact ret
   |false=>
    simp (maxSteps:=1000000) [go_sem]
    exact ret
end Go.Proofs.YtjefahhmkcfiiaaGreat
end
section
namespace Go.Proofs.YtjefahhmkcfiiaaGreat
open Go.AM
set_option maxHeartbeats 4000000
set_option maxRecDepth 10000
attribute [local irreducible] za
theorem zlK [Gi] {e:PV}(hT:Zc e)(r:Int)(hr:zB r):CR Tryz.prog 218 [] [.p e,.p (.int .i32 r)] [] (is (.p (zg (qj za 8 r)))):=by
 rw[←vf]
 obtain⟨c,b,j,f,p,h,rfl⟩:=hT
 have ht:=take_nil h Z3 Xk (ckP M0.1) (cxP M0.1) (Zl M0.2) (qi M0.2) 8 (by omega) r hr
 refine walk Tryz.func218 6 [] [] [] ?_
 simp (maxSteps:=1000000) [go_sem,Tryz.f218,zF]
 refine call [([0],[5]),([901],[901]),([0,1],[902])] ht ?_ (hr:=by simp[go_sem,zF])
 rintro _ _ ⟨rfl,tk,htk,rfl⟩
 rcases htk with rfl|rfl
 ·simp (maxSteps:=1000000) [go_sem,Zd,zF]
  exact ret
 ·simp (maxSteps:=1000000) [go_sem,Zd,zF]
  exact ret
theorem uE(r:Int):qj za 8 r≠ []:=by rw[←vf];exact Xh T0 8 r
theorem zpN(r:Int)(hr:zB r):∀x∈qj za 8 r,zB x:=by rw[←vf];exact vQ Xk 8 r hr
def xM(r:Int):Int:=(qj za 8 r).headD 0
theorem JN {r:Int}(hr:zB r):zB (xM r):=by
 have h1:=uE r
 have h2:=zpN r hr
 unfold xM
 cases h:qj za 8 r with
 |nil=>exact absurd h h1
 |cons x l=>rw[h]at h2;exact h2 x (by simp)
def Qr(r:Int):Bool:=decide (aL za 1 r=0)&&decide (qcD r=0)&&decide (aL za 1 (xM r)=0)&&decide (qcD (xM r)=0)
def zpI(r y:Int)(i:Nat):Prop:=i≤2∧(1≤i→aL za 1 r=0∧qcD r=0)∧(2≤i→aL za 1 y=0∧qcD y=0)
theorem zdA [Gi] {e:PV}(hT:Zc e)(r:Int)(hr:zB r):CR Tryz.prog 188 [] [.p e,.p (.int .i32 r)] [] (is (.p (.bool (Qr r)))):=by
 refine walk Tryz.func188 7 [13,14] [] [] ?_
 have hf:=zlK hT r hr
 have hr2:=JN hr
 have hc:∀x,zB x→CR Tryz.prog 124 [] [.p e,.p (.int .i32 x)] [] (is (.p (.int .i64 (aL za 1 x)))):=fun x hx=>by
  obtain⟨c,b,j,f,p,h,rfl⟩:=hT
  have:=Qb h (ckP M0.1) (cxP M0.1) (Zl M0.2) (qi M0.2) Z3 hx
  rw[Yg]at this
  exact this
 have hq:=fun x hx=>zgZ hT x hx
 have hc1:=hc r hr
 have hc2:=hc _ hr2
 have hq1:=hq r hr
 have hq2:=hq _ hr2
 unfold Qr
 have h0:=uE r
 obtain⟨y,l,hy⟩:∃y l,qj za 8 r=y::l:=by
  cases h:qj za 8 r with
  |nil=>exact absurd h h0
  |cons x l=>exact⟨_,_,rfl⟩
 have hfd:xM r=y:=by unfold xM;rw[hy];rfl
 rw[hfd]at hc2 hq2⊢
 rw[hy]at hf
 simp (maxSteps:=1000000) [go_sem,Tryz.f188]
 refine zo hf ?_
 have em:elemAt (PV.int .i32 y::l.map fun r=>PV.int .i32 r) 0=.int .i32 y:=rfl
 simp (maxSteps:=1000000) [go_sem,zu,em]
 refine loop (zpI r y) (fun i:Nat=>[(14,.p (.int .i64 i)),(6,.zW)]) (fun _=>[]) (fun i=>2-i) 0 ⟨by omega,by omega,by omega⟩ (fun i hi=>?_)
 obtain⟨i1,i2,i3⟩:=hi
 have hcase:i=0∨i=1∨i=2:=by omega
 rcases hcase with rfl|rfl|rfl
 ·simp (maxSteps:=1000000) [go_sem]
  refine zo hc1 ?_
  by_cases d1:aL za 1 r=0
  ·simp (maxSteps:=1000000) [go_sem,d1]
   refine zo hq1 ?_
   by_cases d2:qcD r=0
   ·simp (maxSteps:=1000000) [go_sem,d2]
    have w:IntKind.i64.wrap 1=1:=wrap64 (by omega) (by omega)
    exact next 1 ⟨by omega,fun _=>⟨d1,d2⟩,fun h=>by omega⟩ (h3:=by decide) (h2:=by simp[go_sem,LeS,leV,leR,leA,w])
   ·simp (maxSteps:=1000000) [go_sem,d2]
    exact ret
  ·simp (maxSteps:=1000000) [go_sem,d1]
   exact ret
 ·simp (maxSteps:=1000000) [go_sem]
  refine zo hc2 ?_
  by_cases d1:aL za 1 y=0
  ·simp (maxSteps:=1000000) [go_sem,d1]
   refine zo hq2 ?_
   by_cases d2:qcD y=0
   ·simp (maxSteps:=1000000) [go_sem,d2]
    have w:IntKind.i64.wrap 2=2:=wrap64 (by omega) (by omega)
    exact next 2 ⟨by omega,fun _=>i2 (by omega),fun _=>⟨d1,d2⟩⟩ (h3:=by decide) (h2:=by simp[go_sem,LeS,leV,leR,leA,w])
   ·simp (maxSteps:=1000000) [go_sem,d2]
    exact ret
  ·simp (maxSteps:=1000000) [go_sem,d1]
   exact ret
 ·simp (maxSteps:=1000000) [go_sem,i2,i3]
  exact ret
end Go.Proofs.YtjefahhmkcfiiaaGreat
end
section
namespace Go.Proofs.YtjefahhmkcfiiaaGreat
open Go.AM
set_option maxHeartbeats 4000000
set_option maxRecDepth 10000
attribute [local irreducible] za
def jI(l:List Int):Nat→Nat
 |0=>0
 |n+1=>if Qr (l.getD (n+1) 0)then n+1 else jI l n
def qU(l:List Int)(f:Nat):Nat:=if f=0 then 0 else jI l (f-1)
def zaJ(l:List Int):Nat→Nat→Nat
 |0,k=>k
 |n+1,k=>if Qr (l.getD k 0)then k else zaJ l n (k+1)
def onL(l:List Int)(k:Nat):Nat:=zaJ l (l.length-k) k
theorem Kw(l:List Int):∀n,jI l n≤n
 |0=>Nat.le_refl _
 |n+1=>by
  unfold jI
  split
  ·exact Nat.le_refl _
  ·have:=Kw l n;omega
theorem xB(l:List Int)(f:Nat):qU l f≤f:=by
 have:=Kw l (f-1)
 unfold qU;split<;>omega
theorem zh5(l:List Int):∀n k,k≤zaJ l n k∧zaJ l n k≤k+n
 |0,k=>⟨Nat.le_refl _,Nat.le_refl _⟩
 |n+1,k=>by
  unfold zaJ
  split
  ·omega
  ·have:=zh5 l n (k+1);omega
theorem VA(l:List Int) {k:Nat}(h:k≤l.length):k≤onL l k∧onL l k≤l.length:=by
 have:=zh5 l (l.length-k) k
 unfold onL;omega
theorem XF {l:List Int} {k:Nat}(h:k<l.length):onL l k=if Qr (l.getD k 0)then k else onL l (k+1):=by
 unfold onL
 have:l.length-k=(l.length- (k+1))+1:=by omega
 rw[this];rfl
theorem zhY(l:List Int):onL l l.length=l.length:=by unfold onL;rw[Nat.sub_self];rfl
theorem Qw {l:List Int} {k:Nat}(h:k<l.length):elemAt (zu l) k=.int .i32 (l.getD k 0):=by
 rw[zu,zr (fun r=>PV.int .i32 r) l k h,List.getD_eq_getElem?_getD,List.getElem?_eq_getElem h];rfl
theorem Wt {l:List Int}(hr:∀x∈l,zB x) {k:Nat}(h:k<l.length):zB (l.getD k 0):=by
 rw[List.getD_eq_getElem?_getD,List.getElem?_eq_getElem h];exact hr _ (List.getElem_mem _)
theorem zks [Gi] {e:PV}(hT:Zc e)(l:List Int)(hn:l.length<2^31)(hr:∀x∈l,zB x)(f:Nat)(hf:f≤l.length):
  CR Tryz.prog 151 [] [.p e,.p (zg l),.p (.int .i64 f)] [] (is (.p (.int .i64 (qU l f:Nat)))):=by
 refine walk Tryz.func151 7 [] [] [] ?_
 unfold qU
 by_cases c0:f=0
 ·subst c0
  simp (maxSteps:=1000000) [go_sem,Tryz.f151]
  exact ret
 ·rw[if_neg c0]
  obtain⟨m,hm⟩:∃m,f-1=m:=⟨_,rfl⟩
  rw[hm]
  have w1:IntKind.i64.wrap ((f:Int)-1)=(m:Int):=zq (by omega) (by omega)
  have hml:m<l.length:=by omega
  simp (maxSteps:=1000000) [go_sem,Tryz.f151,w1,c0]
  refine loop (fun i:Nat=>i≤m∧jI l i=jI l m) (fun i=>[(2,.p (.int .i64 i))]) (fun _=>[]) (fun i=>i) m ⟨Nat.le_refl _,rfl⟩ (fun i hi=>?_)
  obtain⟨i1,i2⟩:=hi
  rw[←i2]
  by_cases d0:i=0
  ·subst d0
   simp (maxSteps:=1000000) [go_sem]
   refine ret (hx:=by simp[go_sem,zd,leA,leT,jI])
  ·obtain⟨j,hj⟩:∃j,i=j+1:=⟨i-1,by omega⟩
   have w2:IntKind.i64.wrap ((i:Int)-1)=(j:Int):=zq (by omega) hj
   have hil:i<l.length:=by omega
   have em:=Qw hil
   have hst:=zdA hT _ (Wt hr hil)
   have hb:jI l i=if Qr (l.getD i 0)then i else jI l j:=by rw[hj];rfl
   have hpos:0<i:=by omega
   generalize l.getD i 0=x at em hst hb
   rw[hb]
   simp (maxSteps:=1000000) [go_sem,hpos,em,hil]
   refine zo hst ?_
   cases Qr x with
   |true=>
    simp (maxSteps:=1000000) [go_sem]
    exact ret
   |false=>
    simp (maxSteps:=1000000) [go_sem,w2]
    exact next j ⟨by omega,rfl⟩ (h3:=by show j<i;omega)
theorem zoj [Gi] {e:PV}(hT:Zc e)(l:List Int)(hn:l.length<2^31)(hr:∀x∈l,zB x)(f:Nat)(hf:f≤l.length):
  CR Tryz.prog 152 [] [.p e,.p (zg l),.p (.int .i64 f)] [] (is (.p (.int .i64 (onL l f:Nat)))):=by
 refine walk Tryz.func152 7 [] [] [] ?_
 simp (maxSteps:=1000000) [go_sem,Tryz.f152]
 refine loop (fun i:Nat=>i≤l.length∧onL l i=onL l f) (fun i=>[(2,.p (.int .i64 i))]) (fun _=>[]) (fun i=>l.length-i) f ⟨hf,rfl⟩ (fun i hi=>?_)
 obtain⟨i1,i2⟩:=hi
 rw[←i2]
 by_cases d0:i<l.length
 ·have w1:IntKind.i64.wrap ((i:Int)+1)=((i+1:Nat):Int):=zI (by omega)
  have em:=Qw d0
  have hst:=zdA hT _ (Wt hr d0)
  have hb:=XF d0
  generalize l.getD i 0=x at em hst hb
  rw[hb]
  simp (maxSteps:=1000000) [go_sem,em,d0]
  refine zo hst ?_
  cases hs:Qr x with
  |true=>
   simp (maxSteps:=1000000) [go_sem]
   exact ret
  |false=>
   simp (maxSteps:=1000000) [go_sem,w1]
   exact next (i+1) ⟨by omega,rfl⟩ (h3:=by show l.length- (i+1)<l.length-i;omega)
 ·obtain rfl:i=l.length:=by omega
  rw[zhY]
  simp (maxSteps:=1000000) [go_sem]
  exact ret
end Go.Proofs.YtjefahhmkcfiiaaGreat
end
section
namespace Go.Proofs.YtjefahhmkcfiiaaGreat
open Go.AM
set_option maxHeartbeats 4000000
set_option maxRecDepth 10000
attribute [local irreducible] za
def yM(l:List Int)(f t:Nat)(ins:List Int):List Int:=zZ za (cut l (qU l f:Nat) (f:Nat)++(ins++cut l (t:Nat) (onL l t:Nat)))
def zD(l:List Int)(f t:Nat)(ins:List Int):List Int:=l.take (qU l f)++(yM l f t ins++l.drop (onL l t))
def wh(a b c:Nat):PV:=.agg [.int .i64 a,.int .i64 b,.int .i64 c]
theorem Qi {a b:List Int}(ha:∀x∈a,zB x)(hb:∀x∈b,zB x):∀x∈a++b,zB x:=fun x hx=>(List.mem_append.1 hx).elim (ha x) (hb x)
theorem QH {a:List Int}(ha:∀x∈a,zB x)(n:Nat):∀x∈a.take n,zB x:=fun x hx=>ha x (List.mem_of_mem_take hx)
theorem QA {a:List Int}(ha:∀x∈a,zB x)(n:Nat):∀x∈a.drop n,zB x:=fun x hx=>ha x (List.mem_of_mem_drop hx)
theorem zbu [Gi] {e:PV}(hT:Zc e)(l:List Int)(hn:l.length≤65536)(hr:∀x∈l,zB x)(f t:Nat)(hft:f≤t)(ht:t≤l.length)(ins:List Int)(hi:ins.length≤65536)(hri:∀x∈ins,zB x):
  CR Tryz.prog 95 [] [.p e,.p (zg l),.p (.int .i64 f),.p (.int .i64 t),.p (zg ins)] []
   (is (.tup [.p (zg (zD l f t ins)),.p (wh (qU l f) (onL l t) (qU l f+(yM l f t ins).length)),.p (.int .i64 0)])):=by
 refine walk Tryz.func95 16 [] [4,6] [] ?_
 have h1:=zks hT l (by omega) hr f (by omega)
 have h2:=zoj hT l (by omega) hr t ht
 have b1:=xB l f
 have b2:=VA l ht
 unfold zD yM
 obtain⟨b,hb⟩:∃b,qU l f=b:=⟨_,rfl⟩
 obtain⟨o,ho⟩:∃o,onL l t=o:=⟨_,rfl⟩
 rw[hb]at h1 b1⊢
 rw[ho]at h2 b2⊢
 obtain⟨A,hA⟩:∃A,A=cut l (b:Nat) (f:Nat):=⟨_,rfl⟩
 obtain⟨B,hB⟩:∃B,B=cut l (t:Nat) (o:Nat):=⟨_,rfl⟩
 have rA:∀x∈A,zB x:=by rw[hA];exact QH (QA hr _) _
 have rB:∀x∈B,zB x:=by rw[hB];exact QH (QA hr _) _
 have lA:A.length≤65536:=by rw[hA,cut,List.length_take,List.length_drop];omega
 have lB:B.length≤65536:=by rw[hB,cut,List.length_take,List.length_drop];omega
 have j1:=ye [A,ins,B] (by simp) (by simp[qd];omega)
 have f1:[A,ins,B].flatten=A++(ins++B):=by simp
 rw[f1]at j1
 have rM:=Qi rA (Qi hri rB)
 have lM:(A++(ins++B)).length<2^20:=by simp only[List.length_append];omega
 have f0:zZ za (cut l (b:Nat) (f:Nat)++(ins++cut l (t:Nat) (o:Nat)))=zZ za (A++(ins++B)):=by rw[hA,hB]
 rw[f0]
 have jN:=zck hT (A++(ins++B)) lM rM
 have lX:=yd (A++(ins++B))
 have rX:=Zr.rune _ lM rM
 have lM2:(A++(ins++B)).length≤196608:=by simp only[List.length_append];omega
 generalize A++(ins++B)=M at j1 jN lX rX lM rM lM2⊢
 generalize zZ za M=X at jN lX rX⊢
 have lP:(l.take b).length≤65536:=by rw[List.length_take];omega
 have lQ:(l.drop o).length≤65536:=by rw[List.length_drop];omega
 have j2:=ye [l.take b,X,l.drop o] (by simp) (by simp[qd];omega)
 have f2:[l.take b,X,l.drop o].flatten=l.take b++(X++l.drop o):=by simp
 rw[f2]at j2
 have q1:(f:Int)≤t:=by omega
 have q2:(t:Int)≤l.length:=by omega
 have q3:¬(t:Int)<f:=by omega
 have q4:¬(l.length:Int)<t:=by omega
 have q0:¬(f:Int)<0:=by omega
 simp (maxSteps:=1000000) [go_sem,Tryz.f95,q0,q3,q4]
 refine zo h1 ?_
 simp (maxSteps:=1000000) [go_sem]
 refine zo h2 ?_
 simp (maxSteps:=1000000) [go_sem]
 refine⟨⟨b1,by omega⟩,b2,rfl,?_⟩
 rw[←hA,←hB]
 refine kE 74 j1 ?_ (ha':=by simp[go_sem,qD])
 simp (maxSteps:=1000000) [go_sem]
 refine zo jN ?_
 simp (maxSteps:=1000000) [go_sem]
 have k1:cut l 0 (b:Nat)=l.take b:=by simp[cut]
 have k2:cut l (o:Nat) (l.length:Nat)=l.drop o:=by simp[cut,List.take_of_length_le]
 refine⟨by omega,b2.2,rfl,?_⟩
 rw[k1,k2]
 refine kE 74 j2 ?_ (ha':=by simp[go_sem,qD])
 have w1:IntKind.i64.wrap ((b:Int)+X.length)=((b+X.length:Nat):Int):=by rw[wrap64 (by omega) (by omega)];omega
 simp (maxSteps:=1000000) [go_sem,w1]
 exact ret (hx:=by simp[go_sem,zd,leA,leT,leP,wh])
end Go.Proofs.YtjefahhmkcfiiaaGreat
end
section
namespace Go.Proofs.YtjefahhmkcfiiaaGreat
open Go.AM
set_option maxHeartbeats 4000000
set_option maxRecDepth 10000
attribute [local irreducible] za
def qE(l s:List Int)(b p:Nat):Nat→Nat→Nat
 |0,m=>m
 |k+1,m=>if p≤k∧b<m∧l.getD k 0=s.getD (m-1) 0 then qE l s b p k (m-1)else m
theorem zlH [Gi](l s:List Int)(hl:l.length<2^31)(hs:s.length<2^31)(b o c p:Nat)(ho:o≤l.length)(hc:c≤s.length)(hb:b<2^31)(hp:p<2^31):
  CR Tryz.prog 98 [] [.p (zg l),.p (zg s),.p (wh b o c),.p (.int .i64 p)] [] (is (.p (.int .i64 (qE l s b p o c:Nat)))):=by
 refine walk Tryz.func98 11 [] [1] [] ?_
 simp (maxSteps:=1000000) [go_sem,Tryz.f98,wh]
 refine loop (fun i:Nat×Nat=>i.1≤l.length∧i.2≤s.length∧qE l s b p i.1 i.2=qE l s b p o c) (fun i=>[(9,.p (.int .i64 i.1)),(10,.p (.int .i64 i.2))]) (fun _=>[]) (fun i=>i.1) (o,c) ⟨ho,hc,rfl⟩ (fun i hi=>?_)
 obtain⟨k,m⟩:=i
 obtain⟨i1,i2,i3⟩:=hi
 simp only at i1 i2 i3
 rw[←i3]
 by_cases d1:p<k
 ·obtain⟨k',hk⟩:∃k',k=k'+1:=⟨k-1,by omega⟩
  by_cases d2:b<m
  ·obtain⟨m',hm⟩:∃m',m=m'+1:=⟨m-1,by omega⟩
   have w1:IntKind.i64.wrap ((k:Int)-1)=(k':Int):=zq (by omega) hk
   have w2:IntKind.i64.wrap ((m:Int)-1)=(m':Int):=zq (by omega) hm
   have a1:k'<l.length:=by omega
   have a2:m'<s.length:=by omega
   have e1:=Qw a1
   have e2:=Qw a2
   have hst:qE l s b p k m=if l.getD k' 0=s.getD m' 0 then qE l s b p k' m' else m:=by
    rw[hk,hm]
    unfold qE
    have e3:m'+1-1=m':=rfl
    rw[e3]
    by_cases q:l.getD k' 0=s.getD m' 0
    ·rw[if_pos ⟨by omega,by omega,q⟩,if_pos q]
     cases k'<;>rfl
    ·rw[if_neg (fun h=>q h.2.2),if_neg q]
   generalize l.getD k' 0=x at e1 hst
   generalize s.getD m' 0=y at e2 hst
   rw[hst]
   by_cases q:x=y
   ·simp (maxSteps:=1000000) [go_sem,d1,d2,w1,w2,e1,e2,a1,a2,q]
    exact next (k',m') ⟨by show k'≤_;omega,by show m'≤_;omega,rfl⟩ (h3:=by show k'<k;omega)
   ·simp (maxSteps:=1000000) [go_sem,d1,d2,w1,w2,e1,e2,a1,a2,q]
    exact ret
  ·have hst:qE l s b p k m=m:=by
    rw[hk];unfold qE;rw[if_neg (fun h=>d2 h.2.1)]
   rw[hst]
   obtain⟨x1,y1,z1⟩:=zw s (IntKind.i64.wrap ((m:Int)-1)).toNat
   obtain⟨x2,y2,z2⟩:=zw l (IntKind.i64.wrap ((k:Int)-1)).toNat
   by_cases z3:x2=x1
   ·simp (maxSteps:=1000000) [go_sem,d1,d2,z1,z2,z3]
    exact ret
   ·simp (maxSteps:=1000000) [go_sem,d1,d2,z1,z2,z3]
    exact ret
 ·have hst:qE l s b p k m=m:=by
   cases k with
   |zero=>rfl
   |succ k=>unfold qE;rw[if_neg (fun h=>d1 (by omega))]
  rw[hst]
  obtain⟨x1,y1,z1⟩:=zw s (IntKind.i64.wrap ((m:Int)-1)).toNat
  obtain⟨x2,y2,z2⟩:=zw l (IntKind.i64.wrap ((k:Int)-1)).toNat
  by_cases z3:x2=x1
  ·simp (maxSteps:=1000000) [go_sem,d1,z1,z2,z3]
   exact ret
  ·simp (maxSteps:=1000000) [go_sem,d1,z1,z2,z3]
   exact ret
def jW(b:Nat)(x y:List Int):PV:=.agg [.int .i64 b,zg x,zg y]
def zlt:OT:=.now 0 2 (.now 2 0 (.now 3 0 (.now 4 0 (.now 5 0 (.now 6 0 (.now 7 0 (.now 9 2 (.now 10 2 (.now 12 2 (.mk [(1,.mk [(8,.now 11 0 (.now 13 0 (.now 14 0 (.mk [(15,.now 16 0 (.mk [(17,.mk [])]))])))),(11,.mk [(8,.now 13 0 (.now 14 0 (.mk [(15,.now 16 0 (.mk [(17,.mk [])]))]))),(13,.mk [(8,.now 14 0 (.mk [(15,.now 16 0 (.mk [(17,.mk [])]))])),(14,.mk [(8,.mk [(15,.now 16 0 (.mk [(17,.mk [])]))])])])]),(13,.mk [(8,.now 11 0 (.now 14 0 (.mk [(15,.now 16 0 (.mk [(17,.mk [])]))]))),(11,.mk [(8,.now 14 0 (.mk [(15,.now 16 0 (.mk [(17,.mk [])]))])),(14,.mk [(8,.mk [(15,.now 16 0 (.mk [(17,.mk [])]))])])])])]),(8,.now 11 0 (.now 13 0 (.now 14 0 (.mk [(1,.mk [(15,.now 16 0 (.mk [(17,.mk [])]))]),(15,.now 1 0 (.now 16 0 (.mk [(17,.mk [])])))])))),(11,.mk [(1,.mk [(8,.now 13 0 (.now 14 0 (.mk [(15,.now 16 0 (.mk [(17,.mk [])]))]))),(13,.mk [(8,.now 14 0 (.mk [(15,.now 16 0 (.mk [(17,.mk [])]))])),(14,.mk [(8,.mk [(15,.now 16 0 (.mk [(17,.mk [])]))])])])]),(8,.now 13 0 (.now 14 0 (.mk [(1,.mk [(15,.now 16 0 (.mk [(17,.mk [])]))]),(15,.now 1 0 (.now 16 0 (.mk [(17,.mk [])])))]))),(13,.mk [(1,.mk [(8,.now 14 0 (.mk [(15,.now 16 0 (.mk [(17,.mk [])]))])),(14,.mk [(8,.mk [(15,.now 16 0 (.mk [(17,.mk [])]))])])]),(8,.now 14 0 (.mk [(1,.mk [(15,.now 16 0 (.mk [(17,.mk [])]))]),(15,.now 1 0 (.now 16 0 (.mk [(17,.mk [])])))])),(14,.mk [(1,.mk [(8,.mk [(15,.now 16 0 (.mk [(17,.mk [])]))])]),(8,.mk [(1,.mk [(15,.now 16 0 (.mk [(17,.mk [])]))]),(15,.now 1 0 (.now 16 0 (.mk [(17,.mk [])])))])])])]),(13,.mk [(1,.mk [(8,.now 11 0 (.now 14 0 (.mk [(15,.now 16 0 (.mk [(17,.mk [])]))]))),(11,.mk [(8,.now 14 0 (.mk [(15,.now 16 0 (.mk [(17,.mk [])]))])),(14,.mk [(8,.mk [(15,.now 16 0 (.mk [(17,.mk [])]))])])])]),(8,.now 11 0 (.now 14 0 (.mk [(1,.mk [(15,.now 16 0 (.mk [(17,.mk [])]))]),(15,.now 1 0 (.now 16 0 (.mk [(17,.mk [])])))]))),(11,.mk [(1,.mk [(8,.now 14 0 (.mk [(15,.now 16 0 (.mk [(17,.mk [])]))])),(14,.mk [(8,.mk [(15,.now 16 0 (.mk [(17,.mk [])]))])])]),(8,.now 14 0 (.mk [(1,.mk [(15,.now 16 0 (.mk [(17,.mk [])]))]),(15,.now 1 0 (.now 16 0 (.mk [(17,.mk [])])))])),(14,.mk [(1,.mk [(8,.mk [(15,.now 16 0 (.mk [(17,.mk [])]))])]),(8,.mk [(1,.mk [(15,.now 16 0 (.mk [(17,.mk [])]))]),(15,.now 1 0 (.now 16 0 (.mk [(17,.mk [])])))])])])])]))))))))))
theorem zgp [Gi](l s:List Int)(hl:l.length<2^31)(hs:s.length<2^31)(b o c:Nat)(h1:b≤o)(h2:b≤c)(ho:o≤l.length)(hc:c≤s.length):
  CR Tryz.prog 99 [] [.p (zg l),.p (zg s),.p (wh b o c)] [] (is (.p (jW b (cut l b o) (cut s b c)))):=by
 refine walk Tryz.func99 7 [] [200001] [] ?_
 have q1:(cut l (b:Nat) (o:Nat)).length*4≤140737488355328:=by
  unfold cut;rw[List.length_take,List.length_drop];omega
 have q2:(cut s (b:Nat) (c:Nat)).length*4≤140737488355328:=by
  unfold cut;rw[List.length_take,List.length_drop];omega
 simp (maxSteps:=1000000) [go_sem,Tryz.f99,wh]
 refine zf8 zlt {n:=24,nv:=7,vs:=[(0,.p (.sl 1 (zu l))),(1,.p (.sl 1 (zu s))),(2,.p (.agg [.int .i64 b,.int .i64 o,.int .i64 c])),(5,.lp [5] 0),(6,.lp [6] 0)],ts:=[],rs:=[([5],[.p (.int .i64 b),.p (.int .i64 o),.p (.int .i64 c)]),([6],[.p (.int .i64 b),.p (.sl 1 (zu (cut l b o))),.p (.sl 1 (zu (cut s b c)))])]} (by kernel_rfl) ?_ ?_
 ·simp (maxSteps:=1000000) [go_sem,zlt,LeS,leV,leR,leA,leL,q1,q2,h1,h2,ho,hc]
 ·simp (maxSteps:=1000000) [go_sem]
  exact ret (hx:=by simp[go_sem,zd,leA,leT,jW])
end Go.Proofs.YtjefahhmkcfiiaaGreat
end
section
namespace Go.Proofs.YtjefahhmkcfiiaaGreat
open Go.AM
set_option maxHeartbeats 4000000
set_option maxRecDepth 10000
attribute [local irreducible] za
def uv(l s:List Int):Nat→Nat→Nat
 |0,f=>f
 |n+1,f=>if l.getD f 0=s.getD f 0 then uv l s n (f+1)else f
def QJ(l s:List Int)(f:Nat):Nat→Nat→Nat×Nat
 |o+1,c+1=>if f≤o∧f≤c∧l.getD o 0=s.getD c 0 then QJ l s f o c else(o+1,c+1)
 |o,c=>(o,c)
def jo(l s:List Int)(b o c:Nat):Nat×Nat×Nat:=(uv l s (min o c-b) b,QJ l s (uv l s (min o c-b) b) o c)
theorem zc1(l s:List Int):∀n f,f≤uv l s n f∧uv l s n f≤f+n
 |0,f=>⟨Nat.le_refl _,Nat.le_refl _⟩
 |n+1,f=>by
  unfold uv
  split
  ·have:=zc1 l s n (f+1);omega
  ·omega
theorem zcK(l s:List Int)(f:Nat):∀o c,f≤o→f≤c→f≤(QJ l s f o c).1∧(QJ l s f o c).1≤o∧f≤(QJ l s f o c).2∧(QJ l s f o c).2≤c
 |o+1,c+1,h1,h2=>by
  unfold QJ
  split
  ·rename_i h
   have:=zcK l s f o c h.1 h.2.1;omega
  ·simp only;omega
 |0,c,h1,h2=>by unfold QJ;simp only;omega
 |o+1,0,h1,h2=>by unfold QJ;simp only;omega
theorem Yv {l s:List Int} {i o c:Nat}(ho:o≤l.length)(hc:c≤s.length):
  (∃x,i<o∧i<c∧elemAt (zu l) i=.int .i32 x∧elemAt (zu s) i=.int .i32 x∧uv l s (min o c-i) i=uv l s (min o c- (i+1)) (i+1))∨
   (i<o∧i<c∧∃x y,elemAt (zu l) i=.int .i32 x∧elemAt (zu s) i=.int .i32 y∧x≠y∧uv l s (min o c-i) i=i)∨
   (i<o∧¬i<c∧uv l s (min o c-i) i=i)∨(¬i<o∧uv l s (min o c-i) i=i):=by
 have hgo:∀(_:i<o) (_:i<c),uv l s (min o c-i) i=if l.getD i 0=s.getD i 0 then uv l s (min o c- (i+1)) (i+1)else i:=fun _ _=>by
  have:min o c-i=(min o c- (i+1))+1:=by omega
  rw[this];rfl
 have hno:¬(i<o∧i<c)→uv l s (min o c-i) i=i:=fun h=>by
  have:min o c-i=0:=by omega
  rw[this];rfl
 by_cases d1:i<o
 ·by_cases d2:i<c
  ·have a1:i<l.length:=by omega
   have a2:i<s.length:=by omega
   by_cases q:l.getD i 0=s.getD i 0
   ·exact .inl ⟨_,d1,d2,Qw a1,by rw[Qw a2,q],by rw[hgo d1 d2,if_pos q]⟩
   ·exact .inr (.inl ⟨d1,d2,_,_,Qw a1,Qw a2,q,by rw[hgo d1 d2,if_neg q]⟩)
  ·exact .inr (.inr (.inl ⟨d1,d2,hno (fun h=>d2 h.2)⟩))
 ·exact .inr (.inr (.inr ⟨d1,hno (fun h=>d1 h.1)⟩))
theorem Qq {l s:List Int} {f i j:Nat}(ho:i≤l.length)(hc:j≤s.length):
  (∃x i' j',f<i∧f<j∧i=i'+1∧j=j'+1∧elemAt (zu l) i'=.int .i32 x∧elemAt (zu s) j'=.int .i32 x∧QJ l s f i j=QJ l s f i' j')∨
   (f<i∧f<j∧∃x y i' j',i=i'+1∧j=j'+1∧elemAt (zu l) i'=.int .i32 x∧elemAt (zu s) j'=.int .i32 y∧x≠y∧QJ l s f i j=(i,j))∨
   (f<i∧¬f<j∧QJ l s f i j=(i,j))∨(¬f<i∧QJ l s f i j=(i,j)):=by
 by_cases d1:f<i
 ·obtain⟨i',hi⟩:∃i',i=i'+1:=⟨i-1,by omega⟩
  by_cases d2:f<j
  ·obtain⟨j',hj⟩:∃j',j=j'+1:=⟨j-1,by omega⟩
   have a1:i'<l.length:=by omega
   have a2:j'<s.length:=by omega
   by_cases q:l.getD i' 0=s.getD j' 0
   ·refine .inl ⟨_,i',j',d1,d2,hi,hj,Qw a1,by rw[Qw a2,q],?_⟩
    rw[hi,hj,QJ,if_pos ⟨by omega,by omega,q⟩]
   ·refine .inr (.inl ⟨d1,d2,_,_,i',j',hi,hj,Qw a1,Qw a2,q,?_⟩)
    rw[hi,hj,QJ,if_neg (fun h=>q h.2.2)]
  ·refine .inr (.inr (.inl ⟨d1,d2,?_⟩))
   rw[hi]
   cases j with
   |zero=>rfl
   |succ j=>rw[QJ,if_neg (fun h=>d2 (by omega))]
 ·refine .inr (.inr (.inr ⟨d1,?_⟩))
  cases i with
  |zero=>unfold QJ;rfl
  |succ i=>
   cases j with
   |zero=>rfl
   |succ j=>rw[QJ,if_neg (fun h=>d1 (by omega))]
theorem zia [Gi](l s:List Int)(hl:l.length<2^31)(hs:s.length<2^31)(b o c:Nat)(h1:b≤o)(h2:b≤c)(ho:o≤l.length)(hc:c≤s.length):
  CR Tryz.prog 100 [] [.p (zg l),.p (zg s),.p (wh b o c)] [] (is (.p (wh (jo l s b o c).1 (jo l s b o c).2.1 (jo l s b o c).2.2))):=by
 refine walk Tryz.func100 7 [] [] [] ?_
 unfold jo
 simp (maxSteps:=1000000) [go_sem,Tryz.f100,wh]
 refine loop (fun i:Nat=>b≤i∧i≤o∧i≤c∧uv l s (min o c-i) i=uv l s (min o c-b) b) (fun _=>[]) (fun i=>[([5],[.p (.int .i64 i),.p (.int .i64 o),.p (.int .i64 c)])]) (fun i=>o-i) b ⟨Nat.le_refl _,h1,h2,rfl⟩ (fun i hi=>?_)
 obtain⟨i0,i1,i2,i3⟩:=hi
 rw[←i3]
 rcases Yv (l:=l) (s:=s) (i:=i) ho hc with ⟨x,d1,d2,e1,e2,hst⟩|⟨d1,d2,x,y,e1,e2,q,hst⟩|⟨d1,d2,hst⟩|⟨d1,hst⟩
 ·have a1:i<l.length:=by omega
  have a2:i<s.length:=by omega
  have w1:IntKind.i64.wrap ((i:Int)+1)=((i+1:Nat):Int):=zI (by omega)
  rw[hst]
  simp (maxSteps:=1000000) [go_sem,d1,d2,w1,e1,e2,a1,a2]
  exact next (i+1) ⟨by omega,by omega,by omega,rfl⟩ (h3:=by show o- (i+1)<o-i;omega)
 ·have a1:i<l.length:=by omega
  have a2:i<s.length:=by omega
  rw[hst]
  simp (maxSteps:=1000000) [go_sem,d1,d2,e1,e2,a1,a2,q]
  refine loop (fun j:Nat×Nat=>i≤j.1∧j.1≤o∧i≤j.2∧j.2≤c∧QJ l s i j.1 j.2=QJ l s i o c) (fun _=>[]) (fun j=>[([5],[.p (.int .i64 i),.p (.int .i64 j.1),.p (.int .i64 j.2)])]) (fun j=>j.1) (o,c) ⟨i1,Nat.le_refl _,i2,Nat.le_refl _,rfl⟩ (fun j hj=>?_)
  obtain⟨u,v⟩:=j
  obtain⟨j1,j2,j3,j4,j5⟩:=hj
  simp only at j1 j2 j3 j4 j5
  rw[←j5]
  rcases Qq (l:=l) (s:=s) (f:=i) (i:=u) (j:=v) (by omega) (by omega)with ⟨z,u',v',m1,m2,hu,hv,z1,z2,hn⟩|⟨m1,m2,z,z',u',v',hu,hv,z1,z2,z3,hn⟩|⟨m1,m2,hn⟩|⟨m1,hn⟩
  ·have w1:IntKind.i64.wrap ((u:Int)-1)=(u':Int):=zq (by omega) hu
   have w2:IntKind.i64.wrap ((v:Int)-1)=(v':Int):=zq (by omega) hv
   have b1:u'<l.length:=by omega
   have b2:v'<s.length:=by omega
   rw[hn]
   simp (maxSteps:=1000000) [go_sem,m1,m2,w1,w2,z1,z2,b1,b2]
   exact next (u',v') ⟨by show i≤u';omega,by show u'≤o;omega,by show i≤v';omega,by show v'≤c;omega,rfl⟩ (h3:=by show u'<u;omega)
  ·have w1:IntKind.i64.wrap ((u:Int)-1)=(u':Int):=zq (by omega) hu
   have w2:IntKind.i64.wrap ((v:Int)-1)=(v':Int):=zq (by omega) hv
   have b1:u'<l.length:=by omega
   have b2:v'<s.length:=by omega
   rw[hn]
   simp (maxSteps:=1000000) [go_sem,m1,m2,w1,w2,z1,z2,z3,b1,b2]
   exact ret
  ·rw[hn]
   obtain⟨x1,y1,g1⟩:=zw s (IntKind.i64.wrap ((v:Int)-1)).toNat
   obtain⟨x2,y2,g2⟩:=zw l (IntKind.i64.wrap ((u:Int)-1)).toNat
   by_cases g3:x2=x1
   ·simp (maxSteps:=1000000) [go_sem,m1,m2,g1,g2,g3]
    exact ret
   ·simp (maxSteps:=1000000) [go_sem,m1,m2,g1,g2,g3]
    exact ret
  ·rw[hn]
   obtain⟨x1,y1,g1⟩:=zw s (IntKind.i64.wrap ((v:Int)-1)).toNat
   obtain⟨x2,y2,g2⟩:=zw l (IntKind.i64.wrap ((u:Int)-1)).toNat
   by_cases g3:x2=x1
   ·simp (maxSteps:=1000000) [go_sem,m1,g1,g2,g3]
    exact ret
   ·simp (maxSteps:=1000000) [go_sem,m1,g1,g2,g3]
    exact ret
 ·obtain⟨x1,y1,g1⟩:=zw s i
  obtain⟨x2,y2,g2⟩:=zw l i
  rw[hst]
  by_cases g3:x2=x1
  ·simp (maxSteps:=1000000) [go_sem,d1,d2,g1,g2,g3]
   refine loop (fun j:Nat×Nat=>i≤j.1∧j.1≤o∧i≤j.2∧j.2≤c∧QJ l s i j.1 j.2=QJ l s i o c) (fun _=>[]) (fun j=>[([5],[.p (.int .i64 i),.p (.int .i64 j.1),.p (.int .i64 j.2)])]) (fun j=>j.1) (o,c) ⟨i1,Nat.le_refl _,i2,Nat.le_refl _,rfl⟩ (fun j hj=>?_)
   obtain⟨u,v⟩:=j
   obtain⟨j1,j2,j3,j4,j5⟩:=hj
   simp only at j1 j2 j3 j4 j5
   rw[←j5]
   rcases Qq (l:=l) (s:=s) (f:=i) (i:=u) (j:=v) (by omega) (by omega)with ⟨z,u',v',m1,m2,hu,hv,z1,z2,hn⟩|⟨m1,m2,z,z',u',v',hu,hv,z1,z2,z3,hn⟩|⟨m1,m2,hn⟩|⟨m1,hn⟩
   ·have w1:IntKind.i64.wrap ((u:Int)-1)=(u':Int):=zq (by omega) hu
    have w2:IntKind.i64.wrap ((v:Int)-1)=(v':Int):=zq (by omega) hv
    have b1:u'<l.length:=by omega
    have b2:v'<s.length:=by omega
    rw[hn]
    simp (maxSteps:=1000000) [go_sem,m1,m2,w1,w2,z1,z2,b1,b2]
    exact next (u',v') ⟨by show i≤u';omega,by show u'≤o;omega,by show i≤v';omega,by show v'≤c;omega,rfl⟩ (h3:=by show u'<u;omega)
   ·have w1:IntKind.i64.wrap ((u:Int)-1)=(u':Int):=zq (by omega) hu
    have w2:IntKind.i64.wrap ((v:Int)-1)=(v':Int):=zq (by omega) hv
    have b1:u'<l.length:=by omega
    have b2:v'<s.length:=by omega
    rw[hn]
    simp (maxSteps:=1000000) [go_sem,m1,m2,w1,w2,z1,z2,z3,b1,b2]
    exact ret
   ·rw[hn]
    obtain⟨x1,y1,g1⟩:=zw s (IntKind.i64.wrap ((v:Int)-1)).toNat
    obtain⟨x2,y2,g2⟩:=zw l (IntKind.i64.wrap ((u:Int)-1)).toNat
    by_cases g3:x2=x1
    ·simp (maxSteps:=1000000) [go_sem,m1,m2,g1,g2,g3]
     exact ret
    ·simp (maxSteps:=1000000) [go_sem,m1,m2,g1,g2,g3]
     exact ret
   ·rw[hn]
    obtain⟨x1,y1,g1⟩:=zw s (IntKind.i64.wrap ((v:Int)-1)).toNat
    obtain⟨x2,y2,g2⟩:=zw l (IntKind.i64.wrap ((u:Int)-1)).toNat
    by_cases g3:x2=x1
    ·simp (maxSteps:=1000000) [go_sem,m1,g1,g2,g3]
     exact ret
    ·simp (maxSteps:=1000000) [go_sem,m1,g1,g2,g3]
     exact ret
  ·simp (maxSteps:=1000000) [go_sem,d1,d2,g1,g2,g3]
   refine loop (fun j:Nat×Nat=>i≤j.1∧j.1≤o∧i≤j.2∧j.2≤c∧QJ l s i j.1 j.2=QJ l s i o c) (fun _=>[]) (fun j=>[([5],[.p (.int .i64 i),.p (.int .i64 j.1),.p (.int .i64 j.2)])]) (fun j=>j.1) (o,c) ⟨i1,Nat.le_refl _,i2,Nat.le_refl _,rfl⟩ (fun j hj=>?_)
   obtain⟨u,v⟩:=j
   obtain⟨j1,j2,j3,j4,j5⟩:=hj
   simp only at j1 j2 j3 j4 j5
   rw[←j5]
   rcases Qq (l:=l) (s:=s) (f:=i) (i:=u) (j:=v) (by omega) (by omega)with ⟨z,u',v',m1,m2,hu,hv,z1,z2,hn⟩|⟨m1,m2,z,z',u',v',hu,hv,z1,z2,z3,hn⟩|⟨m1,m2,hn⟩|⟨m1,hn⟩
   ·have w1:IntKind.i64.wrap ((u:Int)-1)=(u':Int):=zq (by omega) hu
    have w2:IntKind.i64.wrap ((v:Int)-1)=(v':Int):=zq (by omega) hv
    have b1:u'<l.length:=by omega
    have b2:v'<s.length:=by omega
    rw[hn]
    simp (maxSteps:=1000000) [go_sem,m1,m2,w1,w2,z1,z2,b1,b2]
    exact next (u',v') ⟨by show i≤u';omega,by show u'≤o;omega,by show i≤v';omega,by show v'≤c;omega,rfl⟩ (h3:=by show u'<u;omega)
   ·have w1:IntKind.i64.wrap ((u:Int)-1)=(u':Int):=zq (by omega) hu
    have w2:IntKind.i64.wrap ((v:Int)-1)=(v':Int):=zq (by omega) hv
    have b1:u'<l.length:=by omega
    have b2:v'<s.length:=by omega
    rw[hn]
    simp (maxSteps:=1000000) [go_sem,m1,m2,w1,w2,z1,z2,z3,b1,b2]
    exact ret
   ·rw[hn]
    obtain⟨x1,y1,g1⟩:=zw s (IntKind.i64.wrap ((v:Int)-1)).toNat
    obtain⟨x2,y2,g2⟩:=zw l (IntKind.i64.wrap ((u:Int)-1)).toNat
    by_cases g3:x2=x1
    ·simp (maxSteps:=1000000) [go_sem,m1,m2,g1,g2,g3]
     exact ret
    ·simp (maxSteps:=1000000) [go_sem,m1,m2,g1,g2,g3]
     exact ret
   ·rw[hn]
    obtain⟨x1,y1,g1⟩:=zw s (IntKind.i64.wrap ((v:Int)-1)).toNat
    obtain⟨x2,y2,g2⟩:=zw l (IntKind.i64.wrap ((u:Int)-1)).toNat
    by_cases g3:x2=x1
    ·simp (maxSteps:=1000000) [go_sem,m1,g1,g2,g3]
     exact ret
    ·simp (maxSteps:=1000000) [go_sem,m1,g1,g2,g3]
     exact ret
 ·obtain⟨x1,y1,g1⟩:=zw s i
  obtain⟨x2,y2,g2⟩:=zw l i
  rw[hst]
  by_cases g3:x2=x1
  ·simp (maxSteps:=1000000) [go_sem,d1,g1,g2,g3]
   refine loop (fun j:Nat×Nat=>i≤j.1∧j.1≤o∧i≤j.2∧j.2≤c∧QJ l s i j.1 j.2=QJ l s i o c) (fun _=>[]) (fun j=>[([5],[.p (.int .i64 i),.p (.int .i64 j.1),.p (.int .i64 j.2)])]) (fun j=>j.1) (o,c) ⟨i1,Nat.le_refl _,i2,Nat.le_refl _,rfl⟩ (fun j hj=>?_)
   obtain⟨u,v⟩:=j
   obtain⟨j1,j2,j3,j4,j5⟩:=hj
   simp only at j1 j2 j3 j4 j5
   rw[←j5]
   rcases Qq (l:=l) (s:=s) (f:=i) (i:=u) (j:=v) (by omega) (by omega)with ⟨z,u',v',m1,m2,hu,hv,z1,z2,hn⟩|⟨m1,m2,z,z',u',v',hu,hv,z1,z2,z3,hn⟩|⟨m1,m2,hn⟩|⟨m1,hn⟩
   ·have w1:IntKind.i64.wrap ((u:Int)-1)=(u':Int):=zq (by omega) hu
    have w2:IntKind.i64.wrap ((v:Int)-1)=(v':Int):=zq (by omega) hv
    have b1:u'<l.length:=by omega
    have b2:v'<s.length:=by omega
    rw[hn]
    simp (maxSteps:=1000000) [go_sem,m1,m2,w1,w2,z1,z2,b1,b2]
    exact next (u',v') ⟨by show i≤u';omega,by show u'≤o;omega,by show i≤v';omega,by show v'≤c;omega,rfl⟩ (h3:=by show u'<u;omega)
   ·have w1:IntKind.i64.wrap ((u:Int)-1)=(u':Int):=zq (by omega) hu
    have w2:IntKind.i64.wrap ((v:Int)-1)=(v':Int):=zq (by omega) hv
    have b1:u'<l.length:=by omega
    have b2:v'<s.length:=by omega
    rw[hn]
    simp (maxSteps:=1000000) [go_sem,m1,m2,w1,w2,z1,z2,z3,b1,b2]
    exact ret
   ·rw[hn]
    obtain⟨x1,y1,g1⟩:=zw s (IntKind.i64.wrap ((v:Int)-1)).toNat
    obtain⟨x2,y2,g2⟩:=zw l (IntKind.i64.wrap ((u:Int)-1)).toNat
    by_cases g3:x2=x1
    ·simp (maxSteps:=1000000) [go_sem,m1,m2,g1,g2,g3]
     exact ret
    ·simp (maxSteps:=1000000) [go_sem,m1,m2,g1,g2,g3]
     exact ret
   ·rw[hn]
    obtain⟨x1,y1,g1⟩:=zw s (IntKind.i64.wrap ((v:Int)-1)).toNat
    obtain⟨x2,y2,g2⟩:=zw l (IntKind.i64.wrap ((u:Int)-1)).toNat
    by_cases g3:x2=x1
    ·simp (maxSteps:=1000000) [go_sem,m1,g1,g2,g3]
     exact ret
    ·simp (maxSteps:=1000000) [go_sem,m1,g1,g2,g3]
     exact ret
  ·simp (maxSteps:=1000000) [go_sem,d1,g1,g2,g3]
   refine loop (fun j:Nat×Nat=>i≤j.1∧j.1≤o∧i≤j.2∧j.2≤c∧QJ l s i j.1 j.2=QJ l s i o c) (fun _=>[]) (fun j=>[([5],[.p (.int .i64 i),.p (.int .i64 j.1),.p (.int .i64 j.2)])]) (fun j=>j.1) (o,c) ⟨i1,Nat.le_refl _,i2,Nat.le_refl _,rfl⟩ (fun j hj=>?_)
   obtain⟨u,v⟩:=j
   obtain⟨j1,j2,j3,j4,j5⟩:=hj
   simp only at j1 j2 j3 j4 j5
   rw[←j5]
   rcases Qq (l:=l) (s:=s) (f:=i) (i:=u) (j:=v) (by omega) (by omega)with ⟨z,u',v',m1,m2,hu,hv,z1,z2,hn⟩|⟨m1,m2,z,z',u',v',hu,hv,z1,z2,z3,hn⟩|⟨m1,m2,hn⟩|⟨m1,hn⟩
   ·have w1:IntKind.i64.wrap ((u:Int)-1)=(u':Int):=zq (by omega) hu
    have w2:IntKind.i64.wrap ((v:Int)-1)=(v':Int):=zq (by omega) hv
    have b1:u'<l.length:=by omega
    have b2:v'<s.length:=by omega
    rw[hn]
    simp (maxSteps:=1000000) [go_sem,m1,m2,w1,w2,z1,z2,b1,b2]
    exact next (u',v') ⟨by show i≤u';omega,by show u'≤o;omega,by show i≤v';omega,by show v'≤c;omega,rfl⟩ (h3:=by show u'<u;omega)
   ·have w1:IntKind.i64.wrap ((u:Int)-1)=(u':Int):=zq (by omega) hu
    have w2:IntKind.i64.wrap ((v:Int)-1)=(v':Int):=zq (by omega) hv
    have b1:u'<l.length:=by omega
    have b2:v'<s.length:=by omega
    rw[hn]
    simp (maxSteps:=1000000) [go_sem,m1,m2,w1,w2,z1,z2,z3,b1,b2]
    exact ret
   ·rw[hn]
    obtain⟨x1,y1,g1⟩:=zw s (IntKind.i64.wrap ((v:Int)-1)).toNat
    obtain⟨x2,y2,g2⟩:=zw l (IntKind.i64.wrap ((u:Int)-1)).toNat
    by_cases g3:x2=x1
    ·simp (maxSteps:=1000000) [go_sem,m1,m2,g1,g2,g3]
     exact ret
    ·simp (maxSteps:=1000000) [go_sem,m1,m2,g1,g2,g3]
     exact ret
   ·rw[hn]
    obtain⟨x1,y1,g1⟩:=zw s (IntKind.i64.wrap ((v:Int)-1)).toNat
    obtain⟨x2,y2,g2⟩:=zw l (IntKind.i64.wrap ((u:Int)-1)).toNat
    by_cases g3:x2=x1
    ·simp (maxSteps:=1000000) [go_sem,m1,g1,g2,g3]
     exact ret
    ·simp (maxSteps:=1000000) [go_sem,m1,g1,g2,g3]
     exact ret
end Go.Proofs.YtjefahhmkcfiiaaGreat
end
