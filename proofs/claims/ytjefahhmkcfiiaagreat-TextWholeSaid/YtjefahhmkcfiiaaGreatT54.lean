/- A part of the proof of this seat's statements, by an abstract machine: what each operation does to values, and what the law's functions compute. Conditions: as each law says. -/
import Derived.Test.YtjefahhmkcfiiaaGreatT49
import Derived.Test.YtjefahhmkcfiiaaGreatT44
import Derived.Test.YtjefahhmkcfiiaaGreatT40
import Derived.Test.YtjefahhmkcfiiaaGreatT36
section
namespace Go.Proofs.YtjefahhmkcfiiaaGreat
open Go.AM
set_option maxHeartbeats 4000000
set_option maxRecDepth 10000
attribute [local irreducible] za
theorem zlk [Gi](l:List Int)(hn:l.length<2^20)(hr:∀x∈l,zB x)(h:zZ za l=l):CR Tryz.prog 53 [] [.p (zK za),.p (zg l)] [] (is (.p (.bool true))):=by
 refine walk Tryz.func53 5 [] [] [] ?_
 have h1:=Wx za ZN l hn hr
 rw[h]at h1
 simp (maxSteps:=1000000) [go_sem,Tryz.f53]
 refine zo h1 ?_
 simp (maxSteps:=1000000) [go_sem]
 refine zo (jv l (by omega)) ?_
 simp (maxSteps:=1000000) [go_sem]
 exact ret
theorem zcI [Gi](s:List Int)(es:List WW)(hs:∀x∈s,zB x)(he:∀o∈es,kd o):CR Tryz.prog 11 [] [.p (zg s),.p (Z9 es)] [] (is (.p (.bool true))):=by
 refine walk Tryz.func11 16 [] [] [] ?_
 simp (maxSteps:=1000000) [go_sem,Tryz.f11]
 refine zo (vu s 40 (by decide)) ?_
 have hl:(s.take 40).length≤40:=by rw[List.length_take];omega
 have hr:∀x∈s.take 40,zB x:=fun x hx=>hs x (List.mem_of_mem_take hx)
 generalize s.take 40=l at hl hr
 simp (maxSteps:=1000000) [go_sem]
 refine zo xV ?_
 simp (maxSteps:=1000000) [go_sem]
 refine call [] kS ?_
 rintro _ _ ⟨rfl,e,rfl,hT⟩
 have hsh:=yd l
 have hnew:=WB hT l (by omega) hr (by omega)
 have hln:=lnC l (by omega) hr
 have hd0:jL (zZ za l)≤120:=by
  have:jL l≤3*l.length:=yC l
  rw[uY];omega
 have hn0:=Ky l
 generalize zZ za l=t at hnew hln hd0 hn0
 obtain⟨z0,e0,rfl⟩:=jB hT
 simp (maxSteps:=1000000) [go_sem]
 refine call [] hnew ?_
 rintro _ _ ⟨X,hX,_,rfl,rfl⟩
 simp (maxSteps:=1000000) [go_sem]
 refine loop (fun r:Nat×List Int×Tx=>r.1≤es.length∧r.1≤10∧Ln r.2.1 (zL za r.2.1)∧zZ za r.2.1=r.2.1∧jL r.2.1≤120+45*r.1∧yP r.2.2 (zL za r.2.1))
  (fun r=>[(7,.p (.int .i64 r.1)),(8,.zW),(9,.zW),(10,.zW),(11,.zW),(12,.zW),(13,.zW),(14,.zW),(15,.zW)])
  (fun r=>[([22,0],[.p (.pt z0 e0),.lp [22,0,1] 0,.p (.sl 1 (Zt (pl (zL za r.2.1)))),.p (.int .i64 (qd (zL za r.2.1):Nat))]),([22,0,1],[.la [22,0,2] 1 0 r.2.2.g.length,.p (.int .i64 (r.2.2.f:Nat)),.p (.int .i64 (r.2.2.t:Nat))]),([22,0,2],rcs r.2.2.g)])
  (fun r=>10-r.1) (0,t,X) ⟨Nat.zero_le _,by show 0≤10;omega,hln,hn0,by show jL t≤120+45*0;omega,hX⟩ (fun r hi=>?_)
 obtain⟨i,l,X⟩:=r
 obtain⟨i1,i2,hl,hnf,hd,hX⟩:=hi
 simp only at i1 i2 hl hnf hd hX
 by_cases c1:i<es.length
 ·by_cases c2:i<10
  ·have em:elemAt (es.map kj) i=kj es[i]:=zr kj es i c1
   have hk:=he es[i] (List.getElem_mem c1)
   generalize es[i]=x at em hk
   obtain⟨xf,xb,xk⟩:=x
   simp only[kd]at hk
   have c2':(i:Int)<10:=by omega
   have lk:(xk.take 15).length≤15:=by rw[List.length_take];omega
   have rk:∀y∈xk.take 15,zB y:=fun y hy=>hk y (List.mem_of_mem_take hy)
   have hfew:=vu xk 15 (by decide)
   generalize xk.take 15=ks at lk rk hfew
   have w3:IntKind.i64.wrap ((i:Int)+1)=((i+1:Nat):Int):=zI (by omega)
   obtain⟨m,hm,hw⟩:=zpP xb
   simp (maxSteps:=1000000) [go_sem]at hw
   have hfl:=hl.flat
   have hsum:=hl.sum
   have hcl:=hl.cl
   have hLd:=hl.eq
   obtain⟨L,hL⟩:∃L,L=zL za l:=⟨_,rfl⟩
   rw[←hL]at hl hX hfl hsum hcl
   have gr:=WR (.pt z0 e0) hX
   rw[hfl]at gr
   have gf:=Ws (.pt z0 e0) hX xf
   have ka:=uq L xf
   obtain⟨a,ha⟩:∃a,a=plc L (kf L xf):=⟨_,rfl⟩
   rw[←ha]at gf
   have go:=zgg (.pt z0 e0) hX (a:Nat) (m:Nat)
   have kg:=zjZ L (a:Nat) (m:Nat)
   obtain⟨b,hb⟩:∃b,b=plc L (goK L (a:Nat) (m:Nat)):=⟨_,rfl⟩
   have ea:kf L (a:Nat)=kf L xf:=by rw[ha];exact yT hcl ka
   have hab:a≤b:=by
    rw[ha,hb]
    refine jZ hcl ?_ kg
    unfold goK
    rw[ea];omega
   have hbl:b≤l.length:=by rw[hb,←hsum];exact vV hcl kg
   have pa:plc L (kf L (a:Nat))=a:=by rw[ea,ha]
   have pb:plc L (kf L (b:Nat))=b:=by
    have:kf L (b:Nat)=goK L (a:Nat) (m:Nat):=by rw[hb];exact yT hcl kg
    rw[this,hb]
   rw[←hb]at go
   have hlen:=ue l
   obtain⟨r1,r2,r3,r4⟩:=YL hl hnf (d:=120+45*i) hd (by omega) hab hbl pa pb lk rk
   have hM:=zcb hT hX hl (by omega) a b ks (by omega) rk
   have hO:=zf7 hl (by omega) a b (ins:=ks) (by omega) rk
   rw[r1]at hM hO
   have hcar:isB (zL za (ux l a b ks).l) (ux l a b ks).k=true:=by
    refine zcE hO.1.cl ?_
    have:=uK (pl (zL za (zD l a b ks))) (qE l (zD l a b ks) (qU l a) b (onL l b) (YU l a b ks):Nat)
    rw[qo]at this
    exact this
   have hst:(ux l a b ks).s=0:=rfl
   generalize ux l a b ks=rp at hM hO r2 r3 r4 hcar hst
   obtain⟨l',qa,qb,qc,k,st⟩:=rp
   simp only at hO r2 r3 r4 hcar hst
   subst hst
   simp (maxSteps:=1000000) [go_sem,Z9,kj,c1,c2',em]
   refine zo hfew ?_
   simp (maxSteps:=1000000) [go_sem,←hL]
   refine call (xm 22) gr ?_
   rintro _ _ ⟨rfl,rfl⟩
   simp (maxSteps:=1000000) [go_sem]
   refine call (xm 22) gf ?_
   rintro _ _ ⟨rfl,rfl⟩
   simp (maxSteps:=1000000) [go_sem,hw]
   refine call (xm 22) go ?_
   rintro _ _ ⟨rfl,rfl⟩
   simp (maxSteps:=1000000) [go_sem]
   refine call (xm 22) hM ?_
   rintro _ _ ⟨Y,hY,rfl,rfl⟩
   have q1:¬b<a:=by omega
   have k1:cut l 0 (a:Nat)=l.take a:=by simp[cut]
   have k2:cut l (b:Nat) (l.length:Nat)=l.drop b:=by simp[cut,List.take_of_length_le]
   simp (maxSteps:=1000000) [go_sem,Rep.told,q1,k1,k2]
   have gr2:=WR (.pt z0 e0) hY
   have hfl2:=hO.1.flat
   rw[hfl2]at gr2
   refine⟨by omega,by omega,by omega,hbl,by omega,call (xm 22) gr2 ?_⟩
   rintro _ _ ⟨rfl,rfl⟩
   simp (maxSteps:=1000000) [go_sem]
   have hWr:∀y∈l.take a++(ks++l.drop b),zB y:=Qi (QH hl.r _) (Qi rk (QA hl.r _))
   have gn:=Wx za ZN (l.take a++(ks++l.drop b)) (by simp only[List.length_append,List.length_take,List.length_drop];omega) hWr
   rw[←r2]at gn
   refine zo gn ?_
   simp (maxSteps:=1000000) [go_sem]
   refine zo (jv l' (by omega)) ?_
   simp (maxSteps:=1000000) [go_sem]
   refine zo (zlk l' (by omega) hO.1.r r3) ?_
   simp (maxSteps:=1000000) [go_sem]
   have gb:=xW hO.1 k
   rw[hcar]at gb
   refine zo gb ?_
   simp (maxSteps:=1000000) [go_sem,w3]
   exact next (i+1,l',Y) ⟨c1,c2,hO.1,r3,by show jL l'≤120+45*(i+1);omega,hY⟩ (h3:=by show 10- (i+1)<10-i;omega)
  ·obtain rfl:i=10:=by omega
   simp (maxSteps:=1000000) [go_sem,Z9]
   refine zo xg ?_
   simp (maxSteps:=1000000) [go_sem]
   exact ret
 ·simp (maxSteps:=1000000) [go_sem,Z9,c1]
  refine zo xg ?_
  simp (maxSteps:=1000000) [go_sem]
  exact ret
end Go.Proofs.YtjefahhmkcfiiaaGreat
end
