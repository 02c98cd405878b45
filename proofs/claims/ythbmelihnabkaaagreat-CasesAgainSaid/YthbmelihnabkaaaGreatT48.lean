/- A part of the proof of this seat's statements, by an abstract machine: what each operation does to values, and what the law's functions compute. Conditions: as each law says. -/
import Derived.Test.YthbmelihnabkaaaGreatT40
section
namespace Go.Proofs.YthbmelihnabkaaaGreat
open Go.AM
set_option maxHeartbeats 4000000
set_option maxRecDepth 10000
attribute [local irreducible] za
def zlF:OT:=.now 0 0 (.now 1 0 (.now 2 0 (.now 3 0 (.now 4 0 (.now 5 0 (.now 6 0 (.mk [(7,.now 8 0 (.now 9 0 (.now 10 2 (.mk [(11,.mk [])]))))])))))))
def zil(L:List (List Int))(a:Nat):AV→List (Tok×List AV)→Prop:=fun y rs=>∃k,(k<L.length∧plc L k≤a∧y=.p (.int .i64 (plc L k:Nat)))∧rs=[]
theorem zk1 [Gi] {e:PV}(hT:Zl e) {l:List Int} {L:List (List Int)}(h:Ln l L)(a:Nat)(ha:a<l.length):CR Tryz.prog 171 [] [.p e,.p (zh l),.p (.int .i64 a)] [] (zil L a):=by
 refine walk Tryz.func171 10 [] [200004,200005] [] ?_
 have hs:=h.sum
 have hcl:=h.cl
 have hln:=h.n
 have h0:0<L.length:=by
  cases L with
  |nil=>rw[show Zd []=0 from rfl]at hs;omega
  |cons c L=>simp
 simp (maxSteps:=1000000) [go_sem,Tryz.f171]
 refine loop (fun i:Nat=>i≤a) (fun i=>[(2,.p (.int .i64 (i:Nat))),(7,.zX),(8,.zX),(9,.zX)]) (fun _=>[]) (fun i=>i) a (Nat.le_refl _) (fun i hi=>?_)
 by_cases c0:i=0
 ·subst c0
  simp (maxSteps:=1000000) [go_sem]
  exact zg (.p (.int .i64 0)) rfl (by simp[go_sem,zd,leA,leT]) ⟨0,⟨h0,by rw[Zr];omega,by rw[Zr];rfl⟩,rfl⟩
 ·obtain⟨j,hj⟩:∃j,i=j+1:=⟨i-1,by omega⟩
  have c1:(0:Int)<i:=by omega
  have c1':0<i:=by omega
  have w1:IntKind.i64.wrap ((i:Int)-1)=(j:Int):=zL (by omega) hj
  have hjl:j<l.length:=by omega
  have hil:i<l.length:=by omega
  obtain⟨p,hp⟩:∃p,l[j]=p:=⟨_,rfl⟩
  obtain⟨x,hx⟩:∃x,l[i]=x:=⟨_,rfl⟩
  have em1:elemAt (zx l) j=.int .i32 p:=by rw[Qn hjl,hp]
  have em2:elemAt (zx l) i=.int .i32 x:=by rw[Qn hil,hx]
  have hpr:zD p:=h.r p (by rw[←hp];exact List.getElem_mem _)
  have hxr:zD x:=h.r x (by rw[←hx];exact List.getElem_mem _)
  have g1:(j:Int)<l.length:=by omega
  have g2:(i:Int)<l.length:=by omega
  have hst:=JM hT (q9 T0 Qo p).1 x hxr
  have hcut:(q9 T0 (q9 T0 Qo p).1 x).2=yA za p [] x:=by
   have e1:(q9 T0 Qo p).1=Zi Qo (zE za p) (pcD p) (ZB za p):=by rw[yz]
   rw[e1,yz]
   have hv:=VF.start (pre:=[]) (x:=p) (.inl rfl)
   have:=hv.cut x
   simp only[hv.so,Bool.not_true,Bool.false_or]
   exact this
  have hall:yA za p [] x=true→Yo p x=false→∃k,k<L.length∧plc L k=i:=fun b1 b2=>by
   have b3:=Vh l L h.eq hcl j (by omega)
   simp only[hp,←hj,hx]at b3
   rw[ziU b1 b2]at b3
   have b4:(plc L (kf L i):Int)=i:=of_decide_eq_true b3.symm
   exact⟨kf L i,WA hcl (by omega) (by omega),by omega⟩
  simp (maxSteps:=1000000) [go_sem,c1']
  refine Zc zlF (by kernel_rfl) ?_
  simp (maxSteps:=1000000) [go_sem,zlF,w1,em1,g1]
  refine zn (JM hT Qo p hpr) ?_ (ha':=by simp[go_sem,jB,Qo])
  simp (maxSteps:=1000000) [go_sem,jB]
  refine Zc zfH (by kernel_rfl) ?_
  simp (maxSteps:=1000000) [go_sem,zfH,em2,g2]
  constructor
  ·refine zn hst ?_ (ha':=by simp[go_sem,jB])
   rw[hcut]
   cases hb:yA za p [] x with
   |true=>
    simp (maxSteps:=1000000) [go_sem,jB,w1,em1,em2,g1,g2]
    refine zn (zby hT hpr hxr) ?_
    cases hh:Yo p x with
    |true=>
     simp (maxSteps:=1000000) [go_sem,w1]
     exact next j (by omega) (by omega)
    |false=>
     obtain⟨k,k1,k2⟩:=hall hb hh
     simp (maxSteps:=1000000) [go_sem]
     exact zg (.p (.int .i64 (i:Nat))) rfl (by simp[go_sem,zd,leA,leT]) ⟨k,⟨k1,by omega,by rw[k2]⟩,rfl⟩
   |false=>
    simp (maxSteps:=1000000) [go_sem,jB,w1,em1,em2,g1,g2]
    exact next j (by omega) (by omega)
  ·refine zn hst ?_ (ha':=by simp[go_sem,jB])
   rw[hcut]
   cases hb:yA za p [] x with
   |true=>
    simp (maxSteps:=1000000) [go_sem,jB,w1,em1,em2,g1,g2]
    refine zn (zby hT hpr hxr) ?_
    cases hh:Yo p x with
    |true=>
     simp (maxSteps:=1000000) [go_sem,w1]
     exact next j (by omega) (by omega)
    |false=>
     obtain⟨k,k1,k2⟩:=hall hb hh
     simp (maxSteps:=1000000) [go_sem]
     exact zg (.p (.int .i64 (i:Nat))) rfl (by simp[go_sem,zd,leA,leT]) ⟨k,⟨k1,by omega,by rw[k2]⟩,rfl⟩
   |false=>
    simp (maxSteps:=1000000) [go_sem,jB,w1,em1,em2,g1,g2]
    exact next j (by omega) (by omega)
end Go.Proofs.YthbmelihnabkaaaGreat
end
