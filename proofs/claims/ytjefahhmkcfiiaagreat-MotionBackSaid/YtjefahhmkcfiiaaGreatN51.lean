/- A part of the proof of this seat's statements, by an abstract machine: what each operation does to values, and what the law's functions compute. Conditions: as each law says. -/
import Derived.Test.YtjefahhmkcfiiaaGreatRows
import Derived.Test.YtjefahhmkcfiiaaGreatN42
import Derived.Test.YtjefahhmkcfiiaaGreatN50
section
namespace Go.Proofs.YtjefahhmkcfiiaaGreat
open Go.AM
set_option maxHeartbeats 4000000
set_option maxRecDepth 10000
attribute [local irreducible] za
theorem zij(L:List (List Int))(c a k n:Int):∀o,vW L c a k n=some o→o≤L.length:=by
 have hk:=Qx L a
 intro o h
 unfold vW at h
 repeat' split at h
 all_goals first
  |(injection h with h;subst h;first|exact U0 _ _ _|exact VH L _ hk|exact Nat.le_refl _|exact Nat.zero_le _|exact Qx L k)
  |cases h
theorem ziy [Gi](s:List Int)(c a k n:Int)(hs:∀x∈s,zL x)(hn: -9223372036854775808≤n∧n≤9223372036854775807):CR Tryz.prog 6 [] [.p (zh s),.p (.int .i64 c),.p (.int .i64 a),.p (.int .i64 k),.p (.int .i64 n)] [] (is (.p (.bool true))):=by
 refine walk Tryz.func6 20 [] [] [] ?_
 simp (maxSteps:=1000000) [go_sem,Tryz.f6]
 refine zn yy ?_
 simp (maxSteps:=1000000) [go_sem]
 refine zn (uE s 60 (by decide)) ?_
 have hl:(s.take 60).length≤60:=by rw[List.length_take];omega
 have hr:∀x∈s.take 60,zL x:=fun x hx=>hs x (List.mem_of_mem_take hx)
 generalize s.take 60=l at hl hr
 simp (maxSteps:=1000000) [go_sem]
 refine zn (uF za kh l (by omega) hr) ?_
 simp (maxSteps:=1000000) [go_sem]
 refine call [] jJ ?_
 rintro _ _ ⟨rfl,e,rfl,hT⟩
 have hnew:=Vw hT l (by omega) hr
 have hln:=lnC l (by omega) hr
 have hL:=zfv l hl
 generalize Zu za l=t at hnew hln hL
 generalize qR za t=L at hnew hln hL
 simp (maxSteps:=1000000) [go_sem]
 refine call [] hnew ?_
 rintro _ _ ⟨X,hX,_,rfl,rfl⟩
 have hcl:=hX.cl
 have hm:=zfR hT hX (by rw[hln.flat];exact hln) c a k n hn
 have hd:=zif hln c a k (Z8 n) (XQ n)
 rw[zc5 (by omega)]at hd
 have hle:=zij L c a k n
 have hka:=Qx L a
 simp (maxSteps:=1000000) [go_sem]
 refine call (xm 28) hm ?_
 rintro _ _ ⟨rfl,rfl⟩
 cases ho:vW L c a k n with
 |none=>
  rw[ho]at hd
  simp only[Kv]at hd
  simp (maxSteps:=1000000) [go_sem,yO,zh9]
  refine zn (zaH n) ?_
  simp (maxSteps:=1000000) [go_sem]
  refine zn hd ?_
  simp (maxSteps:=1000000) [go_sem]
  refine zn Q8 ?_
  simp (maxSteps:=1000000) [go_sem]
  exact ret
 |some o=>
  rw[ho]at hd
  simp only[Kv]at hd
  have b1:isB L (min (plc L (kf L a):Int) (plc L o))=true:=by
   rcases Int.le_total (plc L (kf L a):Int) (plc L o)with q|q
   ·rw[Int.min_eq_left q];exact xd hcl hka
   ·rw[Int.min_eq_right q];exact xd hcl (hle o ho)
  have b2:isB L (max (plc L (kf L a):Int) (plc L o))=true:=by
   rcases Int.le_total (plc L (kf L a):Int) (plc L o)with q|q
   ·rw[Int.max_eq_right q];exact xd hcl (hle o ho)
   ·rw[Int.max_eq_left q];exact xd hcl hka
  have h1:=kM hln (min (plc L (kf L a):Int) (plc L o))
  have h2:=kM hln (max (plc L (kf L a):Int) (plc L o))
  have h3:min (plc L (kf L a):Int) (plc L o)≤max (plc L (kf L a):Int) (plc L o):=by omega
  rw[b1]at h1
  rw[b2]at h2
  simp (maxSteps:=1000000) [go_sem,yO,uW]
  generalize min (plc L (kf L a):Int) (plc L o)=mn at hd h1 h3
  generalize max (plc L (kf L a):Int) (plc L o)=mx at hd h2 h3
  refine zn (zaH n) ?_
  simp (maxSteps:=1000000) [go_sem]
  refine zn hd ?_ (ha':=by simp[go_sem])
  simp (maxSteps:=1000000) [go_sem]
  refine zn h1 ?_
  simp (maxSteps:=1000000) [go_sem]
  refine zn h2 ?_
  simp (maxSteps:=1000000) [go_sem,h3]
  refine zn Q8 ?_
  simp (maxSteps:=1000000) [go_sem]
  exact ret
theorem vn [Gi] {S:St} {dst:Option Nat} {x:Operand} {args:Array Operand} {argTypes:Array TypeId} {tt:TypeId} {pos:String} {after:Array Edge} {guard:Option (Nat×Bool)} {r:AV} {c:Option Bool} {K:St→Prop}(f:FuncId) {as1:List AV}
  (hC:CR Tryz.prog f [] as1 [] (is r)) (hk:dOK S dst∧K (S.qH dst (gv c r))) (hr:WY r=true:=by rfl) (hf:zev (S.ev x)=some f:=by rfl) (hb:((Tryz.prog.funcs[f]?).map (·.body.isSome))=some true∧((Tryz.prog.funcs[f]?).map (·.name))≠some "runtime.NumGoroutine" :=by exact⟨by kernel_rfl,by decide+kernel⟩)
  (ha:(ZZ S [] args.toList).1:=by simp[go_sem]) (ha':(ZZ S [] args.toList).2=as1:=by simp[go_sem]):JL Tryz.prog S ⟨dst,.call ⟨.value x,args,argTypes⟩,tt,pos,after,guard⟩ c K:=
 z7 r hr rfl (fun _=>z6 f hC hf hb ⟨ha,ha'⟩) hk
theorem zcT [Gi](a b:List Int)(hn:a.length+b.length<2^31):CR Tryz.prog 43 [] [.p (zh a),.p (zh b),.p (.opq (.slice none 0 0))] [] (is (.p (zh (a++b)))):=by
 have h:=zeo a b [] (by simpa using hn)
 rw[List.append_nil]at h
 intro w g vs h1 h2
 refine h w g vs ?_ h2
 simp only[zt,zd]at h1⊢
 obtain⟨v1,w1,e1,r1,v2,w2,e2,r2,v3,w3,e3,r3,e4⟩:=h1
 refine⟨v1,w1,e1,r1,v2,w2,e2,r2,v3,w3,e3,?_,e4⟩
 simp only[zk]at r3
 simp only[zh,zk]
 exact .inl ⟨rfl,none,0,r3⟩
theorem zj1 [Gi](s:List Int)(a:Int)(hs:∀x∈s,zL x):CR Tryz.prog 7 [] [.p (zh s),.p (.int .i64 a)] [] (is (.p (.bool true))):=by
 refine walk Tryz.func7 15 [] [10] [] ?_
 simp (maxSteps:=1000000) [go_sem,Tryz.f7]
 refine zn yy ?_
 simp (maxSteps:=1000000) [go_sem]
 refine zn (uE s 60 (by decide)) ?_
 have hl:(s.take 60).length≤60:=by rw[List.length_take];omega
 have hr:∀x∈s.take 60,zL x:=fun x hx=>hs x (List.mem_of_mem_take hx)
 generalize s.take 60=l at hl hr
 simp (maxSteps:=1000000) [go_sem]
 refine zn (uF za kh l (by omega) hr) ?_
 simp (maxSteps:=1000000) [go_sem]
 refine call [] jJ ?_
 rintro _ _ ⟨rfl,e,rfl,hT⟩
 have hnew:=Vw hT l (by omega) hr
 have hln:=lnC l (by omega) hr
 generalize Zu za l=t at hnew hln
 generalize qR za t=L at hnew hln
 simp (maxSteps:=1000000) [go_sem]
 refine call [] hnew ?_
 rintro _ _ ⟨X,hX,_,rfl,rfl⟩
 have hcl:=hX.cl
 have hm:=zfH (e:=e) hX a
 have hd:=zih hln a
 have hfl:=hln.flat
 have hsum:=hln.sum
 have hlt:=hln.n
 unfold Kb at hm
 generalize swK L a=k at hm hd
 simp (maxSteps:=1000000) [go_sem]
 by_cases hc:0<k∧k<L.length
 ·rw[if_pos hc]at hm
  rw[decide_eq_true hc,K6 hc.2]at hd
  have hck:=zct hc.2
  have ek:k=(k-1)+1:=by omega
  have hcb:=zct (L:=L) (k:=k-1) (by omega)
  rw[←ek]at hcb
  rw[hfl]at hck hcb
  have g1:L.getD k []=L[k]:=by rw[List.getD_eq_getElem?_getD,List.getElem?_eq_getElem hc.2];rfl
  have g2:L.getD (k-1) []=L[k-1]'(by omega):=by rw[List.getD_eq_getElem?_getD,List.getElem?_eq_getElem (by omega)];rfl
  rw[g1,g2]at hm
  have z0:=jI hcl (i:=k-1) (j:=k) (by omega) (by omega)
  have z1:=j8 hcl hc.2
  have z2:=va hcl (k:=k+1) (by omega)
  have y1:=vR hc.2
  have y2:=vR (L:=L) (k:=k-1) (by omega)
  rw[←ek]at y2
  generalize L[k]=A at hm hck y1
  generalize L[k-1]'(by omega)=B at hm hcb y2
  have hj:=zcT A B (by omega)
  have hsm:=za5 (A++B) (by rw[List.length_append];omega)
  refine call (xm 23) hm ?_
  rintro _ _ ⟨rfl,rfl⟩
  simp (maxSteps:=1000000) [go_sem]
  refine zn hd ?_
  have b1:(plc L (k-1):Int)≤plc L k:=by omega
  have b2:(plc L k:Int)≤t.length:=by omega
  have b3:(plc L k:Int)≤plc L (k+1):=by omega
  have b4:(plc L (k+1):Int)≤t.length:=by omega
  simp (maxSteps:=1000000) [go_sem,hck,hcb]
  refine⟨by omega,by omega,?_⟩
  refine vn 43 hj ?_
  simp (maxSteps:=1000000) [go_sem]
  refine vn 23 hsm ?_
  simp (maxSteps:=1000000) [go_sem]
  refine vn 38 Q8 ?_
  simp (maxSteps:=1000000) [go_sem]
  exact ret
 ·rw[if_neg hc]at hm
  rw[decide_eq_false hc]at hd
  refine call (xm 23) hm ?_
  rintro _ _ ⟨rfl,rfl⟩
  simp (maxSteps:=1000000) [go_sem]
  refine zn hd ?_
  simp (maxSteps:=1000000) [go_sem]
  refine zn Q8 ?_
  simp (maxSteps:=1000000) [go_sem]
  exact ret
theorem zov [Gi](n:Int):∃m:Nat,m≤7∧IntKind.i64.wrap (BitVec.ofInt IntKind.i64.bits n&&& BitVec.ofInt IntKind.i64.bits 7).toNat=(m:Int):=by
 have h:(BitVec.ofInt IntKind.i64.bits n&&& BitVec.ofInt IntKind.i64.bits 7).toNat≤7:=by
  have e:(BitVec.ofInt IntKind.i64.bits 7).toNat=7:=rfl
  rw[BitVec.toNat_and,e]
  exact Nat.and_le_right
 exact⟨_,h,wrap64 (by omega) (by omega)⟩
theorem zmp {L:List (List Int)}(h:ClL L) {i:Nat}(hi:(i:Int)<qi L):cnt (pl L) ((i:Int)+1)=cnt (pl L) i+(if isB L i=true then 1 else 0):=by
 have q0:=V0 h hi (by omega)
 have q1:=vT L i (by omega)
 have q2:=Jn L i q0
 by_cases c:isB L i=true
 ·have e:(plc L (kf L i):Int)=i:=of_decide_eq_true c
  rw[if_pos c,XJ h (a:=(i:Int)) (by omega)]
  refine wB (by rw[ZU];omega) (fun j hj hjk=>?_) (fun j hj hjk=>?_)
  ·rw[jh];have:=jI h (i:=j) (j:=kf L i) (by omega) (by omega);omega
  ·rw[jh];rw[ZU]at hj;have:=jI h (i:=kf L i+1) (j:=j) hjk (by omega);omega
 ·have e:¬(plc L (kf L i):Int)=i:=fun e=>c (decide_eq_true e)
  rw[if_neg c,zdk h (a:=(i:Int)) (by omega) q0]
  refine wB (by rw[ZU];omega) (fun j hj hjk=>?_) (fun j hj hjk=>?_)
  ·rw[jh];have:=jI h (i:=j) (j:=kf L i) (by omega) (by omega);omega
  ·rw[jh];rw[ZU]at hj;have:=jI h (i:=kf L i+1) (j:=j) hjk (by omega);omega
theorem zkr [Gi](s:List Int)(a n:Int)(hs:∀x∈s,zL x):CR Tryz.prog 8 [] [.p (zh s),.p (.int .i64 a),.p (.int .i64 n)] [] (is (.p (.bool true))):=by
 refine walk Tryz.func8 17 [] [] [] ?_
 obtain⟨n7,hn7,e7⟩:=zov n
 simp[go_sem]at e7
 simp (maxSteps:=1000000) [go_sem,Tryz.f8]
 refine zn yy ?_
 simp (maxSteps:=1000000) [go_sem]
 refine zn (uE s 60 (by decide)) ?_
 have hl:(s.take 60).length≤60:=by rw[List.length_take];omega
 have hr:∀x∈s.take 60,zL x:=fun x hx=>hs x (List.mem_of_mem_take hx)
 generalize s.take 60=l at hl hr
 simp (maxSteps:=1000000) [go_sem]
 refine zn (uF za kh l (by omega) hr) ?_
 simp (maxSteps:=1000000) [go_sem]
 refine call [] jJ ?_
 rintro _ _ ⟨rfl,e,rfl,hT⟩
 have hnew:=Vw hT l (by omega) hr
 have hln:=lnC l (by omega) hr
 have hL:=zfv l hl
 generalize Zu za l=t at hnew hln hL
 generalize qR za t=L at hnew hln hL
 simp (maxSteps:=1000000) [go_sem]
 refine call [] hnew ?_
 rintro _ _ ⟨X,hX,_,rfl,rfl⟩
 have hcl:=hX.cl
 have hsum:=hln.sum
 have hlt:=hln.n
 have hka:=Qx L a
 have hF:=jO e hX a
 generalize kf L a=k at hF hka
 have hm1:=wW hT hX (by rw[hln.flat];exact hln) 3 (plc L k:Nat) n7 (by omega)
 have e1:QO L 3 (plc L k:Nat) n7=(goI L k n7,true):=by unfold QO;rw[if_pos rfl,yW hcl hka]
 rw[e1]at hm1
 have hm2:=wW hT hX (by rw[hln.flat];exact hln) 4 (plc L (goI L k n7):Nat) n7 (by omega)
 have e2:QO L 4 (plc L (goI L k n7):Nat) n7=(goI L (goI L k n7) (Qa n7),true):=by unfold QO;rw[if_neg (by decide),if_pos rfl,yW hcl (U0 _ _ _)]
 rw[e2]at hm2
 have hfin:(L.length:Int)-k<n7∨goI L (goI L k n7) (Qa n7)=k:=by unfold goI Qa;omega
 generalize goI L (goI L k n7) (Qa n7)=b at hm2 hfin
 generalize goI L k n7=g at hm1 hm2
 simp (maxSteps:=1000000) [go_sem,e7]
 refine call (xm 25) hF ?_
 rintro _ _ ⟨rfl,rfl⟩
 simp (maxSteps:=1000000) [go_sem]
 refine call (xm 25) hm1 ?_
 rintro _ _ ⟨rfl,rfl⟩
 simp (maxSteps:=1000000) [go_sem]
 refine call (xm 25) hm2 ?_
 rintro _ _ ⟨rfl,rfl⟩
 simp (maxSteps:=1000000) [go_sem]
 have hpk:=va hcl hka
 refine loop (fun i:Nat=>plc L k≤i∧i≤t.length) (fun i=>[(16,.p (.int .i64 (i:Nat))),(15,.p (.int .i64 ((cnt (pl L) i-k:Nat):Int)))]) (fun _=>[]) (fun i=>t.length-i) (plc L k) ⟨Nat.le_refl _,by omega⟩ (fun i hi=>?_) (by simp[go_sem,LeS,leV,leR,leA,leL,zj,Vy hcl hka])
 obtain⟨h1,h2⟩:=hi
 have hck:k≤cnt (pl L) i:=by
  have hh:=Vy hcl hka
  by_cases q:plc L k=i
  ·rw[←q,hh];exact Nat.le_refl _
  ·have mono:cnt (pl L) (plc L k:Nat)≤cnt (pl L) i:=by
    unfold cnt
    exact List.countP_mono_left (fun x _ hx=>by simp only[decide_eq_true_eq]at hx⊢;omega)
   omega
 have hcl2:=zfA L i
 by_cases c1:i<t.length
 ·have c1':(i:Int)<t.length:=by omega
  have w1:IntKind.i64.wrap ((i:Int)+1)=((i+1:Nat):Int):=zP (by omega)
  have hst:=zmp hcl (i:=i) (by omega)
  have w2:IntKind.i64.wrap (((cnt (pl L) i-k:Nat):Int)+1)=((cnt (pl L) i-k+1:Nat):Int):=zP (by omega)
  simp (maxSteps:=1000000) [go_sem,c1']
  refine zn (kM hln i) ?_
  by_cases cb:isB L i=true
  ·rw[if_pos cb]at hst
   have e3:cnt (pl L) ((i:Int)+1)-k=cnt (pl L) i-k+1:=by omega
   simp (maxSteps:=1000000) [go_sem,cb,w1,w2]
   exact next (i+1) ⟨by omega,c1⟩ (by omega) (by simp[go_sem,LeS,leV,leR,leA,leL,zj,e3])
  ·have cb':isB L i=false:=by simpa using cb
   rw[if_neg cb]at hst
   have e3:cnt (pl L) ((i:Int)+1)-k=cnt (pl L) i-k:=by omega
   simp (maxSteps:=1000000) [go_sem,cb',w1]
   exact next (i+1) ⟨by omega,c1⟩ (by omega) (by simp[go_sem,LeS,leV,leR,leA,leL,zj,e3])
 ·have c1':¬(i:Int)<t.length:=by omega
  have ei:i=t.length:=by omega
  have e3:cnt (pl L) i=L.length:=zfT hcl (by omega)
  rw[e3]
  by_cases cn:(L.length:Int)-k<n7
  ·have cn':((L.length-k:Nat):Int)<n7:=by omega
   have cn'':L.length-k<n7:=by omega
   simp (maxSteps:=1000000) [go_sem,c1',cn']
   refine zn Q8 ?_
   simp (maxSteps:=1000000) [go_sem]
   exact ret
  ·have cn':¬((L.length-k:Nat):Int)<n7:=by omega
   have cn'':¬L.length-k<n7:=by omega
   have eb:b=k:=hfin.resolve_left cn
   subst eb
   simp (maxSteps:=1000000) [go_sem,c1',cn']
   refine zn Q8 ?_
   simp (maxSteps:=1000000) [go_sem]
   exact ret
end Go.Proofs.YtjefahhmkcfiiaaGreat
end
