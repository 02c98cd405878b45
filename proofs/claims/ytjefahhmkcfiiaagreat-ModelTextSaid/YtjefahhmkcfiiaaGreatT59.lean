/- A part of the proof of this seat's statements, by an abstract machine: what each operation does to values, and what the law's functions compute. Conditions: as each law says. -/
import Derived.Test.YtjefahhmkcfiiaaGreatT49
import Derived.Test.YtjefahhmkcfiiaaGreatT45
import Derived.Test.YtjefahhmkcfiiaaGreatT50
import Derived.Test.YtjefahhmkcfiiaaGreatT40
import Derived.Test.YtjefahhmkcfiiaaGreatT36
import Derived.Test.YtjefahhmkcfiiaaGreatT58
section
namespace Go.Proofs.YtjefahhmkcfiiaaGreat
open Go.AM
set_option maxHeartbeats 1000000
set_option maxRecDepth 10000
attribute [local irreducible] za
theorem za8:∀(C:List (List Int)) (n:Int),Qe n C=cnt (pl C) n
 | [],n=>by simp[Qe,cnt,pl]
 |c::C,n=>by
  have ih:=za8 C (n-c.length)
  have e:pl (c::C)=0::(pl C).map (c.length+·):=by
   unfold pl
   rw[List.length_cons,List.range_succ_eq_map,List.map_cons,Qh,List.map_map,List.map_map]
   congr 1
  unfold Qe
  rw[e]
  unfold cnt at ih⊢
  rw[List.countP_cons,List.countP_map]
  split
  ·rename_i h
   have h0:List.countP ((fun s:Nat=>decide ((s:Int)<n))∘(c.length+·)) (pl C)=0:=by
    rw[List.countP_eq_zero]
    intro a _
    simp only[Function.comp,decide_eq_true_eq]
    omega
   rw[h0,if_neg (by simp only[decide_eq_true_eq];omega)]
  ·rename_i h
   rw[ih,if_pos (by simp only[decide_eq_true_eq];omega)]
   congr 1
   apply List.countP_congr
   intro a _
   simp only[Function.comp,decide_eq_true_eq]
   omega
theorem vJ:∀z x y:List Int,qN (z++x) (z++y)=z.length+qN x y
 | [],x,y=>by simp
 |a::z,x,y=>by
  have:=vJ z x y
  rw[List.cons_append,List.cons_append,qN,if_pos rfl,this,List.length_cons];omega
theorem Xp:∀u v w:List Int,qN u w<u.length→qN (u++v) w=qN u w
 | [],v,w,h=>by simp at h
 |a::u,v,[],h=>by simp[qN]
 |a::u,v,b::w,h=>by
  have ih:=Xp u v w
  rw[List.cons_append]
  unfold qN at h⊢
  split
  ·rename_i q
   rw[if_pos q,List.length_cons]at h
   rw[ih (by omega)]
  ·rfl
theorem XT:∀u w:List Int,qN u w=u.length→∃z,w=u++z
 | [],w,_=>⟨w,rfl⟩
 |a::u,[],h=>by simp[qN]at h
 |a::u,b::w,h=>by
  unfold qN at h
  split at h
  ·rename_i q
   rw[List.length_cons]at h
   obtain⟨z,hz⟩:=XT u w (by omega)
   exact⟨z,by rw[hz,q];rfl⟩
  ·simp at h
theorem zlR {l:List Int}(h:jL l=0):l=[]:=by
 have:=ue l
 exact List.length_eq_zero_iff.1 (by omega)
theorem zdJ {l:List Int} {p k:Nat}(h1:p≤k)(h2:k<l.length):((l.take (k+1)).drop p).reverse=l.getD k 0::((l.take k).drop p).reverse:=by
 have e:l.take (k+1)=l.take k++[l.getD k 0]:=by
  rw[List.take_add_one,List.getElem?_eq_getElem h2,List.getD_eq_getElem?_getD,List.getElem?_eq_getElem h2];rfl
 rw[e,List.drop_append_of_le_length (by rw[List.length_take];omega),List.reverse_append];rfl
theorem Jl(l s:List Int)(b p:Nat):∀k m,p≤k→k≤l.length→b≤m→m≤s.length→qE l s b p k m=m-qN ((s.take m).drop b).reverse ((l.take k).drop p).reverse
 |0,m,h1,_,h3,h4=>by
  have e:(l.take 0).drop p=[]:=by simp
  rw[e]
  cases (List.drop b (List.take m s)).reverse<;>simp[qE,qN]
 |k+1,m,h1,h2,h3,h4=>by
  unfold qE
  by_cases c1:p≤k
  ·rw[zdJ c1 (by omega)]
   by_cases c2:b<m
   ·obtain⟨m',rfl⟩:∃m',m=m'+1:=⟨m-1,by omega⟩
    rw[zdJ (l:=s) (p:=b) (k:=m') (by omega) (by omega)]
    rw[Nat.add_sub_cancel]
    by_cases c3:l.getD k 0=s.getD m' 0
    ·rw[if_pos ⟨c1,c2,c3⟩,Jl l s b p k m' c1 (by omega) (by omega) (by omega),qN,if_pos c3.symm]
     omega
    ·rw[if_neg (fun h=>c3 h.2.2),qN,if_neg (fun h=>c3 h.symm)];omega
   ·have:m=b:=by omega
    subst this
    rw[if_neg (by omega)]
    have e:(s.take m).drop m=[]:=by rw[List.drop_eq_nil_of_le (by rw[List.length_take];omega)]
    rw[e]
    simp[qN]
  ·have:p=k+1:=by omega
   subst this
   rw[if_neg (by omega)]
   have e:(l.take (k+1)).drop (k+1)=[]:=by rw[List.drop_eq_nil_of_le (by rw[List.length_take];omega)]
   rw[e]
   cases (List.drop b (List.take m s)).reverse<;>simp[qN]
theorem zeL(l:List Int) {f t:Nat}(hft:f≤t)(ht:t≤l.length)(ins:List Int):
  (zD l f t ins).length-ZP (zD l f t ins) (l.drop t)=qE l (zD l f t ins) (qU l f) t (onL l t) (qU l f+(yM l f t ins).length):=by
 have hb:=xB l f
 have ho:=VA l ht
 have hd:jL (cut l (t:Nat) (onL l t:Nat))≤jL (yM l f t ins):=by
  unfold yM
  rw[uY,kH,kH];omega
 unfold zD
 generalize yM l f t ins=M at hd⊢
 have hB:cut l (t:Nat) (onL l t:Nat)=(l.take (onL l t)).drop t:=by
  unfold cut;rw[Int.toNat_natCast,Int.toNat_natCast,List.drop_take]
 rw[hB]at hd
 generalize qU l f=b at hb⊢
 generalize onL l t=o at ho hd⊢
 have lb:(l.take b).length=b:=by rw[List.length_take];omega
 have eD:l.drop t=(l.take o).drop t++l.drop o:=by
  conv=>lhs;rw[←List.take_append_drop o l]
  rw[List.drop_append_of_le_length (by rw[List.length_take];omega)]
 have eT:((l.take b++(M++l.drop o)).take (b+M.length)).drop b=M:=by
  rw[←List.append_assoc,List.take_left' (by rw[List.length_append,lb]),List.drop_left' lb]
 have eA:=Jl l (l.take b++(M++l.drop o)) b t o (b+M.length) (by omega) (by omega) (by omega) (by simp only[List.length_append,lb];omega)
 rw[eA,eT]
 have eL:ZP (l.take b++(M++l.drop o)) (l.drop t)=(l.length-o)+qN M.reverse ((l.take o).drop t).reverse:=by
  unfold ZP
  rw[eD,List.reverse_append,List.reverse_append,List.reverse_append,List.append_assoc,vJ,List.length_reverse,List.length_drop]
  congr 1
  have hle:=(WG M.reverse ((l.take o).drop t).reverse).1
  by_cases c:qN M.reverse ((l.take o).drop t).reverse<M.reverse.length
  ·exact Xp _ _ _ c
  ·obtain⟨z,hz⟩:=XT _ _ (by omega:qN M.reverse ((l.take o).drop t).reverse=M.reverse.length)
   have hz2:(l.take o).drop t=z.reverse++M:=by
    have:=congrArg List.reverse hz
    rw[List.reverse_reverse,List.reverse_append,List.reverse_reverse]at this
    exact this
   rw[hz2,kH]at hd
   have z0:z=[]:=by
    have:=zlR (l:=z.reverse) (by omega)
    exact List.reverse_eq_nil_iff.1 this
   rw[z0,List.append_nil]at hz
   rw[hz]
   have h1:=vJ M.reverse (l.take b).reverse []
   have h2:=vJ M.reverse [] []
   rw[List.append_nil]at h1 h2
   rw[h1]
   rw[h2]
   cases (l.take b).reverse<;>simp[qN]
 rw[eL]
 have hle:=(WG M.reverse ((l.take o).drop t).reverse).1
 rw[List.length_reverse]at hle
 simp only[List.length_append,lb,List.length_drop]
 omega
theorem zle {l:List Int} {L:List (List Int)}(hl:Ln l L)(hnf:zZ za l=l) {f e:Nat}(hfe:f≤e)(he:e≤L.length)(at0:Int)(s:List Int)(hlen:(zD l (plc L f) (plc L e) s).length≤65536):
  ∃k:Nat,Qt (zZ za) (zL za) L at0 f e s=(zL za (ux l (plc L f) (plc L e) s).l,(k:Int),true)∧k≤(zL za (ux l (plc L f) (plc L e) s).l).length∧(ux l (plc L f) (plc L e) s).k=(plc (zL za (ux l (plc L f) (plc L e) s).l) k:Nat):=by
 have hfl:=hl.flat
 have hcl:=hl.cl
 have hsum:=hl.sum
 have h1:(L.take f).flatten=l.take (plc L f):=by
  rw[←hfl]
  have h:=congrArg List.flatten (List.take_append_drop f L)
  rw[List.flatten_append]at h
  rw[←h,List.take_left' (by rw[z8];rfl)]
 have h2:(L.drop e).flatten=l.drop (plc L e):=by
  rw[←hfl]
  have h:=congrArg List.flatten (List.take_append_drop e L)
  rw[List.flatten_append]at h
  rw[←h,List.drop_left' (by rw[z8];rfl)]
 have hpe:plc L e≤l.length:=by rw[←hsum];exact vV hcl he
 have hpf:plc L f≤plc L e:=jZ hcl hfe he
 have hX:zZ za (l.take (plc L f)++(s++l.drop (plc L e)))=zD l (plc L f) (plc L e) s:=(JS hnf hpf hpe s).symm
 have hA:=zeL l hpf hpe s
 have hle:=(K0 (zD l (plc L f) (plc L e) s) (l.drop (plc L e))).1
 refine⟨cnt (pl (zL za (zD l (plc L f) (plc L e) s))) (((zD l (plc L f) (plc L e) s).length:Int)-ZP (zD l (plc L f) (plc L e) s) (l.drop (plc L e))),?_,?_,?_⟩
 ·unfold Qt
  rw[if_neg (by omega)]
  simp only[Int.toNat_natCast]
  rw[h1,h2,hX,if_neg (by omega),za8]
  rfl
 ·have:=uK (pl (zL za (zD l (plc L f) (plc L e) s))) (((zD l (plc L f) (plc L e) s).length:Int)-ZP (zD l (plc L f) (plc L e) s) (l.drop (plc L e)))
  rw[qo]at this
  exact this
 ·show((plc _ (cnt _ _):Nat):Int)=_
  have e1:((zD l (plc L f) (plc L e) s).length:Int)-ZP (zD l (plc L f) (plc L e) s) (l.drop (plc L e))=(qE l (zD l (plc L f) (plc L e) s) (qU l (plc L f)) (plc L e) (onL l (plc L e)) (YU l (plc L f) (plc L e) s):Nat):=by
   unfold YU
   rw[←hA];omega
  rw[e1]
  rfl
end Go.Proofs.YtjefahhmkcfiiaaGreat
end
section
namespace Go.Proofs.YtjefahhmkcfiiaaGreat
open Go.AM
set_option maxHeartbeats 4000000
set_option maxRecDepth 10000
attribute [local irreducible] za
theorem zm7 [Gi] {e:PV}(hT:Zc e)(L:List (List Int))(hL:xv L)(a f' z:Int)(s:List Int)(hs:s.length≤1000)(hr:∀x∈s,zB x):
  CR Tryz.prog 20 [] [.p (zG L a),.p e,.p (.int .i64 f'),.p (.int .i64 z),.p (zg s)] [] (is (jt (Qt (zZ za) (zL za) L a f' z s))):=by
 obtain⟨c,b,j,f,p,h,rfl⟩:=hT
 exact xp h _ _ L hL a f' z s hs hr
theorem zcA {a n:Int}(h:0<n): -n<a.tmod n∧a.tmod n<n:=by
 have h1:=Int.tmod_lt_of_pos a h
 have h2:=Int.lt_tmod_of_pos a h
 exact⟨h2,h1⟩
theorem zm4(d:Int) {n:Nat}(hn:n<2^31):∃m:Nat,m≤n∧((d.tmod ((n:Int)+1)+n+1).tmod ((n:Int)+1))=(m:Int):=by
 have h:=zcA (a:=d) (n:=(n:Int)+1) (by omega)
 have h2:=zcA (a:=d.tmod ((n:Int)+1)+n+1) (n:=(n:Int)+1) (by omega)
 have h3:=Int.tmod_nonneg (a:=d.tmod ((n:Int)+1)+n+1) ((n:Int)+1) (by omega)
 exact⟨((d.tmod ((n:Int)+1)+n+1).tmod ((n:Int)+1)).toNat,by omega,by omega⟩
theorem zjb {l:List Int} {L:List (List Int)}(h:Ln l L)(hn:l.length≤65536):xv L where
 num:=h.cl.len
 len:=by rw[h.sum];exact hn
 rune:=by rw[h.flat];exact h.r
theorem zqP [Gi] {P:Program} {l:List Oper} {K:St→Prop} {S:St} {b c:Bool} {ι:Type}(t:OT)(p:ι→Prop)(S1:ι→St)(h1:(Region.noSelect l.toArray&&Go.AM.okT l.toArray l.toArray.size (Array.replicate l.toArray.size false) t)=true)(h2:kT P l.toArray (fun S'=>∃i,p i∧LeS S' (S1 i)) t S)(h3:∀i,p i→K (S1 i)):ze6 P l K S true b c:=
 ⟨t,_,h1,h2,fun _ ⟨i,hi,h⟩=>.inr ⟨S1 i,.inl h,h3 i hi⟩⟩
def zqQ:OT:=.now 0 1 (.now 1 1 (.now 2 1 (.now 3 1 (.now 4 1 (.now 5 1 (.now 6 1 (.now 7 1 (.now 8 1 (.now 9 1 (.mk [(10,.now 11 1 (.now 12 1 (.now 13 2 (.mk [(14,.mk [(15,.now 16 0 (.mk []))])])))),(14,.mk [(10,.now 11 0 (.now 12 0 (.now 13 2 (.mk [(15,.now 16 0 (.mk []))]))))])]))))))))))
def zqR:OT:=.now 0 0 (.now 1 0 (.now 2 0 (.mk [(3,.mk [(4,.now 5 0 (.now 6 0 (.mk [(7,.mk [(8,.mk [(9,.mk [(10,.mk [(11,.mk [(12,.now 13 0 (.now 14 0 (.mk [(15,.mk [(16,.mk [(17,.mk [(18,.mk [(19,.now 20 0 (.mk []))])])]),(17,.mk [(16,.mk [(18,.mk [(19,.now 20 0 (.mk []))])]),(18,.mk [(16,.mk [(19,.now 20 0 (.mk []))])])])]),(17,.mk [(15,.mk [(16,.mk [(18,.mk [(19,.now 20 0 (.mk []))])]),(18,.mk [(16,.mk [(19,.now 20 0 (.mk []))])])]),(18,.mk [(15,.mk [(16,.mk [(19,.now 20 0 (.mk []))])])])])])))])])])]),(9,.mk [(8,.mk [(10,.mk [(11,.mk [(12,.now 13 0 (.now 14 0 (.mk [(15,.mk [(16,.mk [(17,.mk [(18,.mk [(19,.now 20 0 (.mk []))])])]),(17,.mk [(16,.mk [(18,.mk [(19,.now 20 0 (.mk []))])]),(18,.mk [(16,.mk [(19,.now 20 0 (.mk []))])])])]),(17,.mk [(15,.mk [(16,.mk [(18,.mk [(19,.now 20 0 (.mk []))])]),(18,.mk [(16,.mk [(19,.now 20 0 (.mk []))])])]),(18,.mk [(15,.mk [(16,.mk [(19,.now 20 0 (.mk []))])])])])])))])])])])]),(9,.mk [(7,.mk [(8,.mk [(10,.mk [(11,.mk [(12,.now 13 0 (.now 14 0 (.mk [(15,.mk [(16,.mk [(17,.mk [(18,.mk [(19,.now 20 0 (.mk []))])])]),(17,.mk [(16,.mk [(18,.mk [(19,.now 20 0 (.mk []))])]),(18,.mk [(16,.mk [(19,.now 20 0 (.mk []))])])])]),(17,.mk [(15,.mk [(16,.mk [(18,.mk [(19,.now 20 0 (.mk []))])]),(18,.mk [(16,.mk [(19,.now 20 0 (.mk []))])])]),(18,.mk [(15,.mk [(16,.mk [(19,.now 20 0 (.mk []))])])])])])))])])])])])])))])])))
def plx(L:List (List Int)):List Nat:=pl L++[qd L]
theorem zhz(L:List (List Int)):(plx L).length=L.length+1:=by simp[plx,qo]
theorem zkj {L:List (List Int)} {k:Nat}(h:k≤L.length):elemAt (Zt (plx L)) k=.int .i64 (plc L k:Nat):=by
 rw[WD (by rw[zhz];omega)]
 congr 2
 by_cases c:k<L.length
 ·unfold plx
  rw[List.getElem_append_left (by rw[qo];exact c),ZU]
 ·obtain rfl:k=L.length:=by omega
  unfold plx
  rw[List.getElem_append_right (by rw[qo];omega)]
  simp[qo,Zj]
theorem zm8(L:List (List Int)):Zt (pl L)++[.int .i64 (qd L:Nat)]=Zt (plx L):=by unfold plx;rw[V5];rfl
theorem zcC [Gi](s:List Int)(es:List WW)(hs:∀x∈s,zB x)(he:∀o∈es,kd o):CR Tryz.prog 14 [] [.p (zg s),.p (Z9 es)] [] (is (.p (.bool true))):=by
 refine walk Tryz.func14 20 [126] [200021,200022] [] ?_
 simp (maxSteps:=1000000) [go_sem,Tryz.f14]
 refine zo (vu s 40 (by decide)) ?_
 have hl:(s.take 40).length≤40:=by rw[List.length_take];omega
 have hr:∀x∈s.take 40,zB x:=fun x hx=>hs x (List.mem_of_mem_take hx)
 generalize s.take 40=l at hl hr
 simp (maxSteps:=1000000) [go_sem]
 refine zo xV ?_
 simp (maxSteps:=1000000) [go_sem]
 refine call [] kS ?_
 rintro _ _ ⟨rfl,e,rfl,hT⟩
 have hsh:=yd l
 have hO:=zlA hT l (by omega) hr
 have hnew:=WB hT l (by omega) hr (by omega)
 have hln:=lnC l (by omega) hr
 have hd0:jL (zZ za l)≤120:=by
  have:jL l≤3*l.length:=yC l
  rw[uY];omega
 have hn0:=Ky l
 generalize zZ za l=t at hnew hln hd0 hn0 hO
 obtain⟨z0,e0,rfl⟩:=jB hT
 simp (maxSteps:=1000000) [go_sem]
 refine zo hO ?_
 simp (maxSteps:=1000000) [go_sem]
 refine call [] hnew ?_
 rintro _ _ ⟨X,hX,_,rfl,rfl⟩
 simp (maxSteps:=1000000) [go_sem]
 refine loop (fun r:Nat×List Int×Tx×Nat=>r.1≤es.length∧r.1≤8∧Ln r.2.1 (zL za r.2.1)∧zZ za r.2.1=r.2.1∧jL r.2.1≤120+45*r.1∧yP r.2.2.1 (zL za r.2.1))
  (fun r=>[(0,.zW),(4,.zW),(5,.zW),(9,.p (.int .i64 r.1)),(10,.zW),(11,.zW),(12,.zW),(13,.zW),(14,.zW),(15,.zW),(16,.zW),(17,.zW),(18,.zW),(19,.zW)])
  (fun r=>[([7],jS (zL za r.2.1) r.2.2.2),([30,0],[.p (.pt z0 e0),.lp [30,0,1] 0,.p (.sl 1 (Zt (pl (zL za r.2.1)))),.p (.int .i64 (qd (zL za r.2.1):Nat))]),([30,0,1],[.la [30,0,2] 1 0 r.2.2.1.g.length,.p (.int .i64 (r.2.2.1.f:Nat)),.p (.int .i64 (r.2.2.1.t:Nat))]),([30,0,2],rcs r.2.2.1.g)])
  (fun r=>8-r.1) (0,t,X,0) ⟨Nat.zero_le _,by show 0≤8;omega,hln,hn0,by show jL t≤120+45*0;omega,hX⟩ (fun r hi=>?_) (h0:=by simp[go_sem,LeS,leV,leR,leA,leL,zn,jS])
 obtain⟨i,l,X,at0⟩:=r
 obtain⟨i1,i2,hl,hnf,hd,hX⟩:=hi
 simp only at i1 i2 hl hnf hd hX
 by_cases c1:i<es.length
 ·by_cases c2:i<8
  ·have em:elemAt (es.map kj) i=kj es[i]:=zr kj es i c1
   have hk:=he es[i] (List.getElem_mem c1)
   generalize es[i]=x at em hk
   obtain⟨xf,xb,xk⟩:=x
   simp only[kd]at hk
   have c2':(i:Int)<8:=by omega
   have lk:(xk.take 15).length≤15:=by rw[List.length_take];omega
   have rk:∀y∈xk.take 15,zB y:=fun y hy=>hk y (List.mem_of_mem_take hy)
   have hfew:=vu xk 15 (by decide)
   generalize xk.take 15=ks at lk rk hfew
   have w3:IntKind.i64.wrap ((i:Int)+1)=((i+1:Nat):Int):=zI (by omega)
   obtain⟨m,hm,hw⟩:=zpP xb
   simp (maxSteps:=1000000) [go_sem]at hw
   have hfl:=hl.flat
   have hsum:=hl.sum
   have hcl:=hl.cl
   have hll:=ue l
   have hLn:=hcl.len
   have hLOK:=zjb hl (by omega)
   obtain⟨L,hL⟩:∃L,L=zL za l:=⟨_,rfl⟩
   rw[←hL]at hl hX hfl hsum hcl hLn hLOK
   have hst:=zfb (.pt z0 e0) hX
   have hsz:=yA (.pt z0 e0) hX
   obtain⟨f,hf,hfr⟩:=zm4 xf (n:=L.length) (by omega)
   have hq:=zcA (a:=xf) (n:=(L.length:Int)+1) (by omega)
   have wA:IntKind.i64.wrap ((L.length:Int)+1)=(L.length:Int)+1:=wrap64 (by omega) (by omega)
   have wB:IntKind.i64.wrap (xf.tmod ((L.length:Int)+1)+L.length)=xf.tmod ((L.length:Int)+1)+L.length:=wrap64 (by omega) (by omega)
   have wC:IntKind.i64.wrap (xf.tmod ((L.length:Int)+1)+L.length+1)=xf.tmod ((L.length:Int)+1)+L.length+1:=wrap64 (by omega) (by omega)
   have wD:IntKind.i64.wrap ((f:Int)+m)=(f:Int)+m:=wrap64 (by omega) (by omega)
   have hne:¬((L.length:Int)+1=0):=by omega
   obtain⟨e,he1⟩:∃e,e=min (f+m) L.length:=⟨_,rfl⟩
   have hfe:f≤e:=by omega
   have hel:e≤L.length:=by omega
   have hpf:plc L f≤plc L e:=jZ hcl hfe hel
   have hpe:plc L e≤l.length:=by rw[←hsum];exact vV hcl hel
   have kf1:=yT hcl (k:=f) (by omega)
   have kf2:=yT hcl (k:=e) hel
   obtain⟨r1,r2,r3,r4⟩:=YL hl hnf (d:=120+45*i) hd (by omega) hpf hpe (by rw[kf1]) (by rw[kf2]) lk rk
   have hM:=zcb hT hX hl (by omega) (plc L f:Nat) (plc L e:Nat) ks (by omega) rk
   have hO:=zf7 hl (by omega) (plc L f:Nat) (plc L e:Nat) (ins:=ks) (by omega) rk
   rw[r1]at hM hO
   have hlen:(zD l (plc L f) (plc L e) ks).length≤65536:=hO.2
   obtain⟨k,hput,hkl,hcar⟩:=zle hl hnf hfe hel at0 ks hlen
   have hp:=zm7 hT L hLOK at0 f e ks (by omega) rk
   rw[hput]at hp
   have hst0:(ux l (plc L f) (plc L e) ks).s=0:=rfl
   clear hput hlen r1 r2
   generalize ux l (plc L f) (plc L e) ks=rp at hM hO hp hkl hcar r3 r4 hst0
   obtain⟨l',qa,qb,qc,kk,st⟩:=rp
   simp only at hO hp hkl hcar r3 r4 hst0
   subst hst0 hcar
   have e1:=zkj (L:=L) (k:=f) hf
   have e2:=zkj (L:=L) (k:=e) hel
   have e3:f<L.length+1:=by omega
   have e4:e<L.length+1:=by omega
   have hln':=hO.1
   have hll':=hO.1.cl.len
   have hs':=hO.1.sum
   have hfl':=hO.1.flat
   have hO2:=hO.2
   have pa:=zm8 L
   have pb:=zhz L
   simp (maxSteps:=1000000) [go_sem,Z9,kj,c1,c2',em,hw,←hL,wA,wB,wC,wD,hfr,hne,jS]
   refine Zf (fun _:Unit=>True) (fun _=>[(13,.p (.int .i64 e))]) (fun _=>[]) ?_ ?_
   ·by_cases q:(L.length:Int)< (f:Int)+m
    ·have he:(e:Int)=L.length:=by omega
     simp (maxSteps:=1000000) [go_sem,q]
     exact z6 () trivial (by simp[go_sem,he])
    ·have he:(e:Int)=(f:Int)+m:=by omega
     simp (maxSteps:=1000000) [go_sem,q]
     exact z6 () trivial (by simp[go_sem,he])
   ·intro _ ts _
    simp (maxSteps:=1000000) [go_sem]
    refine call (xm 30) hst ?_
    rintro _ _ ⟨rfl,rfl⟩
    simp (maxSteps:=1000000) [go_sem]
    refine call (xm 30) hsz ?_
    rintro _ _ ⟨rfl,rfl⟩
    simp (maxSteps:=1000000) [go_sem,pa]
    refine⟨by omega,?_⟩
    have pb':(Zt (plx L)).length=L.length+1:=by rw[zd0,pb]
    simp (maxSteps:=1000000) [go_sem,pb,wA]
    refine zo hfew ?_
    simp (maxSteps:=1000000) [go_sem]
    refine zo hp ?_
    simp (maxSteps:=1000000) [go_sem,jt]
    refine zqP zqQ (fun Y:Tx=>yP Y (zL za l')) (fun Y=>{n:=129,nv:=20,vs:=[(1,.p (.sl 3 (es.map kj))),(6,.p (.pt z0 e0)),(7,.lp [7] 0),(8,.lp [30,0] 0),(9,.p (.int .i64 i)),(16,.lp [16] 0),(17,.p (.bool true)),(18,.lp [18] 0),(19,.p (.int .i64 0))],ts:=[],ex:=[126],rs:=[([7],[.p (.sl 1 (qD L)),.p (.int .i64 at0)]),([16],[.p (.sl 1 (qD (zL za l'))),.p (.int .i64 k)]),([18],[qa,qb,qc,.int .i64 (plc (zL za l') k:Nat)].map .p),([30,0],[.p (.pt z0 e0),.lp [30,0,1] 0,.p (.sl 1 (Zt (pl (zL za l')))),.p (.int .i64 (qd (zL za l'):Nat))]),([30,0,1],[.la [30,0,2] 1 0 Y.g.length,.p (.int .i64 (Y.f:Nat)),.p (.int .i64 (Y.t:Nat))]),([30,0,2],rcs Y.g)]}) (by kernel_rfl) ?_ ?_
    ·simp (maxSteps:=1000000) [go_sem,zqQ,pb',e1,e2]
     have d1:(f:Int)< (L.length:Int)+1:=by omega
     have d2:(e:Int)< (L.length:Int)+1:=by omega
     refine⟨d1,d2,?_,?_⟩
     ·refine call (xm 30) hM ?_
      rintro _ _ ⟨Y,hY,rfl,rfl⟩
      simp (maxSteps:=1000000) [go_sem,Rep.told]
      exact⟨Y,hY,by simp[go_sem,LeS,leV,leR,leA,leL,zn]⟩
     ·refine call (xm 30) hM ?_
      rintro _ _ ⟨Y,hY,rfl,rfl⟩
      simp (maxSteps:=1000000) [go_sem,Rep.told]
      exact⟨Y,hY,by simp[go_sem,LeS,leV,leR,leA,leL,zn]⟩
    ·intro Y hY
     simp (maxSteps:=1000000) [go_sem]
     have h24:=uJ (zL za l') k (by omega) (by omega)
     rw[hfl']at h24
     have h51:=WR (.pt z0 e0) hY
     rw[hfl']at h51
     have h23:=jv l' (by omega)
     have h26:=K6 (zL za l') k k (Ut hkl) (by omega) (by omega)
     refine zf8 zqR {n:=129,nv:=20,vs:=[(1,.p (.sl 3 (es.map kj))),(6,.p (.pt z0 e0)),(7,.lp [7] 0),(8,.lp [30,0] 0),(9,.p (.int .i64 i)),(16,.lp [16] 0),(126,.p (.bool false))],ts:=[],ex:=[126],rs:=[([7],[.p (.sl 1 (qD L)),.p (.int .i64 at0)]),([16],[.p (.sl 1 (qD (zL za l'))),.p (.int .i64 k)]),([30,0],[.p (.pt z0 e0),.lp [30,0,1] 0,.p (.sl 1 (Zt (pl (zL za l')))),.p (.int .i64 (qd (zL za l'):Nat))]),([30,0,1],[.la [30,0,2] 1 0 Y.g.length,.p (.int .i64 (Y.f:Nat)),.p (.int .i64 (Y.t:Nat))]),([30,0,2],rcs Y.g)]} (by kernel_rfl) ?_ ?_
     ·simp (maxSteps:=1000000) [go_sem,zqR]
      refine⟨⟨?_,?_⟩,?_⟩
      all_goals
       refine zo h24 ?_
       simp (maxSteps:=1000000) [go_sem]
       refine call (xm 30) h51 ?_
       rintro _ _ ⟨rfl,rfl⟩
       simp (maxSteps:=1000000) [go_sem]
       refine zo h23 ?_
       simp (maxSteps:=1000000) [go_sem]
       refine⟨⟨?_,?_,?_⟩,⟨?_,?_⟩,?_⟩
       all_goals
        refine zo h26 ?_
        simp (maxSteps:=1000000) [go_sem,LeS,leV,leR,leA,leL,zn]
     ·simp (maxSteps:=1000000) [go_sem,w3]
      exact next (i+1,l',Y,k) ⟨c1,c2,hO.1,r3,by show jL l'≤120+45*(i+1);omega,hY⟩ (h3:=by show 8- (i+1)<8-i;omega) (h2:=by simp[go_sem,LeS,leV,leR,leA,leL,zn])
  ·obtain rfl:i=8:=by omega
   simp (maxSteps:=1000000) [go_sem,Z9]
   refine zo xH ?_
   simp (maxSteps:=1000000) [go_sem]
   exact ret
 ·simp (maxSteps:=1000000) [go_sem,Z9,c1]
  refine zo xH ?_
  simp (maxSteps:=1000000) [go_sem]
  exact ret
end Go.Proofs.YtjefahhmkcfiiaaGreat
end
