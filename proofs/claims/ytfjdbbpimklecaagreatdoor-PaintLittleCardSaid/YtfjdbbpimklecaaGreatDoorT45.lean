/- A part of this seat's proofs, by an abstract machine. Conditions: each law's. -/
import Derived.Test.YtfjdbbpimklecaaGreatDoorT44
set_option maxHeartbeats 4000000
set_option maxRecDepth 10000
namespace Go.Proofs.YtfjdbbpimklecaaGreatDoor
section
open Go.AM
attribute [local irreducible] za
theorem zdK:∀(s:List Nat) (d:Dk),(QG d s).length≤2*s.length+1
 | [],d=>by unfold QG;split<;>simp
 |b::s,d=>by
  have h1:=zdi d b
  have h2:=zdK s (Z8 d b).1
  rw[Ua,List.length_append,List.length_cons];omega
def VE(c:Cl):Nat:=(QG dz (nb c.t)).length
theorem zbn(c:Cl):VE c≤2*c.t.length+1:=by
 have:=zdK (nb c.t) dz
 unfold VE;simp[nb]at this⊢;omega
def scN(b:zt):Nat:=(b.map VE).sum
theorem za3(b:zt)(h:∀c∈b,c.t.length≤100000):scN b≤200001*b.length:=by
 induction b with
 |nil=>simp[scN]
 |cons c b ih=>
  have h1:=zbn c
  have h2:=h c (by simp)
  have h3:=ih fun x hx=>h x (by simp[hx])
  unfold scN at h3⊢
  rw[List.map_cons,List.sum_cons,List.length_cons];omega
theorem JB {b:zt} {i:Nat}(h:i<b.length):scN (b.take (i+1))=scN (b.take i)+VE b[i]:=by
 unfold scN
 rw[List.take_add_one,List.getElem?_eq_getElem h,List.map_append,List.sum_append]
 simp
def chR(C:Nat)(l l':zt):Nat→List Nat
 |0=>[]
 |k+1=>if 0≤dF (zm C l k) (zm C l' k) C then chR C l l' k++[k]else chR C l l' k
theorem wy {C:Nat} {l l':zt}:∀{k r:Nat},r∈chR C l l' k→r<k∧0≤dF (zm C l r) (zm C l' r) C
 |0,r,h=>by simp[chR]at h
 |k+1,r,h=>by
  unfold chR at h
  split at h
  ·rename_i hc
   rcases List.mem_append.1 h with h|h
   ·have:=wy h;exact⟨by omega,this.2⟩
   ·have e:r=k:=by simpa using h
    subst e;exact⟨by omega,hc⟩
  ·have:=wy h;exact⟨by omega,this.2⟩
theorem kF(C:Nat)(l l':zt):∀k,(chR C l l' k).length≤k
 |0=>by simp[chR]
 |k+1=>by
  have:=kF C l l' k
  unfold chR;split<;>simp<;>omega
theorem zbT(C:Nat)(l l':zt):∀k,dRs C l l' k=(chR C l l' k).map fun(r:Nat)=>yC r (zm C l r) (zm C l' r) C
 |0=>rfl
 |k+1=>by
  unfold dRs chR
  split<;>simp[zbT C l l' k]
def vw(C:Nat)(l l':zt)(r:Nat):zt:=(zm C l' r).drop (dF (zm C l r) (zm C l' r) C).toNat
def jJ(C:Nat)(l l':zt)(L:List Nat):Nat:=(L.map fun r=>scN (vw C l l' r)).sum
theorem zhP {C:Nat} {l l':zt} {L:List Nat} {j:Nat}(h:j<L.length):jJ C l l' (L.take (j+1))=jJ C l l' (L.take j)+scN (vw C l l' L[j]):=by
 unfold jJ
 rw[List.take_add_one,List.getElem?_eq_getElem h,List.map_append,List.sum_append]
 simp
theorem zbo {C:Nat} {l l':zt} {K:Nat}:∀{L:List Nat},(∀r∈L,scN (vw C l l' r)≤K)→jJ C l l' L≤K*L.length
 | [],_=>by simp[jJ]
 |r::L,h=>by
  have h1:=h r (by simp)
  have h2:=zbo (L:=L) fun x hx=>h x (by simp[hx])
  unfold jJ at h2⊢
  rw[List.map_cons,List.sum_cons,List.length_cons,Nat.mul_add];omega
theorem VH [Gi](R C:Nat)(l l':zt)(hR:R≤500)(hC:1≤C∧C≤1000)(hl:l.length=R*C)(hl':l'.length=R*C)(ht:∀c∈l',c.t.length≤100000):
  CR Tryz.prog 25 [] [.p (Zj R C l),.p (Zj R C l')] [] (is (.p (.agg [.int .i64 (chR C l l' R).length,.int .i64 (jJ C l l' (chR C l l' R):Nat)]))):=by
 have hrow:∀k,∀c∈zm C l' k,c.t.length≤100000:=fun k c hc=>ht c (List.mem_of_mem_drop (List.mem_of_mem_take hc))
 have hr:=X7 R C l l' hR hC hl hl' fun k hk _ c hc=>by have:=hrow k c hc;omega
 rw[zbT]at hr
 have hLl:=kF C l l' R
 have hLm:∀r∈chR C l l' R,r<R∧0≤dF (zm C l r) (zm C l' r) C:=fun r hx=>wy hx
 generalize chR C l l' R=L at hr hLl hLm⊢
 have hK:∀r∈L,scN (vw C l l' r)≤200001000:=fun r hr=>by
  have h1:=za3 (vw C l l' r) fun c hc=>hrow r c (List.mem_of_mem_drop hc)
  have h2:(vw C l l' r).length≤C:=by
   unfold vw;rw[List.length_drop];have:=vD (C:=C) (l:=l') (k:=r);omega
  omega
 refine walk Tryz.func25 10 [12,13,14,28,29,30] [6,9] [] ?_
 simp (maxSteps:=1000000) [go_sem,Tryz.f25]
 refine zq hr ?_
 simp (maxSteps:=1000000) [go_sem]
 refine loop (fun j:Nat=>j≤L.length) (fun j=>[(14,.p (.int .i64 j)),(28,.zY),(29,.zY),(30,.zY)]) (fun j=>[([5],[.p (.int .i64 j),.p (.int .i64 (jJ C l l' (L.take j):Nat))])]) (fun j=>L.length-j) 0 (Nat.zero_le _) (fun j hj=>?_) (h0:=by simp[go_sem,LeS,leV,leR,leA,leL,jJ])
 by_cases hjl:j<L.length
 ·have hm:=hLm _ (List.getElem_mem hjl)
  have hk:=hK _ (List.getElem_mem hjl)
  have hst:=zhP (C:=C) (l:=l) (l':=l') hjl
  have hle:=zbo (C:=C) (l:=l) (l':=l') (L:=L.take j) fun r hx=>hK r (List.mem_of_mem_take hx)
  have htl:(L.take j).length≤500:=by rw[List.length_take];omega
  have em:elemAt (L.map fun(r:Nat)=>yC r (zm C l r) (zm C l' r) C) j=yC (L[j]:Nat) (zm C l L[j]) (zm C l' L[j]) C:=zp _ L j hjl
  obtain⟨r,hr'⟩:∃r,r=L[j]:=⟨_,rfl⟩
  rw[←hr']at hm hk hst em
  have hrw:=zaW R C l' r hR hC hl' hm.1
  have hln:=ZA hl' hm.1
  obtain⟨F,hF⟩:∃F:Nat,dF (zm C l r) (zm C l' r) C=F:=⟨(dF (zm C l r) (zm C l' r) C).toNat,by omega⟩
  have hFb:F<C:=by
   have:=XI (zm C l r) (zm C l' r) C
   omega
  have hrs:vw C l l' r=(zm C l' r).drop F:=by unfold vw;rw[hF,Int.toNat_natCast]
  rw[hrs]at hk hst
  have hcl:∀c∈(zm C l' r).drop F,c.t.length≤100000:=fun c hc=>hrow r c (List.mem_of_mem_drop hc)
  obtain⟨x2,x3,x4,hx⟩:∃x2 x3 x4,yC (r:Nat) (zm C l r) (zm C l' r) C=.agg [.int .i64 r,.int .i64 F,x2,x3,x4]:=by
   unfold yC
   rw[if_neg (by omega),hF]
   exact⟨_,_,_,rfl⟩
  rw[hx]at em
  have hdl:((zm C l' r).drop F).length=C-F:=by rw[List.length_drop,hln]
  have hcut:cut ((zm C l' r).map clP) (F:Int) (C:Int)=((zm C l' r).drop F).map clP:=by
   rw[cut,List.map_drop,Int.toNat_natCast,Int.toNat_natCast,List.take_of_length_le (by simp[hln])]
  generalize zm C l' r=b at hrw hln hk hst hcl hdl hcut
  have w1:IntKind.i64.wrap ((j:Int)+1)=((j+1:Nat):Int):=zG (by omega)
  simp (maxSteps:=1000000) [go_sem,hjl,em,w1]
  refine qI 84 hrw ?_
  simp (maxSteps:=1000000) [go_sem,hln,hcut]
  refine⟨by omega,?_⟩
  rw[←List.map_drop,←hdl]
  generalize b.drop F=D at hk hst hcl hdl⊢
  have hDl:D.length≤1000:=by omega
  refine loop (fun c:Nat=>c≤D.length) (fun c=>[(30,.p (.int .i64 c))]) (fun c=>[([5],[.p (.int .i64 ((j:Int)+1)),.p (.int .i64 ((jJ C l l' (L.take j)+scN (D.take c):Nat):Int))])]) (fun c=>D.length-c) 0 (Nat.zero_le _) (fun c hc=>?_) (h0:=by simp[go_sem,LeS,leV,leR,leA,leL,scN])
  by_cases hcD:c<D.length
  ·have hx:=hcl _ (List.getElem_mem hcD)
   have dc:=zhf D[c].t hx
   have dn:=zbn D[c]
   have em2:=YY hcD
   have hst2:=JB hcD
   have dl:(zP (QG dz (nb D[c].t))).length=VE D[c]:=by simp[zP,VE]
   have hsl:=za3 (D.take c) fun x hx=>hcl x (List.mem_of_mem_take hx)
   have hst3:(D.take c).length≤1000:=by rw[List.length_take];omega
   generalize D[c]=y at hx dc dn em2 hst2 dl
   generalize QG dz (nb y.t)=z at dc dl
   have w2:IntKind.i64.wrap ((c:Int)+1)=((c+1:Nat):Int):=zG (by omega)
   have w3:IntKind.i64.wrap ((jJ C l l' (L.take j):Int)+(scN (D.take c):Int)+(VE y:Int))=(jJ C l l' (L.take j):Int)+(scN (D.take (c+1)):Int):=by
    rw[hst2]
    have:200001000*(L.take j).length≤200001000*500:=Nat.mul_le_mul_left _ htl
    have h7:200001*(D.take c).length≤200001*1000:=Nat.mul_le_mul_left _ hst3
    rw[wrap64 (by omega) (by omega)];omega
   simp (maxSteps:=1000000) [go_sem,hcD,em2]
   refine qI 85 dc ?_
   simp (maxSteps:=1000000) [go_sem,dl,w2,w3]
   exact next (c+1) hcD (h3:=by show D.length- (c+1)<D.length-c;omega) (h2:=by simp[go_sem,LeS,leV,leR,leA,leL])
  ·obtain rfl:c=D.length:=by omega
   simp (maxSteps:=1000000) [go_sem,w1]
   exact next (j+1) hjl (h3:=by show L.length- (j+1)<L.length-j;omega) (h2:=by simp[go_sem,LeS,leV,leR,leA,leL,hst])
 ·obtain rfl:j=L.length:=by omega
  rw[List.take_length]
  simp (maxSteps:=1000000) [go_sem]
  exact ret (hx:=by simp[go_sem,zf,leA,leT])
end
section
open Go.AM
theorem zmE:chR 7 (List.replicate (1*7) blk) (vwL 1 7 [] [62,32,97] 0) 1=[0]:=by decide+kernel
theorem zn4:jJ 7 (List.replicate (1*7) blk) (vwL 1 7 [] [62,32,97] 0) [0]=7:=by decide+kernel
theorem ziQ:∀c∈vwL 1 7 [] [62,32,97] 0,c.t.length≤100000:=by decide+kernel
theorem zoE:(vwL 1 7 [] [62,32,97] 0).length=1*7:=x6 _ _ _ _ _
theorem zi6:W7 [] [62,32,97]:=⟨by simp,by simp,by simp,by simp[qg]⟩
attribute [local irreducible] za vwL
theorem Vx [Gi](R C:Nat)(hR:1≤R∧R≤500)(hC:2≤C∧C≤1000):CR Tryz.prog 23 [] [.p (.int .i64 R),.p (.int .i64 C)] [] (is (.p (Zj R C (List.replicate (R*C) blk)))):=by
 refine(zgJ R C hR hC).freeze (fun _=>false) rfl ?_
 rintro x rs ⟨rfl,rfl⟩
 have hRC:0<R*C:=Nat.mul_pos (by omega) (by omega)
 exact⟨.p (Zj R C (List.replicate (R*C) blk)),zck (rt:=fun _=>false) (a:=[0]) (b:=[1]) rfl rfl rfl rfl hRC (by simp),rfl,rfl⟩
theorem YO [Gi](n m:Int)(hn:0≤n∧n≤1000000)(hm:0≤m∧m≤1000000000000):CR Tryz.prog 26 [] [.p (.agg [.int .i64 n,.int .i64 m])] [] (is (.p (.int .i64 (32+16*n+4*m)))):=by
 refine walk Tryz.func26 3 [] [] [] ?_
 have w1:IntKind.i64.wrap (16*n)=16*n:=wrap64 (by omega) (by omega)
 have w2:IntKind.i64.wrap (32+16*n)=32+16*n:=wrap64 (by omega) (by omega)
 have w3:IntKind.i64.wrap (4*m)=4*m:=wrap64 (by omega) (by omega)
 have w4:IntKind.i64.wrap (32+16*n+4*m)=32+16*n+4*m:=wrap64 (by omega) (by omega)
 simp (maxSteps:=1000000) [go_sem,Tryz.f26,w1,w2,w3,w4]
 exact ret
theorem zbZ [Gi] {P:Program} {f:FuncId} {pin:List Tok} {bs as':List AV} {rs:List (Tok×List AV)} {R:AV→List (Tok×List AV)→Prop}(h:CR P f pin as' rs R)(hle:∀(g:Gh) w vs,zo g w bs vs→zo g w as' vs):CR P f pin bs rs R:=fun w g vs h1 h2=>h w g vs (hle g w vs h1) h2
theorem Js(e:PV)(ln:List Int)(cur:Int)(A:List AV)(g:Gh)(w:World)(vs:List Value)(h:zo g w (.p e::.p (.agg [.opq (.slice none 0 0),zE ln,.int .i64 cur])::A) vs):zo g w (.p e::.p (ZU [] ln cur)::A) vs:=by
 simp only[zo]at h⊢
 obtain⟨v1,l1,rfl,r1,v2,l2,rfl,r2,r3⟩:=h
 refine⟨v1,_,rfl,r1,v2,_,rfl,?_,r3⟩
 rw[vX]at r2⊢
 unfold ZU
 unfold zE at r2⊢
 simp only[zl,zw,q9,List.map_nil]at r2⊢
 obtain⟨us,rfl,u1,l,e1,o1,q1,rest⟩:=r2
 refine⟨us,rfl,u1,l,e1,o1,?_,rest⟩
 subst q1
 exact .inl ⟨trivial,_,_,rfl⟩
theorem zfz [Gi]:CR Tryz.prog 27 [] [] [] (is (.p (.bool true))):=by
 refine walk Tryz.func27 3 [] [3] [] ?_
 simp (maxSteps:=1000000) [go_sem,Tryz.f27]
 refine zq Vm ?_
 simp (maxSteps:=1000000) [go_sem]
 refine call [] yU ?_
 rintro _ _ ⟨rfl,e,rfl,hT⟩
 obtain⟨z0,y0,rfl⟩:∃z y,e=.pt z y:=by
  obtain⟨c,b,j,f,p,_,rfl⟩:=hT
  exact⟨_,_,rfl⟩
 have sc:=yu hT zi6 0 1 7 (by omega) (by omega)
 have gn:=Vx 1 7 (by omega) (by omega)
 have ty:=VH 1 7 (List.replicate (1*7) blk) (vwL 1 7 [] [62,32,97] 0) (by omega) (by omega) (by simp) zoE ziQ
 rw[zmE,zn4]at ty
 have bd:=YO 1 7 (by omega) (by omega)
 have sc:=zbZ sc (Js _ _ _ _)
 unfold zcW at sc
 generalize vwL 1 7 [] [62,32,97] 0=W at sc ty
 generalize (vwS _ [] [62,32,97] 0).1-vwT _ _ [] [62,32,97] 0=q1 at sc
 generalize (vwS _ [] [62,32,97] 0).2=q2 at sc
 simp (maxSteps:=1000000) [go_sem]
 refine⟨by decide,zq sc ?_ (ha':=by simp[go_sem,zP])⟩
 simp (maxSteps:=1000000) [go_sem]
 refine qI 23 gn ?_
 simp (maxSteps:=1000000) [go_sem]
 refine qI 25 ty ?_
 simp (maxSteps:=1000000) [go_sem]
 refine qI 26 bd ?_
 simp (maxSteps:=1000000) [go_sem]
 exact ret
end
end Go.Proofs.YtfjdbbpimklecaaGreatDoor
