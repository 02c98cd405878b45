/- A part of this seat's proofs, by an abstract machine. Conditions: each law's. -/
import Derived.Test.YtfjdbbpimklecaaGreatDoorT41
import Derived.Test.YtfjdbbpimklecaaGreatDoorT31
set_option maxHeartbeats 8000000
set_option maxRecDepth 10000
namespace Go.Proofs.YtfjdbbpimklecaaGreatDoor
section
open Go.AM
attribute [local irreducible] za
theorem zgb:∀L:List (List Int),(∀c∈L,c≠ [])→(L.flatMap ofG).length≤2*jm L
 | [],_=>by simp[jm]
 |c::L,h=>by
  have h1:=zbx c (h c (by simp))
  have h2:=zgb L fun x hx=>h x (by simp[hx])
  have e:jm (c::L)=c.length+jm L:=by simp[jm]
  rw[List.flatMap_cons,List.length_append,e];omega
theorem zc8 {c:List Int}:∀{L:List (List Int)},c∈L→c.length≤jm L
 | [],h=>by simp at h
 |d::L,h=>by
  have e:jm (d::L)=d.length+jm L:=by simp[jm]
  rcases List.mem_cons.1 h with rfl|h
  ·omega
  ·have:=zc8 h;omega
theorem Ln.ne {l:List Int} {L:List (List Int)}(h:Ln l L):∀c∈L,c≠ []:=fun c hc=>by
 obtain⟨x,c',e,_⟩:=h.cl.full.r c hc
 rw[e];simp
theorem Ln.mem {l:List Int} {L:List (List Int)}(h:Ln l L) {c:List Int}(hc:c∈L):c.length≤l.length∧∀x∈c,qg x:=by
 have hf:=h.flat
 have hs:∀x∈c,x∈l:=fun x hx=>by rw[←hf];exact List.mem_flatten.2 ⟨c,hc,hx⟩
 refine⟨?_,fun x hx=>h.r x (hs x hx)⟩
 rw[←h.sum]
 exact zc8 hc
theorem ug {l:List Int} {L:List (List Int)}(h:Ln l L)(k:Nat):atG L k≤2*l.length:=by
 have h1:=zgb (L.take k) fun c hc=>h.ne c (List.mem_of_mem_take hc)
 have h2:=zib L k
 have h3:=h.sum
 unfold atG;omega
def ke(L:List (List Int))(k:Nat):List Nat:=(List.range k).map (atG L)
theorem vQ(L:List (List Int))(k:Nat):(ke L k).length=k:=by simp[ke]
theorem uM(L:List (List Int))(k:Nat):Z9 (ke L k)++[.int .i64 (atG L k:Nat)]=Z9 (ke L (k+1)):=by
 unfold ke
 rw[List.range_succ,List.map_append]
 simp[Z9]
theorem zgs {L:List (List Int)}:atG L L.length=(L.flatMap ofG).length:=by unfold atG;rw[List.take_length]
theorem JJ {L:List (List Int)} {i:Nat}(h:i<L.length):((L.take i).flatMap ofG).map clP++(ofG L[i]).map clP=((L.take (i+1)).flatMap ofG).map clP:=by
 rw[List.take_add_one,List.getElem?_eq_getElem h,List.flatMap_append,List.map_append]
 simp
theorem xL {L:List (List Int)} {i:Nat}(h:i<L.length):elemAt (q9 L) i=.sl 1 (zP L[i]):=by
 unfold q9
 rw[zp zE L i h];rfl
theorem zfZ [Gi] {e:PV}(hT:xn e) {l:List Int} {L:List (List Int)}(h:Ln l L)(hn:l.length≤10000):CR Tryz.prog 120 [] [.p e,.p (zE l)] [] (is (.tup [.p (qe (L.flatMap ofG)),.p (Je (ke L (L.length+1)))])):=by
 refine walk Tryz.func120 10 [12,13,14] [] [] ?_
 have hc:=zkv hT l h.n h.r
 rw[←h.eq]at hc
 have hL:=h.cl.len
 rw[h.sum]at hL
 simp (maxSteps:=1000000) [go_sem,Tryz.f120]
 refine zq hc ?_
 simp (maxSteps:=1000000) [go_sem]
 refine loop (fun i:Nat=>i≤L.length) (fun i=>[(6,.os [6] 2 (((L.take i).flatMap ofG).map clP)),(7,.os [7] 1 (Z9 (ke L i))),(9,.zY),(14,.p (.int .i64 i))]) (fun _=>[]) (fun i=>L.length-i) 0 (Nat.zero_le _) (fun i hi=>?_) (h0:=by simp[go_sem,LeS,leV,leR,leA,ke,Z9])
 have hg:=ug h i
 have hg':(((L.take i).flatMap ofG).map clP).length=atG L i:=by rw[List.length_map];rfl
 by_cases hil:i<L.length
 ·have hm:=h.mem (List.getElem_mem hil)
  have hne:=h.ne _ (List.getElem_mem hil)
  have gO:=zkC hT L[i] hne (by omega) hm.2
  have em:=xL hil
  have st:=JJ hil
  have ol:=zbx L[i] hne
  have s1:=uM L i
  have nl:(Z9 (ke L i)).length=i:=by simp[Z9,ke]
  have w1:IntKind.i64.wrap ((i:Int)+1)=((i+1:Nat):Int):=zG (by omega)
  generalize L[i]=y at hm hne gO em st ol
  generalize ofG y=oy at gO st ol
  generalize ((L.take i).flatMap ofG).map clP=A at st hg'⊢
  simp (maxSteps:=1000000) [go_sem,hil,em,hg',s1]
  refine⟨by rw[vQ];omega,zq gO ?_⟩
  simp (maxSteps:=1000000) [go_sem,w1,st]
  refine⟨by omega,?_⟩
  exact next (i+1) hil (h3:=by show L.length- (i+1)<L.length-i;omega)
 ·obtain rfl:i=L.length:=by omega
  rw[List.take_length]at hg'⊢
  have s1:=uM L L.length
  have nl:(Z9 (ke L L.length)).length=L.length:=by simp[Z9,ke]
  simp (maxSteps:=1000000) [go_sem,hg',s1]
  exact⟨by rw[vQ];omega,ret (hx:=by simp[go_sem,zf,leA,leT,leP])⟩
theorem Ln.mk'(l:List Int)(hn:l.length<2^31)(hr:∀x∈l,qg x):Ln l (zM za l):=⟨rfl,hn,hr⟩
theorem wu {l:List Int} {L:List (List Int)}(h:Ln l L):L.flatMap ofG=WW l:=by rw[h.eq];rfl
theorem Y0(c0:Int)(x:Int):∀(l:List Int) (k:Nat),ZT c0 k (l++[x])=(ZT c0 k l || Wy c0 (k+l.length) x)
 | [],k=>by simp[ZT]
 |y::l,k=>by
  have ih:=Y0 c0 x l (k+1)
  simp only[List.cons_append,ZT,ih,List.length_cons]
  rw[show k+1+l.length=k+(l.length+1) by omega,Bool.or_assoc]
theorem zeU {c0:Int} {c:List Int} {i:Nat}(h:i<c.length):ZT c0 0 (c.take (i+1))=(ZT c0 0 (c.take i) || Wy c0 i c[i]):=by
 rw[List.take_add_one,List.getElem?_eq_getElem h]
 have:=Y0 c0 c[i] (c.take i) 0
 rw[List.length_take,Nat.zero_add,Nat.min_eq_left (by omega)]at this
 exact this
def vW(m:Bool):Int:=if m then 2 else 1
theorem uv [Gi](c:List Int)(h0:c≠ [])(hn:c.length<2^31)(hr:∀x∈c,qg x):CR Tryz.prog 148 [] [.p (z6 za),.p (zE c)] [] (is (.p (.int .i64 (KJ c)))):=by
 refine walk Tryz.func148 7 [] [] [] ?_
 have hp:0<c.length:=List.length_pos_iff.2 h0
 obtain⟨c0,hc0⟩:∃c0,c0=c.headD 0:=⟨_,rfl⟩
 have e0:elemAt (zP c) 0=.int .i32 c0:=by
  rw[hc0]
  cases c with
  |nil=>simp at hp
  |cons a c=>rfl
 have r0:qg c0:=by
  rw[hc0]
  cases c with
  |nil=>simp at hp
  |cons a c=>exact hr a (by simp)
 have g2:=Wr za 5 c0 kz.n r0
 simp (maxSteps:=1000000) [go_sem,Tryz.f148]
 refine loop (fun i:Nat=>i≤c.length) (fun i=>[(5,.p (.int .i64 (vW (ZT c0 0 (c.take i))))),(6,.p (.int .i64 i))]) (fun _=>[]) (fun i=>c.length-i) 0 (Nat.zero_le _) (fun i hi=>?_) (h0:=by simp[go_sem,LeS,leV,leR,leA,ZT,vW])
 by_cases hil:i<c.length
 ·have st:=zeU (c0:=c0) hil
  have ry:qg c[i]:=hr _ (List.getElem_mem _)
  have em:=ZY hil
  generalize c[i]=y at st ry em
  generalize ZT c0 0 (c.take i)=m at st⊢
  have g1:=Wr za 7 y kz.n ry
  have w1:IntKind.i64.wrap ((i:Int)+1)=((i+1:Nat):Int):=zG (by omega)
  simp (maxSteps:=1000000) [go_sem,hil,em]
  refine zq g1 ?_
  by_cases hw:aL za 7 y=1
  ·by_cases qi:0<i
   ·by_cases qa:y=65039
    ·subst qa
     simp (maxSteps:=1000000) [go_sem,hil,em,hp,e0,qi,hw]
     refine zq g2 ?_
     by_cases hp2:aL za 5 c0=1
     ·simp (maxSteps:=1000000) [go_sem,hp2,w1]
      have st':ZT c0 0 (c.take (i+1))=true:=by rw[st];simp[Wy,vg,uh,hw,qi,hp2]
      exact next (i+1) hil (h3:=by show c.length- (i+1)<c.length-i;omega) (h2:=by simp[go_sem,LeS,leV,leR,leA,st',vW])
     ·simp (maxSteps:=1000000) [go_sem,hp2,w1]
      have st':ZT c0 0 (c.take (i+1))=true:=by rw[st];simp[Wy,vg,uh,hw,qi,hp2]
      exact next (i+1) hil (h3:=by show c.length- (i+1)<c.length-i;omega) (h2:=by simp[go_sem,LeS,leV,leR,leA,st',vW])
    ·simp (maxSteps:=1000000) [go_sem,hil,em,hp,e0,qi,qa,hw,w1]
     have st':ZT c0 0 (c.take (i+1))=true:=by rw[st];simp[Wy,vg,uh,hw,qi,qa]
     exact next (i+1) hil (h3:=by show c.length- (i+1)<c.length-i;omega) (h2:=by simp[go_sem,LeS,leV,leR,leA,st',vW])
   ·have qi':¬(0:Int)<i:=by omega
    simp (maxSteps:=1000000) [go_sem,hil,em,hp,e0,qi,hw,w1]
    have st':ZT c0 0 (c.take (i+1))=true:=by rw[st];simp[Wy,vg,uh,hw,qi]
    exact next (i+1) hil (h3:=by show c.length- (i+1)<c.length-i;omega) (h2:=by simp[go_sem,LeS,leV,leR,leA,st',vW])
  ·by_cases qi:0<i
   ·by_cases qa:y=65039
    ·subst qa
     simp (maxSteps:=1000000) [go_sem,hil,em,hp,e0,qi,hw]
     refine zq g2 ?_
     by_cases hp2:aL za 5 c0=1
     ·simp (maxSteps:=1000000) [go_sem,hp2,w1]
      have st':ZT c0 0 (c.take (i+1))=true:=by rw[st];simp[Wy,vg,uh,hw,qi,hp2]
      exact next (i+1) hil (h3:=by show c.length- (i+1)<c.length-i;omega) (h2:=by simp[go_sem,LeS,leV,leR,leA,st',vW])
     ·simp (maxSteps:=1000000) [go_sem,hp2,w1]
      have st':ZT c0 0 (c.take (i+1))=m:=by rw[st];simp[Wy,vg,uh,hw,qi,hp2]
      exact next (i+1) hil (h3:=by show c.length- (i+1)<c.length-i;omega) (h2:=by simp[go_sem,LeS,leV,leR,leA,st',vW])
    ·simp (maxSteps:=1000000) [go_sem,hil,em,hp,e0,qi,qa,hw,w1]
     have st':ZT c0 0 (c.take (i+1))=m:=by rw[st];simp[Wy,vg,uh,hw,qi,qa]
     exact next (i+1) hil (h3:=by show c.length- (i+1)<c.length-i;omega) (h2:=by simp[go_sem,LeS,leV,leR,leA,st',vW])
   ·have qi':¬(0:Int)<i:=by omega
    simp (maxSteps:=1000000) [go_sem,hil,em,hp,e0,qi,hw,w1]
    have st':ZT c0 0 (c.take (i+1))=m:=by rw[st];simp[Wy,vg,uh,hw,qi]
    exact next (i+1) hil (h3:=by show c.length- (i+1)<c.length-i;omega) (h2:=by simp[go_sem,LeS,leV,leR,leA,st',vW])
 ·obtain rfl:i=c.length:=by omega
  rw[List.take_length,hc0]
  have hv:KJ c=if WK c=true then 2 else vW (ZT (c.headD 0) 0 c):=by
   unfold KJ vW
   cases WK c<;>cases ZT (c.headD 0) 0 c<;>rfl
  rw[hv]
  match c,h0,hr with
  | [a],_,hr=>
   have hf:WK [a]=false:=rfl
   rw[hf]
   generalize ZT ([a].headD 0) 0 [a]=m
   simp (maxSteps:=1000000) [go_sem]
   exact ret
  |a::b::l,_,hr=>
   have hf:WK (a::b::l)=(decide (zD za a=6)&&decide (zD za b=6)):=rfl
   rw[hf]
   generalize ZT ((a::b::l).headD 0) 0 (a::b::l)=m
   have g3:=jT kz (hr a (by simp))
   have g4:=jT kz (hr b (by simp))
   have ea:elemAt (zP (a::b::l)) 0=.int .i32 a:=rfl
   have eb:elemAt (zP (a::b::l)) 1=.int .i32 b:=rfl
   have hlen:(a::b::l).length=l.length+2:=rfl
   have k1:(1:Int)< (l.length:Int)+2:=by omega
   have k2:(0:Int)< (l.length:Int)+2:=by omega
   have k3:(1:Nat)<l.length+2:=by omega
   generalize hC:zP (a::b::l)=C at ea eb⊢
   have hCl:C.length=l.length+2:=by rw[←hC,qf];rfl
   simp (maxSteps:=1000000) [go_sem,hlen,hCl,ea,eb,k1,k2]
   refine zq g3 ?_
   by_cases b6:zD za a=6
   ·simp (maxSteps:=1000000) [go_sem,hCl,eb,k1,b6]
    refine zq g4 ?_
    by_cases b7:zD za b=6
    ·simp (maxSteps:=1000000) [go_sem,b7]
     exact ret
    ·simp (maxSteps:=1000000) [go_sem,b7]
     exact ret
   ·simp (maxSteps:=1000000) [go_sem,hCl,eb,k1,b6]
    exact ret
theorem zh1 {y:Int}(h:0≤y∧y<32):(qy y).map clP=[.agg [.str [94],.int .i64 1],.agg [.str (jc (y+64)),.int .i64 1]]:=by
 have e1:jc (y+64)=[u8 (y.toNat+64)]:=by
  have hv:Zl (y+64)=true:=by unfold Zl;simp;omega
  unfold jc zcG
  rw[hv,if_pos rfl]
  unfold QH
  rw[if_pos (by omega)]
  congr 2
  omega
 unfold qy
 rw[if_pos h,e1]
 rfl
theorem zgZ:(qy 127).map clP=[.agg [.str [94],.int .i64 1],.agg [.str [63],.int .i64 1]]:=rfl
theorem zit {y:Int}(h:¬(0≤y∧y<32))(h2:y≠127):(qy y).map clP=[.agg [.str (jc 65533),.int .i64 1]]:=by
 have e3:jc 65533=[239,191,189]:=by decide
 unfold qy
 rw[if_neg h,if_neg h2,e3]
 rfl
theorem zht [Gi](c:List Int)(h0:c≠ [])(hn:c.length≤10000)(hr:∀x∈c,qg x):CR Tryz.prog 127 [] [.p (z6 za),.p (zE c)] [] (is (.p (qe (ofG c)))):=by
 refine walk Tryz.func127 9 [] [] [] ?_
 obtain⟨c0,c',rfl⟩:∃a l,c=a::l:=by
  cases c with
  |nil=>exact absurd rfl h0
  |cons a l=>exact⟨a,l,rfl⟩
 have g1:=jT kz (hr c0 (by simp))
 have e0:elemAt (zP (c0::c')) 0=.int .i32 c0:=rfl
 have hp:0< (c0::c').length:=by simp
 have hof:ofG (c0::c')=if zD za c0=1∨zD za c0=2∨zD za c0=3 then(c0::c').flatMap qy else [⟨yg (Z6 (c0::c')),KJ (Z6 (c0::c'))⟩]:=rfl
 have hsh:Z6 (c0::c')=(if zD za c0=4∨zD za c0=5∨zD za c0=8 then [KB]else [])++(c0::c')++(if zD za ((c0::c').getLastD 0)=7 then [KB]else []):=rfl
 generalize (c0::c')=c at*
 rw[hof]
 generalize zD za c0=b at g1 hof hsh⊢
 have hcl:¬c.length=0:=by omega
 simp (maxSteps:=1000000) [go_sem,Tryz.f127,e0,hp,hcl]
 refine zq g1 ?_
 by_cases hb:b=1∨b=2∨b=3
 ·rw[if_pos hb]
  rcases hb with hb|hb|hb
  all_goals
   subst hb
   simp (maxSteps:=1000000) [go_sem]
   refine loop (fun i:Nat=>i≤c.length) (fun i=>[(6,.os [6] 2 (((c.take i).flatMap qy).map clP)),(7,.p (.int .i64 i))]) (fun _=>[]) (fun i=>c.length-i) 0 (Nat.zero_le _) (fun i hi=>?_) (h0:=by simp[go_sem,LeS,leV,leR,leA])
   by_cases hil:i<c.length
   ·obtain⟨y,hy⟩:∃y,c[i]=y:=⟨_,rfl⟩
    have ry:qg y:=hr y (by rw[←hy];exact List.getElem_mem _)
    have em:elemAt (zP c) i=.int .i32 y:=by rw[ZY hil,hy]
    have w1:IntKind.i64.wrap ((i:Int)+1)=((i+1:Nat):Int):=zG (by omega)
    have st:=Yv (f:=qy) hil
    rw[hy]at st
    have l1:=Vz qy 2 (c.take i) fun x _=>vd x
    rw[List.length_take]at l1
    have st2:((c.take i).flatMap qy).map clP++(qy y).map clP=((c.take (i+1)).flatMap qy).map clP:=by rw[st,List.map_append]
    have l3:(((c.take i).flatMap qy).map clP).length≤20000:=by rw[List.length_map];omega
    generalize ((c.take i).flatMap qy).map clP=A at st2 l3⊢
    by_cases q1:0≤y∧y<32
    ·have hw:IntKind.i32.wrap (y+64)=y+64:=by
      simp only[IntKind.wrap,IntKind.signed,IntKind.bits]
      simp
      omega
     have gP:=zlb (y+64) ⟨by omega,by omega⟩
     rw[zh1 q1]at st2
     generalize jc (y+64)=pb at gP st2
     simp (maxSteps:=1000000) [go_sem,hil,em,q1.1,q1.2,hw]
     refine zq gP ?_
     simp (maxSteps:=1000000) [go_sem,w1,st2]
     refine⟨by decide,by omega,?_⟩
     exact next (i+1) hil (h3:=by show c.length- (i+1)<c.length-i;omega)
    ·by_cases q2:y=127
     ·subst q2
      rw[zgZ]at st2
      simp (maxSteps:=1000000) [go_sem,hil,em,w1,st2]
      refine⟨by decide,by omega,?_⟩
      exact next (i+1) hil (h3:=by show c.length- (i+1)<c.length-i;omega)
     ·have gP:=zlb 65533 ⟨by decide,by decide⟩
      rw[zit q1 q2]at st2
      generalize jc 65533=pb at gP st2
      by_cases q3:0≤y
      ·have q4:¬y<32:=fun k=>q1 ⟨q3,k⟩
       simp (maxSteps:=1000000) [go_sem,hil,em,q2,q3,q4]
       refine zq gP ?_
       simp (maxSteps:=1000000) [go_sem,w1,st2]
       refine⟨by omega,?_⟩
       exact next (i+1) hil (h3:=by show c.length- (i+1)<c.length-i;omega)
      ·simp (maxSteps:=1000000) [go_sem,hil,em,q2,q3]
       refine zq gP ?_
       simp (maxSteps:=1000000) [go_sem,w1,st2]
       refine⟨by omega,?_⟩
       exact next (i+1) hil (h3:=by show c.length- (i+1)<c.length-i;omega)
   ·obtain rfl:i=c.length:=by omega
    rw[List.take_length]
    simp (maxSteps:=1000000) [go_sem]
    exact ret
 ·rw[if_neg hb]
  obtain⟨nb1,nb2,nb3⟩:¬b=1∧¬b=2∧¬b=3:=⟨fun k=>hb (.inl k),fun k=>hb (.inr (.inl k)),fun k=>hb (.inr (.inr k))⟩
  obtain⟨z,hz⟩:∃z,z=c.getLastD 0:=⟨_,rfl⟩
  rw[←hz]at hsh
  have ez:elemAt (zP c) (c.length-1)=.int .i32 z:=by
   rw[ZY (by omega),hz]
   have e1:c.getLastD 0=c[c.length-1]:=by
    rw[List.getLastD_eq_getLast?,List.getLast?_eq_getElem?,List.getElem?_eq_getElem (by omega)];rfl
   rw[e1]
  have rz:qg z:=by
   rw[hz,List.getLastD_eq_getLast?,List.getLast?_eq_getElem?,List.getElem?_eq_getElem (by omega)]
   exact hr _ (List.getElem_mem _)
  have gz:=jT kz rz
  generalize zD za z=bz at gz hsh
  have w1:IntKind.i64.wrap ((c.length:Int)-1)=((c.length-1:Nat):Int):=by
   rw[wrap64 (by omega) (by omega)];omega
  have lt1:((c.length-1:Nat):Int)<c.length:=by omega
  have fin:∀s:List Int,(∀x∈s,x=9676∨x∈c)→∀x∈s,qg x:=fun s h x hx=>by
   rcases h x hx with rfl|h
   ·exact⟨by decide,by decide⟩
   ·exact hr x h
  by_cases hd:b=4∨b=5∨b=8
  ·rw[if_pos hd]at hsh
   by_cases q7:bz=7
   ·have gE:=KW (9676::c++[9676]) (by simp;omega) (fin _ fun x hx=>by simp at hx;grind)
    have gW:=uv (9676::c++[9676]) (by simp) (by simp;omega) (fin _ fun x hx=>by simp at hx;grind)
    have hS:Z6 c=9676::c++[9676]:=by rw[hsh];simp[q7,KB]
    rw[hS]
    have hI:PV.int .i32 9676::(zP c++[.int .i32 9676])=zP (9676::c++[9676]):=by simp[zP]
    rcases hd with hd|hd|hd
    all_goals
     subst hd
     simp (maxSteps:=1000000) [go_sem,w1,ez,lt1]
     refine⟨by omega,zq gz ?_⟩
     simp (maxSteps:=1000000) [go_sem,q7,hI]
     refine⟨by omega,zq gE ?_⟩
     simp (maxSteps:=1000000) [go_sem]
     refine zq gW ?_
     simp (maxSteps:=1000000) [go_sem]
     exact ret (hx:=by simp[go_sem,zf,leA,leT,clP])
   ·have gE:=KW (9676::c) (by simp;omega) (fin _ fun x hx=>by simp at hx;grind)
    have gW:=uv (9676::c) (by simp) (by simp;omega) (fin _ fun x hx=>by simp at hx;grind)
    have hS:Z6 c=9676::c:=by rw[hsh];simp[q7,KB]
    rw[hS]
    have hI:PV.int .i32 9676::zP c=zP (9676::c):=by simp[zP]
    rcases hd with hd|hd|hd
    all_goals
     subst hd
     simp (maxSteps:=1000000) [go_sem,w1,ez,lt1,hI]
     refine⟨by omega,zq gz ?_⟩
     simp (maxSteps:=1000000) [go_sem,q7]
     refine zq gE ?_
     simp (maxSteps:=1000000) [go_sem]
     refine zq gW ?_
     simp (maxSteps:=1000000) [go_sem]
     exact ret (hx:=by simp[go_sem,zf,leA,leT,clP])
  ·rw[if_neg hd]at hsh
   obtain⟨nb4,nb5,nb8⟩:¬b=4∧¬b=5∧¬b=8:=⟨fun k=>hd (.inl k),fun k=>hd (.inr (.inl k)),fun k=>hd (.inr (.inr k))⟩
   simp (maxSteps:=1000000) [go_sem,nb1,nb2,nb3,nb4,nb5,nb8,w1,ez,lt1]
   refine⟨by omega,zq gz ?_⟩
   by_cases q7:bz=7
   ·have gE:=KW (c++[9676]) (by simp;omega) (fin _ fun x hx=>by simp at hx;grind)
    have gW:=uv (c++[9676]) (by simp) (by simp;omega) (fin _ fun x hx=>by simp at hx;grind)
    have hS:Z6 c=c++[9676]:=by rw[hsh];simp[q7,KB]
    rw[hS]
    have hI:zP c++[.int .i32 9676]=zP (c++[9676]):=by simp[zP]
    simp (maxSteps:=1000000) [go_sem,q7,hI]
    refine⟨by omega,zq gE ?_⟩
    simp (maxSteps:=1000000) [go_sem]
    refine zq gW ?_
    simp (maxSteps:=1000000) [go_sem]
    exact ret (hx:=by simp[go_sem,zf,leA,leT,clP])
   ·have gE:=KW c (by omega) hr
    have gW:=uv c h0 (by omega) hr
    have hS:Z6 c=c:=by rw[hsh];simp[q7]
    rw[hS]
    simp (maxSteps:=1000000) [go_sem,q7]
    refine zq gE ?_
    simp (maxSteps:=1000000) [go_sem]
    refine zq gW ?_
    simp (maxSteps:=1000000) [go_sem]
    exact ret (hx:=by simp[go_sem,zf,leA,leT,clP])
theorem zcB [Gi] {l:List Int} {L:List (List Int)}(h:Ln l L)(hn:l.length≤10000):CR Tryz.prog 74 [] [.p (z6 za),.p (zE l)] [] (is (.tup [.p (qe (L.flatMap ofG)),.p (Je (ke L (L.length+1)))])):=by
 refine walk Tryz.func74 10 [] [] [] ?_
 have hc:=zh4 l h.n h.r
 rw[←h.eq]at hc
 have hL:=h.cl.len
 rw[h.sum]at hL
 simp (maxSteps:=1000000) [go_sem,Tryz.f74]
 refine zq hc ?_
 simp (maxSteps:=1000000) [go_sem]
 refine loop (fun i:Nat=>i≤L.length) (fun i=>[(6,.os [6] 2 (((L.take i).flatMap ofG).map clP)),(7,.os [7] 1 (Z9 (ke L i))),(9,.p (.int .i64 i))]) (fun _=>[]) (fun i=>L.length-i) 0 (Nat.zero_le _) (fun i hi=>?_) (h0:=by simp[go_sem,LeS,leV,leR,leA,ke,Z9])
 have hg:=ug h i
 have hg':(((L.take i).flatMap ofG).map clP).length=atG L i:=by rw[List.length_map];rfl
 by_cases hil:i<L.length
 ·have hm:=h.mem (List.getElem_mem hil)
  have hne:=h.ne _ (List.getElem_mem hil)
  have gO:=zht L[i] hne (by omega) hm.2
  have em:=xL hil
  have st:=JJ hil
  have ol:=zbx L[i] hne
  have s1:=uM L i
  have nl:(Z9 (ke L i)).length=i:=by simp[Z9,ke]
  have w1:IntKind.i64.wrap ((i:Int)+1)=((i+1:Nat):Int):=zG (by omega)
  generalize L[i]=y at hm hne gO em st ol
  generalize ofG y=oy at gO st ol
  generalize ((L.take i).flatMap ofG).map clP=A at st hg'⊢
  simp (maxSteps:=1000000) [go_sem,hil,em,hg',s1]
  refine⟨by rw[vQ];omega,zq gO ?_⟩
  simp (maxSteps:=1000000) [go_sem,w1,st]
  refine⟨by omega,?_⟩
  exact next (i+1) hil (h3:=by show L.length- (i+1)<L.length-i;omega)
 ·obtain rfl:i=L.length:=by omega
  rw[List.take_length]at hg'⊢
  have s1:=uM L L.length
  have nl:(Z9 (ke L L.length)).length=L.length:=by simp[Z9,ke]
  simp (maxSteps:=1000000) [go_sem,hg',s1]
  exact⟨by rw[vQ];omega,ret (hx:=by simp[go_sem,zf,leA,leT,leP])⟩
def QC(s:Int×Int):PV:=.agg [.int .i64 s.1,.int .i64 s.2]
def jQ(L:List (Int×Int)):PV:=.sl 2 (L.map QC)
theorem zb6 {C:Int} {l:List Cl} {i:Nat}(h:i<l.length):stG C l (i+1)=Uc C (stG C l i) l[i]:=by
 have e:l.getD i blk=l[i]:=by rw[List.getD_eq_getElem?_getD,List.getElem?_eq_getElem h];rfl
 rw[stG,e]
theorem zgz {C:Int} {l:List Cl} {i:Nat}(h:i<l.length):qu C l i=yK C (stG C l i) l[i]:=by
 have e:l.getD i blk=l[i]:=by rw[List.getD_eq_getElem?_getD,List.getElem?_eq_getElem h];rfl
 rw[qu,if_pos h,e]
theorem YY {l:List Cl} {i:Nat}(h:i<l.length):elemAt (l.map clP) i=.agg [.str l[i].t,.int .i64 l[i].w]:=by
 rw[zp clP l i h];rfl
def uU(C:Int)(l:List Cl)(k:Nat):List PV:=((List.range k).map (qu C l)).map QC
theorem um(C:Int)(l:List Cl)(k:Nat):(uU C l k).length=k:=by simp[uU]
theorem uD(C:Int)(l:List Cl)(k:Nat):uU C l k++[QC (qu C l k)]=uU C l (k+1):=by
 unfold uU
 rw[List.range_succ,List.map_append,List.map_append];rfl
theorem zcL(C:Int)(l:List Cl):PV.sl 2 (uU C l (l.length+1))=jQ (Qx C l):=rfl
theorem zae [Gi](l:List Cl)(C:Nat)(hn:l.length≤100000)(hC:2≤C∧C≤1000)(hl:∀x∈l,yB x):CR Tryz.prog 76 [] [.p (qe l),.p (.int .i64 C)] [] (is (.p (jQ (Qx C l)))):=by
 refine walk Tryz.func76 9 [] [] [] ?_
 have a1:¬(C:Int)<2:=by omega
 simp (maxSteps:=1000000) [go_sem,Tryz.f76,a1]
 refine loop (fun i:Nat=>i≤l.length) (fun i=>[(5,.os [5] 2 (uU C l i)),(6,.p (.int .i64 (stG C l i).1)),(7,.p (.int .i64 (stG C l i).2)),(8,.p (.int .i64 i))]) (fun _=>[]) (fun i=>l.length-i) 0 (Nat.zero_le _) (fun i hi=>?_) (h0:=by simp[go_sem,LeS,leV,leR,leA,uU,stG])
 have bd:=YC (C:=C) (by omega) hl i hi
 by_cases hil:i<l.length
 ·have st:=zb6 (C:=C) hil
  have sp:=zgz (C:=C) hil
  have em:=YY hil
  have hw:=hl _ (List.getElem_mem hil)
  generalize l[i]=x at st sp em hw
  generalize stG C l i=s at bd st sp⊢
  obtain⟨p,q⟩:=s
  obtain⟨t,w⟩:=x
  simp only[yB]at bd hw em
  have wc:IntKind.i64.wrap ((C:Int)-q)=(C:Int)-q:=wrap64 (by omega) (by omega)
  have wp:IntKind.i64.wrap (p+1)=p+1:=wrap64 (by omega) (by omega)
  have wq:IntKind.i64.wrap (q+w)=q+w:=wrap64 (by omega) (by omega)
  have wz:IntKind.i64.wrap w=w:=wrap64 (by omega) (by omega)
  have w1:IntKind.i64.wrap ((i:Int)+1)=((i+1:Nat):Int):=zG (by omega)
  by_cases k:(C:Int)<q+w
  ·skip
   have k2:(C:Int)-q<w:=by omega
   have e1:yK C (p,q) ⟨t,w⟩=(p+1,0):=by unfold yK;exact if_pos k
   have e2:Uc C (p,q) ⟨t,w⟩=(p+1,w):=by unfold Uc;rw[e1];simp
   rw[e2]at st
   rw[e1]at sp
   have ss:=uD C l i
   rw[sp]at ss
   simp only[QC]at ss
   simp (maxSteps:=1000000) [go_sem,hil,em,wc,k2,wp,wz,w1,ss]
   refine⟨by rw[um];omega,?_⟩
   exact next (i+1) hil (h3:=by show l.length- (i+1)<l.length-i;omega) (h2:=by simp[go_sem,LeS,leV,leR,leA,st])
  ·skip
   have k2:¬(C:Int)-q<w:=by omega
   have e1:yK C (p,q) ⟨t,w⟩=(p,q):=by unfold yK;exact if_neg k
   have e2:Uc C (p,q) ⟨t,w⟩=(p,q+w):=by unfold Uc;rw[e1]
   rw[e2]at st
   rw[e1]at sp
   have ss:=uD C l i
   rw[sp]at ss
   simp only[QC]at ss
   simp (maxSteps:=1000000) [go_sem,hil,em,wc,k2,wq,w1,ss]
   refine⟨by rw[um];omega,?_⟩
   exact next (i+1) hil (h3:=by show l.length- (i+1)<l.length-i;omega) (h2:=by simp[go_sem,LeS,leV,leR,leA,st])
 ·obtain rfl:i=l.length:=by omega
  have sp:qu C l l.length=zbW C (stG C l l.length):=by unfold qu;rw[if_neg (by omega)]
  have ss:=uD C l l.length
  rw[sp]at ss
  rw[←zcL]
  generalize stG C l l.length=s at bd ss⊢
  obtain⟨p,q⟩:=s
  simp only at bd
  have wp:IntKind.i64.wrap (p+1)=p+1:=wrap64 (by omega) (by omega)
  by_cases k:(C:Int)≤q
  ·have e1:zbW C (p,q)=(p+1,0):=if_pos k
   rw[e1]at ss
   simp only[QC]at ss
   simp (maxSteps:=1000000) [go_sem,k,wp,ss]
   exact⟨by rw[um];omega,ret (hx:=by simp[go_sem,zf,leA,leT])⟩
  ·have e1:zbW C (p,q)=(p,q):=if_neg k
   rw[e1]at ss
   simp only[QC]at ss
   simp (maxSteps:=1000000) [go_sem,k,ss]
   exact⟨by rw[um];omega,ret (hx:=by simp[go_sem,zf,leA,leT])⟩
theorem zkr [Gi](l:List Cl)(C:Nat):CR Tryz.prog 123 [] [.p (qe l),.p (.int .i64 C)] []
  (fun x rs=>x=.fn 172 [.lp [2] 0,.lp [3] 0]∧rs=[([2],[.p (qe l)]),([3],[.p (.int .i64 C)])]):=by
 refine walk Tryz.func123 5 [] [] [] ?_
 simp (maxSteps:=1000000) [go_sem,Tryz.f123]
 exact zA [[2],[3]] (.fn 172 [.lp [2] 0,.lp [3] 0]) ⟨rfl,by simp⟩ (by simp[go_sem,zf,leA,leT]) ⟨rfl,by simp[go_sem]⟩
def y5(l:List Cl)(C:Nat)(L:List PV):List (Tok×List AV):=[([5],[.os [5,0] 2 L]),([16,2],[.p (qe l)]),([16,3],[.p (.int .i64 C)])]
def jZ:List Tok:=[[5],[16,2],[16,3]]
def vf:Option Cl→List Tok
 |none=>[[5],[16,2],[16,3],[4]]
 |some _=>[[5],[16,2],[16,3],[4],[6]]
def vz(s:Int×Int):Option Cl→List (Tok×List AV)
 |none=>[([4],[.p (.int .i64 s.1),.p (.int .i64 s.2)])]
 |some x=>[([4],[.p (.int .i64 s.1),.p (.int .i64 s.2)]),([6],[.p (.str x.t),.p (.int .i64 x.w)])]
def zod(y:Nat)(l:List Cl)(C i:Nat):St:=
 {n:=50,nv:=7,vs:=[(0,.p (.opq (.func (.yield y) #[] #[]))),(1,.lp [16,2] 0),(2,.lp [16,3] 0),(4,.lp [4] 0),(7,.p (qe l)),(8,.p (.int .i64 l.length)),(9,.p (.int .i64 i))],ts:=[],rs:=y5 l C (uU C l i)++vz (stG C l i) none,pin:=jZ,ex:=[7,8,9]}
theorem zob [Gi](l:List Cl)(C:Nat)(hn:l.length≤100000)(hC:2≤C∧C≤1000)(hl:∀x∈l,yB x)(E:Ent)(y:Nat)
  (hy:∀k o S1,k≤l.length→S1.rs=y5 l C (uU C l k)++vz (qu C l k) o→S1.pin=jZ→YJ Tryz.prog E y (vf o) [.int .i64 (k:Nat),.agg #[.int .i64 (qu C l k).1,.int .i64 (qu C l k).2]] S1 (fun rs=>rs=y5 l C (uU C l (k+1))++vz (qu C l k) o)):
  ∀co,Tryz.f172.body=some co→zV Tryz.prog E co (zhx jZ (fun rs=>∃s,rs=y5 l C (uU C l (l.length+1))++vz s none)) (itS Tryz.f172 7 [7,8,9] y [.lp [16,2] 0,.lp [16,3] 0] (y5 l C []) jZ):=by
 intro co hco
 have hnt:Tryz.f172.ntmps=50:=rfl
 unfold Tryz.f172 at hco
 injection hco with hco
 subst hco
 refine zV.jI (D:=[]) mixed (by kernel_rfl) ?_
 simp (maxSteps:=1000000) [go_sem,itS,ud,y5,jZ]
 refine zV.seq ?_
 refine zV.jI (D:=[]) mixed (by kernel_rfl) ?_
 simp (maxSteps:=1000000) [go_sem]
 refine zV.block ?_
 refine zV.loop (fun i:Nat=>i≤l.length) (fun i=>zod y l C i) (fun i=>l.length-i) 0 (Nat.zero_le _) (by simp[go_sem,LeS,leV,leR,leA,leL,zod,y5,jZ,vz,uU,stG]) (fun i hi=>?_)
 have bd:=YC (C:=C) (by omega) hl i hi
 refine zV.jI (D:=[]) mixed (by kernel_rfl) ?_
 simp (maxSteps:=1000000) [go_sem,zod,y5,jZ,vz]
 by_cases hil:i<l.length
 ·have st:=zb6 (C:=C) hil
  have sp:=zgz (C:=C) hil
  have em:=YY hil
  have hw:=hl _ (List.getElem_mem hil)
  generalize l[i]=x at st sp em hw
  generalize stG C l i=s at bd st sp⊢
  obtain⟨p,q⟩:=s
  obtain⟨t,w⟩:=x
  simp only[yB]at bd hw em
  have wp:IntKind.i64.wrap (p+1)=p+1:=wrap64 (by omega) (by omega)
  have wq:IntKind.i64.wrap (q+w)=q+w:=wrap64 (by omega) (by omega)
  have wz:IntKind.i64.wrap w=w:=wrap64 (by omega) (by omega)
  have w1:IntKind.i64.wrap ((i:Int)+1)=((i+1:Nat):Int):=zG (by omega)
  refine zV.jI (D:=[]) mixed (by kernel_rfl) ?_
  simp (maxSteps:=1000000) [go_sem,hil]
  refine zV.seq (zV.block ?_)
  refine zV.jI (D:=[]) mixed (by kernel_rfl) ?_
  simp (maxSteps:=1000000) [go_sem,hil,em]
  have hY:=hy i (some ⟨t,w⟩)
  by_cases k:(C:Int)<q+w
  ·have e1:yK C (p,q) ⟨t,w⟩=(p+1,0):=by unfold yK;exact if_pos k
   have e2:Uc C (p,q) ⟨t,w⟩=(p+1,w):=by unfold Uc;rw[e1];simp
   rw[e2]at st
   rw[sp,e1]at hY
   simp only at hY
   refine zV.jI (D:=[]) mixed (by kernel_rfl) ?_
   simp (maxSteps:=1000000) [go_sem,wq,wp,k]
   refine zV.seq (zV.seq ?_)
   refine zV.VO (l:=y) (d:=28) 3 rfl rfl rfl (pins:=vf (some ⟨t,w⟩)) (by kernel_rfl) (by kernel_rfl) ?_
   simp (maxSteps:=1000000) [go_sem,vf]
   refine⟨_,hY _ hi rfl rfl,?_⟩
   rintro _ rfl
   simp (maxSteps:=1000000) [go_sem,xH,yE,y5,vz]
   refine zV.zf3 (by simp[go_sem]) ?_
   refine zV.Qb (D:=[]) mixed (by kernel_rfl) ?_
   simp (maxSteps:=1000000) [go_sem]
   refine zV.Qb (D:=[]) mixed (by kernel_rfl) ?_
   simp (maxSteps:=1000000) [go_sem,wz]
   refine zV.Qb (D:=[]) mixed (by kernel_rfl) ?_
   simp (maxSteps:=1000000) [go_sem,w1]
   exact Ww (i+1) hil (by simp[go_sem,LeS,leV,leR,leA,leL,st]) (by show l.length- (i+1)<l.length-i;omega)
  ·have e1:yK C (p,q) ⟨t,w⟩=(p,q):=by unfold yK;exact if_neg k
   have e2:Uc C (p,q) ⟨t,w⟩=(p,q+w):=by unfold Uc;rw[e1]
   rw[e2]at st
   rw[sp,e1]at hY
   simp only at hY
   refine zV.jI (D:=[]) mixed (by kernel_rfl) ?_
   simp (maxSteps:=1000000) [go_sem,wq,k]
   refine zV.seq (zV.seq ?_)
   refine zV.VO (l:=y) (d:=28) 3 rfl rfl rfl (pins:=vf (some ⟨t,w⟩)) (by kernel_rfl) (by kernel_rfl) ?_
   simp (maxSteps:=1000000) [go_sem,vf]
   refine⟨_,hY _ hi rfl rfl,?_⟩
   rintro _ rfl
   simp (maxSteps:=1000000) [go_sem,xH,yE,y5,vz]
   refine zV.zf3 (by simp[go_sem]) ?_
   refine zV.Qb (D:=[]) mixed (by kernel_rfl) ?_
   simp (maxSteps:=1000000) [go_sem]
   refine zV.Qb (D:=[]) mixed (by kernel_rfl) ?_
   simp (maxSteps:=1000000) [go_sem,wq]
   refine zV.Qb (D:=[]) mixed (by kernel_rfl) ?_
   simp (maxSteps:=1000000) [go_sem,w1]
   exact Ww (i+1) hil (by simp[go_sem,LeS,leV,leR,leA,leL,st]) (by show l.length- (i+1)<l.length-i;omega)
 ·obtain rfl:i=l.length:=by omega
  refine zV.jI (D:=[]) mixed (by kernel_rfl) ?_
  simp (maxSteps:=1000000) [go_sem]
  have sp:qu C l l.length=zbW C (stG C l l.length):=by unfold qu;rw[if_neg (by omega)]
  have hY:=hy l.length none
  rw[sp]at hY
  generalize stG C l l.length=s at bd hY⊢
  obtain⟨p,q⟩:=s
  simp only at bd
  have wp:IntKind.i64.wrap (p+1)=p+1:=wrap64 (by omega) (by omega)
  by_cases k:(C:Int)≤q
  ·have e1:zbW C (p,q)=(p+1,0):=if_pos k
   rw[e1]at hY
   simp only at hY
   refine zV.jI (D:=[]) mixed (by kernel_rfl) ?_
   simp (maxSteps:=1000000) [go_sem,k,wp]
   refine zV.VO (l:=y) (d:=49) 4 rfl rfl rfl (pins:=vf none) (by kernel_rfl) (by kernel_rfl) ?_
   simp (maxSteps:=1000000) [go_sem,vf]
   refine⟨_,hY _ hi rfl rfl,?_⟩
   rintro _ rfl
   simp (maxSteps:=1000000) [go_sem,xH,yE,y5,vz]
  ·have e1:zbW C (p,q)=(p,q):=if_neg k
   rw[e1]at hY
   simp only at hY
   refine zV.jI (D:=[]) mixed (by kernel_rfl) ?_
   simp (maxSteps:=1000000) [go_sem,k]
   refine zV.VO (l:=y) (d:=49) 4 rfl rfl rfl (pins:=vf none) (by kernel_rfl) (by kernel_rfl) ?_
   simp (maxSteps:=1000000) [go_sem,vf]
   refine⟨_,hY _ hi rfl rfl,?_⟩
   rintro _ rfl
   simp (maxSteps:=1000000) [go_sem,xH,yE,y5,vz]
theorem zdH [Gi](l:List Cl)(C:Nat)(hn:l.length≤100000)(hC:2≤C∧C≤1000)(hl:∀x∈l,yB x):CR Tryz.prog 67 [] [.p (qe l),.p (.int .i64 C)] [] (is (.p (jQ (Qx C l)))):=by
 refine uA 8 [16,17,18] Tryz.func67 rfl rfl (by simp) (by simp) ?_
 have a1:¬(C:Int)<2:=by omega
 have w1:IntKind.i64.wrap ((l.length:Int)+1)=((l.length+1:Nat):Int):=zG (by omega)
 refine Ql.seq (D:=[]) mixed (by kernel_rfl) ?_
 simp (maxSteps:=1000000) [go_sem]
 refine Ql.seq (D:=[]) mixed (by kernel_rfl) ?_
 simp (maxSteps:=1000000) [go_sem,a1]
 refine Ql.zew fun E=>?_
 refine zV.zp9 3 (T:=136) (e:=30) (z:=2) (bytes:=16) (zs:=[.int .i64 0,.int .i64 0]) rfl rfl rfl rfl (by kernel_rfl) (by kernel_rfl) (by simp[go_sem];exact⟨rfl,rfl,rfl⟩) (by simp[go_sem];rfl) (by simp[PV.one]) ?_
 simp (maxSteps:=1000000) [go_sem,w1]
 refine⟨by omega,by omega,Ql.zqW (D:=[]) mixed (by kernel_rfl) ?_⟩
 simp (maxSteps:=1000000) [go_sem]
 refine⟨⟨rfl,by simp[Tryz.f123]⟩,zd [] (zkr l C) (by simp[go_sem]) ⟨by simp[go_sem],by simp[go_sem]⟩ (by simp[go_sem]) ?_⟩
 rintro _ _ ⟨rfl,rfl⟩
 simp (maxSteps:=1000000) [go_sem]
 refine zle.zmt (D:=[]) mixed (gf:=172) (caps:=[.lp [16,2] 0,.lp [16,3] 0]) rfl (by simp[Tryz.f172]) (fn':=Tryz.f172) 7 [7,8,9] Tryz.func172 rfl rfl (by simp) (by simp[Tryz.f172])
  [(0,.p (qe l)),(1,.p (.int .i64 C)),(5,.lp [5] 0)] jZ (y5 l C []) (fun rs=>∃s,rs=y5 l C (uU C l (l.length+1))++vz s none) (by simp[yE,jZ]) (by simp) rfl rfl
  (by simp[go_sem,LeS,leV,leR,leA,leL,lst,y5]) (by simp) (by simp) (by kernel_rfl) (by kernel_rfl)
  (fun r:Nat×Option Cl=>r.1≤l.length) (fun r=>y5 l C (uU C l r.1)++vz (qu C l r.1) r.2) (fun r=>y5 l C (uU C l (r.1+1))++vz (qu C l r.1) r.2) (fun r=>((r.1:Nat),.p (QC (qu C l r.1)),.agg #[.int .i64 (qu C l r.1).1,.int .i64 (qu C l r.1).2])) (fun r=>vf r.2) (by simp) (fun k g w=>by simp only[zb,zl,zw,QC];exact⟨_,rfl,_,_,rfl,rfl,rfl,_,_,rfl,rfl,rfl,rfl⟩) ?_ ?_ ?_
 ·rintro⟨k,o⟩ hk
  simp only at hk
  have ss:=uD C l k
  have hlen:=um C l k
  unfold QC at ss⊢
  cases o with
  |none=>
   simp (maxSteps:=1000000) [go_sem,lst,y5,vf,vz,ss]
   exact⟨by rw[hlen];omega,.inl (by simp[go_sem,LeS,leV,leR,leA,leL])⟩
  |some x=>
   simp (maxSteps:=1000000) [go_sem,lst,y5,vf,vz,ss]
   exact⟨by rw[hlen];omega,.inl (by simp[go_sem,LeS,leV,leR,leA,leL])⟩
 ·intro E y hy
  exact zob l C hn hC hl E y (fun k o S1 h1 h2 h3=>hy (k,o) S1 h1 h2 h3) _ rfl
 ·rintro rs ⟨s,rfl⟩
  refine zlA.Qb (D:=[]) (by kernel_rfl) ?_
  simp (maxSteps:=1000000) [go_sem,lst,zqe,y5,vz,zcL]
  exact zg (.p (jQ (Qx C l))) rfl (by simp[go_sem,zf,leA,leT];exact⟨_,_,_,⟨rfl,rfl,rfl⟩,rfl⟩) ⟨rfl,rfl⟩
end
end Go.Proofs.YtfjdbbpimklecaaGreatDoor
