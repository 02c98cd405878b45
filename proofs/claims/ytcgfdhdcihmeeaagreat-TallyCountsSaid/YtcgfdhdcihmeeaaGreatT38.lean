/- A part of the proof of this seat's statements, by an abstract machine: what each operation does to values, and what the law's functions compute. Conditions: as each law says. -/
import Derived.Test.YtcgfdhdcihmeeaaGreatT37
import Derived.Test.YtcgfdhdcihmeeaaGreatT34
section
namespace Go.Proofs.YtcgfdhdcihmeeaaGreat
open Go.AM
set_option maxHeartbeats 4000000
set_option maxRecDepth 10000
attribute [local irreducible] za
theorem zfl:∀L:List (List Int),(∀c∈L,c≠ [])→(L.flatMap ofG).length≤2*QX L
 | [],_=>by simp[QX]
 |c::L,h=>by
  have h1:=zaz c (h c (by simp))
  have h2:=zfl L fun x hx=>h x (by simp[hx])
  have e:QX (c::L)=c.length+QX L:=by simp[QX]
  rw[List.flatMap_cons,List.length_append,e];omega
theorem zcG {c:List Int}:∀{L:List (List Int)},c∈L→c.length≤QX L
 | [],h=>by simp at h
 |d::L,h=>by
  have e:QX (d::L)=d.length+QX L:=by simp[QX]
  rcases List.mem_cons.1 h with rfl|h
  ·omega
  ·have:=zcG h;omega
theorem Ln.ne {l:List Int} {L:List (List Int)}(h:Ln l L):∀c∈L,c≠ []:=fun c hc=>by
 obtain⟨x,c',e,_⟩:=h.cl.full.r c hc
 rw[e];simp
theorem Ln.mem {l:List Int} {L:List (List Int)}(h:Ln l L) {c:List Int}(hc:c∈L):c.length≤l.length∧∀x∈c,zY x:=by
 have hf:=h.flat
 have hs:∀x∈c,x∈l:=fun x hx=>by rw[←hf];exact List.mem_flatten.2 ⟨c,hc,hx⟩
 refine⟨?_,fun x hx=>h.r x (hs x hx)⟩
 rw[←h.sum]
 exact zcG hc
theorem vf {l:List Int} {L:List (List Int)}(h:Ln l L)(k:Nat):atG L k≤2*l.length:=by
 have h1:=zfl (L.take k) fun c hc=>h.ne c (List.mem_of_mem_take hc)
 have h2:=zf7 L k
 have h3:=h.sum
 unfold atG;omega
def jN(L:List (List Int))(k:Nat):List Nat:=(List.range k).map (atG L)
theorem wy(L:List (List Int))(k:Nat):(jN L k).length=k:=by simp[jN]
theorem vL(L:List (List Int))(k:Nat):ZQ (jN L k)++[.int .i64 (atG L k:Nat)]=ZQ (jN L (k+1)):=by
 unfold jN
 rw[List.range_succ,List.map_append]
 simp[ZQ]
theorem ze9 {L:List (List Int)}:atG L L.length=(L.flatMap ofG).length:=by unfold atG;rw[List.take_length]
theorem KX {L:List (List Int)} {i:Nat}(h:i<L.length):((L.take i).flatMap ofG).map clP++(ofG L[i]).map clP=((L.take (i+1)).flatMap ofG).map clP:=by
 rw[List.take_add_one,List.getElem?_eq_getElem h,List.flatMap_append,List.map_append]
 simp
theorem xh {L:List (List Int)} {i:Nat}(h:i<L.length):elemAt (Zg L) i=.sl 1 (zK L[i]):=by
 unfold Zg
 rw[zp zA L i h];rfl
theorem zeX [Gi] {e:PV}(hT:yA e) {l:List Int} {L:List (List Int)}(h:Ln l L)(hn:l.length≤10000):CR Tryz.prog 70 [] [.p e,.p (zA l)] [] (is (.tup [.p (Za (L.flatMap ofG)),.p (JP (jN L (L.length+1)))])):=by
 refine walk Tryz.func70 10 [12,13,14] [] [] ?_
 have hc:=ziV hT l h.n h.r
 rw[←h.eq]at hc
 have hL:=h.cl.len
 rw[h.sum]at hL
 simp (maxSteps:=1000000) [go_sem,Tryz.f70]
 refine zq hc ?_
 simp (maxSteps:=1000000) [go_sem]
 refine loop (fun i:Nat=>i≤L.length) (fun i=>[(6,.os [6] 2 (((L.take i).flatMap ofG).map clP)),(7,.os [7] 1 (ZQ (jN L i))),(9,.z8),(14,.p (.int .i64 i))]) (fun _=>[]) (fun i=>L.length-i) 0 (Nat.zero_le _) (fun i hi=>?_) (h0:=by simp[go_sem,LeS,leV,leR,leA,leT,leP,jN,ZQ])
 have hg:=vf h i
 have hg':(((L.take i).flatMap ofG).map clP).length=atG L i:=by rw[List.length_map];rfl
 by_cases hil:i<L.length
 ·have hm:=h.mem (List.getElem_mem hil)
  have hne:=h.ne _ (List.getElem_mem hil)
  have gO:=ziU hT L[i] hne (by omega) hm.2
  have em:=xh hil
  have st:=KX hil
  have ol:=zaz L[i] hne
  have s1:=vL L i
  have nl:(ZQ (jN L i)).length=i:=by simp[ZQ,jN]
  have w1:IntKind.i64.wrap ((i:Int)+1)=((i+1:Nat):Int):=zD (by omega)
  generalize L[i]=y at hm hne gO em st ol
  generalize ofG y=oy at gO st ol
  generalize ((L.take i).flatMap ofG).map clP=A at st hg'⊢
  simp (maxSteps:=1000000) [go_sem,hil,em,hg',s1]
  refine⟨by rw[wy];omega,zq gO ?_⟩
  simp (maxSteps:=1000000) [go_sem,w1,st]
  refine⟨by omega,?_⟩
  exact next (i+1) hil (h3:=by show L.length- (i+1)<L.length-i;omega)
 ·obtain rfl:i=L.length:=by omega
  rw[List.take_length]at hg'⊢
  have s1:=vL L L.length
  have nl:(ZQ (jN L L.length)).length=L.length:=by simp[ZQ,jN]
  simp (maxSteps:=1000000) [go_sem,hg',s1]
  exact⟨by rw[wy];omega,ret (hx:=by simp[go_sem,zf,leA,leT,leP])⟩
theorem Ln.mk'(l:List Int)(hn:l.length<2^31)(hr:∀x∈l,zY x):Ln l (zI za l):=⟨rfl,hn,hr⟩
theorem xy {l:List Int} {L:List (List Int)}(h:Ln l L):L.flatMap ofG=uK l:=by rw[h.eq];rfl
end Go.Proofs.YtcgfdhdcihmeeaaGreat
end
section
namespace Go.Proofs.YtcgfdhdcihmeeaaGreat
open Go.AM
set_option maxHeartbeats 4000000
set_option maxRecDepth 10000
attribute [local irreducible] za
theorem JK(c0:Int)(x:Int):∀(l:List Int) (k:Nat),ZA c0 k (l++[x])=(ZA c0 k l || uZ c0 (k+l.length) x)
 | [],k=>by simp[ZA]
 |y::l,k=>by
  have ih:=JK c0 x l (k+1)
  simp only[List.cons_append,ZA,ih,List.length_cons]
  rw[show k+1+l.length=k+(l.length+1) by omega,Bool.or_assoc]
theorem zc1 {c0:Int} {c:List Int} {i:Nat}(h:i<c.length):ZA c0 0 (c.take (i+1))=(ZA c0 0 (c.take i) || uZ c0 i c[i]):=by
 rw[List.take_add_one,List.getElem?_eq_getElem h]
 have:=JK c0 c[i] (c.take i) 0
 rw[List.length_take,Nat.zero_add,Nat.min_eq_left (by omega)]at this
 exact this
def vW(m:Bool):Int:=if m then 2 else 1
theorem vQ [Gi](c:List Int)(h0:c≠ [])(hn:c.length<2^31)(hr:∀x∈c,zY x):CR Tryz.prog 107 [] [.p (zU za),.p (zA c)] [] (is (.p (.int .i64 (UI c)))):=by
 refine walk Tryz.func107 7 [] [] [] ?_
 have hp:0<c.length:=List.length_pos_iff.2 h0
 obtain⟨c0,hc0⟩:∃c0,c0=c.headD 0:=⟨_,rfl⟩
 have e0:elemAt (zK c) 0=.int .i32 c0:=by
  rw[hc0]
  cases c with
  |nil=>simp at hp
  |cons a c=>rfl
 have r0:zY c0:=by
  rw[hc0]
  cases c with
  |nil=>simp at hp
  |cons a c=>exact hr a (by simp)
 have g2:=uS za 5 c0 jQ.n r0
 simp (maxSteps:=1000000) [go_sem,Tryz.f107]
 refine loop (fun i:Nat=>i≤c.length) (fun i=>[(5,.p (.int .i64 (vW (ZA c0 0 (c.take i))))),(6,.p (.int .i64 i))]) (fun _=>[]) (fun i=>c.length-i) 0 (Nat.zero_le _) (fun i hi=>?_) (h0:=by simp[go_sem,LeS,leV,leR,leA,leT,leP,ZA,vW])
 by_cases hil:i<c.length
 ·have st:=zc1 (c0:=c0) hil
  have ry:zY c[i]:=hr _ (List.getElem_mem _)
  have em:=ZC hil
  generalize c[i]=y at st ry em
  generalize ZA c0 0 (c.take i)=m at st⊢
  have g1:=uS za 7 y jQ.n ry
  have w1:IntKind.i64.wrap ((i:Int)+1)=((i+1:Nat):Int):=zD (by omega)
  simp (maxSteps:=1000000) [go_sem,hil,em]
  refine zq g1 ?_
  by_cases hw:aL za 7 y=1
  ·by_cases qi:0<i
   ·by_cases qa:y=65039
    ·subst qa
     simp (maxSteps:=1000000) [go_sem,hil,em,hp,e0,qi,hw]
     refine zq g2 ?_
     by_cases hp2:aL za 5 c0=1
     ·simp (maxSteps:=1000000) [go_sem,hp2,w1]
      have st':ZA c0 0 (c.take (i+1))=true:=by rw[st];simp[uZ,wh,ve,hw,qi,hp2]
      exact next (i+1) hil (h3:=by show c.length- (i+1)<c.length-i;omega) (h2:=by simp[go_sem,LeS,leV,leR,leA,leL,zi,leT,leP,st',vW])
     ·simp (maxSteps:=1000000) [go_sem,hp2,w1]
      have st':ZA c0 0 (c.take (i+1))=true:=by rw[st];simp[uZ,wh,ve,hw,qi,hp2]
      exact next (i+1) hil (h3:=by show c.length- (i+1)<c.length-i;omega) (h2:=by simp[go_sem,LeS,leV,leR,leA,leL,zi,leT,leP,st',vW])
    ·simp (maxSteps:=1000000) [go_sem,hil,em,hp,e0,qi,qa,hw,w1]
     have st':ZA c0 0 (c.take (i+1))=true:=by rw[st];simp[uZ,wh,ve,hw,qi,qa]
     exact next (i+1) hil (h3:=by show c.length- (i+1)<c.length-i;omega) (h2:=by simp[go_sem,LeS,leV,leR,leA,leL,zi,leT,leP,st',vW])
   ·have qi':¬(0:Int)<i:=by omega
    simp (maxSteps:=1000000) [go_sem,hil,em,hp,e0,qi,qi',hw,w1]
    have st':ZA c0 0 (c.take (i+1))=true:=by rw[st];simp[uZ,wh,ve,hw,qi]
    exact next (i+1) hil (h3:=by show c.length- (i+1)<c.length-i;omega) (h2:=by simp[go_sem,LeS,leV,leR,leA,leL,zi,leT,leP,st',vW])
  ·by_cases qi:0<i
   ·by_cases qa:y=65039
    ·subst qa
     simp (maxSteps:=1000000) [go_sem,hil,em,hp,e0,qi,hw]
     refine zq g2 ?_
     by_cases hp2:aL za 5 c0=1
     ·simp (maxSteps:=1000000) [go_sem,hp2,w1]
      have st':ZA c0 0 (c.take (i+1))=true:=by rw[st];simp[uZ,wh,ve,hw,qi,hp2]
      exact next (i+1) hil (h3:=by show c.length- (i+1)<c.length-i;omega) (h2:=by simp[go_sem,LeS,leV,leR,leA,leL,zi,leT,leP,st',vW])
     ·simp (maxSteps:=1000000) [go_sem,hp2,w1]
      have st':ZA c0 0 (c.take (i+1))=m:=by rw[st];simp[uZ,wh,ve,hw,qi,hp2]
      exact next (i+1) hil (h3:=by show c.length- (i+1)<c.length-i;omega) (h2:=by simp[go_sem,LeS,leV,leR,leA,leL,zi,leT,leP,st',vW])
    ·simp (maxSteps:=1000000) [go_sem,hil,em,hp,e0,qi,qa,hw,w1]
     have st':ZA c0 0 (c.take (i+1))=m:=by rw[st];simp[uZ,wh,ve,hw,qi,qa]
     exact next (i+1) hil (h3:=by show c.length- (i+1)<c.length-i;omega) (h2:=by simp[go_sem,LeS,leV,leR,leA,leL,zi,leT,leP,st',vW])
   ·have qi':¬(0:Int)<i:=by omega
    simp (maxSteps:=1000000) [go_sem,hil,em,hp,e0,qi,qi',hw,w1]
    have st':ZA c0 0 (c.take (i+1))=m:=by rw[st];simp[uZ,wh,ve,hw,qi]
    exact next (i+1) hil (h3:=by show c.length- (i+1)<c.length-i;omega) (h2:=by simp[go_sem,LeS,leV,leR,leA,leL,zi,leT,leP,st',vW])
 ·obtain rfl:i=c.length:=by omega
  rw[List.take_length,hc0]
  have hv:UI c=if uy c=true then 2 else vW (ZA (c.headD 0) 0 c):=by
   unfold UI vW
   cases uy c<;>cases ZA (c.headD 0) 0 c<;>rfl
  rw[hv]
  match c,h0,hr with
  | [a],_,hr=>
   have hf:uy [a]=false:=rfl
   rw[hf]
   generalize ZA ([a].headD 0) 0 [a]=m
   simp (maxSteps:=1000000) [go_sem]
   exact ret
  |a::b::l,_,hr=>
   have hf:uy (a::b::l)=(decide (zx za a=6)&&decide (zx za b=6)):=rfl
   rw[hf]
   generalize ZA ((a::b::l).headD 0) 0 (a::b::l)=m
   have g3:=jh jQ (hr a (by simp))
   have g4:=jh jQ (hr b (by simp))
   have ea:elemAt (zK (a::b::l)) 0=.int .i32 a:=rfl
   have eb:elemAt (zK (a::b::l)) 1=.int .i32 b:=rfl
   have hlen:(a::b::l).length=l.length+2:=rfl
   have k1:(1:Int)< (l.length:Int)+2:=by omega
   have k2:(0:Int)< (l.length:Int)+2:=by omega
   have k3:(1:Nat)<l.length+2:=by omega
   generalize hC:zK (a::b::l)=C at ea eb⊢
   have hCl:C.length=l.length+2:=by rw[←hC,zX];rfl
   simp (maxSteps:=1000000) [go_sem,hlen,hCl,hC,ea,eb,k1,k2,k3]
   refine zq g3 ?_
   by_cases b6:zx za a=6
   ·simp (maxSteps:=1000000) [go_sem,hCl,ea,eb,k1,k2,k3,b6]
    refine zq g4 ?_
    by_cases b7:zx za b=6
    ·simp (maxSteps:=1000000) [go_sem,b7]
     exact ret
    ·simp (maxSteps:=1000000) [go_sem,b7]
     exact ret
   ·simp (maxSteps:=1000000) [go_sem,hCl,ea,eb,k1,k2,k3,b6]
    exact ret
end Go.Proofs.YtcgfdhdcihmeeaaGreat
end
section
namespace Go.Proofs.YtcgfdhdcihmeeaaGreat
open Go.AM
set_option maxHeartbeats 8000000
set_option maxRecDepth 10000
attribute [local irreducible] za
theorem zf9 {y:Int}(h:0≤y∧y<32):(qe y).map clP=[.agg [.str [94],.int .i64 1],.agg [.str (QN (y+64)),.int .i64 1]]:=by
 have e1:QN (y+64)=[u8 (y.toNat+64)]:=by
  have hv:qU (y+64)=true:=by unfold qU;simp;omega
  unfold QN zbs
  rw[hv,if_pos rfl]
  unfold Qp
  rw[if_pos (by omega)]
  congr 2
  omega
 unfold qe
 rw[if_pos h,e1]
 rfl
theorem zfP:(qe 127).map clP=[.agg [.str [94],.int .i64 1],.agg [.str [63],.int .i64 1]]:=rfl
theorem zgK {y:Int}(h:¬(0≤y∧y<32))(h2:y≠127):(qe y).map clP=[.agg [.str (QN 65533),.int .i64 1]]:=by
 have e3:QN 65533=[239,191,189]:=by decide
 unfold qe
 rw[if_neg h,if_neg h2,e3]
 rfl
theorem zf0 [Gi](c:List Int)(h0:c≠ [])(hn:c.length≤10000)(hr:∀x∈c,zY x):CR Tryz.prog 76 [] [.p (zU za),.p (zA c)] [] (is (.p (Za (ofG c)))):=by
 refine walk Tryz.func76 9 [] [] [] ?_
 obtain⟨c0,c',rfl⟩:∃a l,c=a::l:=by
  cases c with
  |nil=>exact absurd rfl h0
  |cons a l=>exact⟨a,l,rfl⟩
 have g1:=jh jQ (hr c0 (by simp))
 have e0:elemAt (zK (c0::c')) 0=.int .i32 c0:=rfl
 have hp:0< (c0::c').length:=by simp
 have hof:ofG (c0::c')=if zx za c0=1∨zx za c0=2∨zx za c0=3 then(c0::c').flatMap qe else [⟨kE (ZI (c0::c')),UI (ZI (c0::c'))⟩]:=rfl
 have hsh:ZI (c0::c')=(if zx za c0=4∨zx za c0=5∨zx za c0=8 then [US]else [])++(c0::c')++(if zx za ((c0::c').getLastD 0)=7 then [US]else []):=rfl
 generalize (c0::c')=c at*
 rw[hof]
 generalize zx za c0=b at g1 hof hsh⊢
 have hcl:¬c.length=0:=by omega
 simp (maxSteps:=1000000) [go_sem,Tryz.f76,e0,hp,hcl]
 refine zq g1 ?_
 by_cases hb:b=1∨b=2∨b=3
 ·rw[if_pos hb]
  rcases hb with hb|hb|hb
  all_goals
   subst hb
   simp (maxSteps:=1000000) [go_sem]
   refine loop (fun i:Nat=>i≤c.length) (fun i=>[(6,.os [6] 2 (((c.take i).flatMap qe).map clP)),(7,.p (.int .i64 i))]) (fun _=>[]) (fun i=>c.length-i) 0 (Nat.zero_le _) (fun i hi=>?_) (h0:=by simp[go_sem,LeS,leV,leR,leA,leT,leP])
   by_cases hil:i<c.length
   ·obtain⟨y,hy⟩:∃y,c[i]=y:=⟨_,rfl⟩
    have ry:zY y:=hr y (by rw[←hy];exact List.getElem_mem _)
    have em:elemAt (zK c) i=.int .i32 y:=by rw[ZC hil,hy]
    have w1:IntKind.i64.wrap ((i:Int)+1)=((i+1:Nat):Int):=zD (by omega)
    have st:=KT (f:=qe) hil
    rw[hy]at st
    have l1:=Wy qe 2 (c.take i) fun x _=>xN x
    rw[List.length_take]at l1
    have st2:((c.take i).flatMap qe).map clP++(qe y).map clP=((c.take (i+1)).flatMap qe).map clP:=by rw[st,List.map_append]
    have l3:(((c.take i).flatMap qe).map clP).length≤20000:=by rw[List.length_map];omega
    generalize ((c.take i).flatMap qe).map clP=A at st2 l3⊢
    by_cases q1:0≤y∧y<32
    ·have hw:IntKind.i32.wrap (y+64)=y+64:=by
      simp only[IntKind.wrap,IntKind.signed,IntKind.bits]
      simp
      omega
     have gP:=zjc (y+64) ⟨by omega,by omega⟩
     rw[zf9 q1]at st2
     generalize QN (y+64)=pb at gP st2
     simp (maxSteps:=1000000) [go_sem,hil,em,q1.1,q1.2,hw]
     refine zq gP ?_
     simp (maxSteps:=1000000) [go_sem,w1,st2]
     refine⟨by decide,by omega,?_⟩
     exact next (i+1) hil (h3:=by show c.length- (i+1)<c.length-i;omega)
    ·by_cases q2:y=127
     ·subst q2
      rw[zfP]at st2
      simp (maxSteps:=1000000) [go_sem,hil,em,w1,st2]
      refine⟨by decide,by omega,?_⟩
      exact next (i+1) hil (h3:=by show c.length- (i+1)<c.length-i;omega)
     ·have gP:=zjc 65533 ⟨by decide,by decide⟩
      rw[zgK q1 q2]at st2
      generalize QN 65533=pb at gP st2
      by_cases q3:0≤y
      ·have q4:¬y<32:=fun k=>q1 ⟨q3,k⟩
       simp (maxSteps:=1000000) [go_sem,hil,em,q2,q3,q4]
       refine zq gP ?_
       simp (maxSteps:=1000000) [go_sem,w1,st2]
       refine⟨by omega,?_⟩
       exact next (i+1) hil (h3:=by show c.length- (i+1)<c.length-i;omega)
      ·simp (maxSteps:=1000000) [go_sem,hil,em,q2,q3]
       refine zq gP ?_
       simp (maxSteps:=1000000) [go_sem,w1,st2]
       refine⟨by omega,?_⟩
       exact next (i+1) hil (h3:=by show c.length- (i+1)<c.length-i;omega)
   ·obtain rfl:i=c.length:=by omega
    rw[List.take_length]
    simp (maxSteps:=1000000) [go_sem]
    exact ret
 ·rw[if_neg hb]
  obtain⟨nb1,nb2,nb3⟩:¬b=1∧¬b=2∧¬b=3:=⟨fun k=>hb (.inl k),fun k=>hb (.inr (.inl k)),fun k=>hb (.inr (.inr k))⟩
  obtain⟨z,hz⟩:∃z,z=c.getLastD 0:=⟨_,rfl⟩
  rw[←hz]at hsh
  have ez:elemAt (zK c) (c.length-1)=.int .i32 z:=by
   rw[ZC (by omega),hz]
   have e1:c.getLastD 0=c[c.length-1]:=by
    rw[List.getLastD_eq_getLast?,List.getLast?_eq_getElem?,List.getElem?_eq_getElem (by omega)];rfl
   rw[e1]
  have rz:zY z:=by
   rw[hz,List.getLastD_eq_getLast?,List.getLast?_eq_getElem?,List.getElem?_eq_getElem (by omega)]
   exact hr _ (List.getElem_mem _)
  have gz:=jh jQ rz
  generalize zx za z=bz at gz hsh
  have w1:IntKind.i64.wrap ((c.length:Int)-1)=((c.length-1:Nat):Int):=by
   rw[wrap64 (by omega) (by omega)];omega
  have lt1:((c.length-1:Nat):Int)<c.length:=by omega
  have fin:∀s:List Int,(∀x∈s,x=9676∨x∈c)→∀x∈s,zY x:=fun s h x hx=>by
   rcases h x hx with rfl|h
   ·exact⟨by decide,by decide⟩
   ·exact hr x h
  by_cases hd:b=4∨b=5∨b=8
  ·rw[if_pos hd]at hsh
   by_cases q7:bz=7
   ·have gE:=U9 (9676::c++[9676]) (by simp;omega) (fin _ fun x hx=>by simp at hx;grind)
    have gW:=vQ (9676::c++[9676]) (by simp) (by simp;omega) (fin _ fun x hx=>by simp at hx;grind)
    have hS:ZI c=9676::c++[9676]:=by rw[hsh];simp[q7,US]
    rw[hS]
    have hI:PV.int .i32 9676::(zK c++[.int .i32 9676])=zK (9676::c++[9676]):=by simp[zK]
    rcases hd with hd|hd|hd
    all_goals
     subst hd
     simp (maxSteps:=1000000) [go_sem,w1,ez,lt1]
     refine⟨by omega,zq gz ?_⟩
     simp (maxSteps:=1000000) [go_sem,q7,hI]
     refine⟨by omega,zq gE ?_⟩
     simp (maxSteps:=1000000) [go_sem]
     refine zq gW ?_
     simp (maxSteps:=1000000) [go_sem]
     exact ret (hx:=by simp[go_sem,zf,leA,leT,leP,clP])
   ·have gE:=U9 (9676::c) (by simp;omega) (fin _ fun x hx=>by simp at hx;grind)
    have gW:=vQ (9676::c) (by simp) (by simp;omega) (fin _ fun x hx=>by simp at hx;grind)
    have hS:ZI c=9676::c:=by rw[hsh];simp[q7,US]
    rw[hS]
    have hI:PV.int .i32 9676::zK c=zK (9676::c):=by simp[zK]
    rcases hd with hd|hd|hd
    all_goals
     subst hd
     simp (maxSteps:=1000000) [go_sem,w1,ez,lt1,hI]
     refine⟨by omega,zq gz ?_⟩
     simp (maxSteps:=1000000) [go_sem,q7]
     refine zq gE ?_
     simp (maxSteps:=1000000) [go_sem]
     refine zq gW ?_
     simp (maxSteps:=1000000) [go_sem]
     exact ret (hx:=by simp[go_sem,zf,leA,leT,leP,clP])
  ·rw[if_neg hd]at hsh
   obtain⟨nb4,nb5,nb8⟩:¬b=4∧¬b=5∧¬b=8:=⟨fun k=>hd (.inl k),fun k=>hd (.inr (.inl k)),fun k=>hd (.inr (.inr k))⟩
   simp (maxSteps:=1000000) [go_sem,nb1,nb2,nb3,nb4,nb5,nb8,w1,ez,lt1]
   refine⟨by omega,zq gz ?_⟩
   by_cases q7:bz=7
   ·have gE:=U9 (c++[9676]) (by simp;omega) (fin _ fun x hx=>by simp at hx;grind)
    have gW:=vQ (c++[9676]) (by simp) (by simp;omega) (fin _ fun x hx=>by simp at hx;grind)
    have hS:ZI c=c++[9676]:=by rw[hsh];simp[q7,US]
    rw[hS]
    have hI:zK c++[.int .i32 9676]=zK (c++[9676]):=by simp[zK]
    simp (maxSteps:=1000000) [go_sem,q7,hI]
    refine⟨by omega,zq gE ?_⟩
    simp (maxSteps:=1000000) [go_sem]
    refine zq gW ?_
    simp (maxSteps:=1000000) [go_sem]
    exact ret (hx:=by simp[go_sem,zf,leA,leT,leP,clP])
   ·have gE:=U9 c (by omega) hr
    have gW:=vQ c h0 (by omega) hr
    have hS:ZI c=c:=by rw[hsh];simp[q7]
    rw[hS]
    simp (maxSteps:=1000000) [go_sem,q7]
    refine zq gE ?_
    simp (maxSteps:=1000000) [go_sem]
    refine zq gW ?_
    simp (maxSteps:=1000000) [go_sem]
    exact ret (hx:=by simp[go_sem,zf,leA,leT,leP,clP])
end Go.Proofs.YtcgfdhdcihmeeaaGreat
end
section
namespace Go.Proofs.YtcgfdhdcihmeeaaGreat
open Go.AM
set_option maxHeartbeats 4000000
set_option maxRecDepth 10000
attribute [local irreducible] za
theorem zcR [Gi] {l:List Int} {L:List (List Int)}(h:Ln l L)(hn:l.length≤10000):CR Tryz.prog 40 [] [.p (zU za),.p (zA l)] [] (is (.tup [.p (Za (L.flatMap ofG)),.p (JP (jN L (L.length+1)))])):=by
 refine walk Tryz.func40 10 [] [] [] ?_
 have hc:=zgs l h.n h.r
 rw[←h.eq]at hc
 have hL:=h.cl.len
 rw[h.sum]at hL
 simp (maxSteps:=1000000) [go_sem,Tryz.f40]
 refine zq hc ?_
 simp (maxSteps:=1000000) [go_sem]
 refine loop (fun i:Nat=>i≤L.length) (fun i=>[(6,.os [6] 2 (((L.take i).flatMap ofG).map clP)),(7,.os [7] 1 (ZQ (jN L i))),(9,.p (.int .i64 i))]) (fun _=>[]) (fun i=>L.length-i) 0 (Nat.zero_le _) (fun i hi=>?_) (h0:=by simp[go_sem,LeS,leV,leR,leA,leT,leP,jN,ZQ])
 have hg:=vf h i
 have hg':(((L.take i).flatMap ofG).map clP).length=atG L i:=by rw[List.length_map];rfl
 by_cases hil:i<L.length
 ·have hm:=h.mem (List.getElem_mem hil)
  have hne:=h.ne _ (List.getElem_mem hil)
  have gO:=zf0 L[i] hne (by omega) hm.2
  have em:=xh hil
  have st:=KX hil
  have ol:=zaz L[i] hne
  have s1:=vL L i
  have nl:(ZQ (jN L i)).length=i:=by simp[ZQ,jN]
  have w1:IntKind.i64.wrap ((i:Int)+1)=((i+1:Nat):Int):=zD (by omega)
  generalize L[i]=y at hm hne gO em st ol
  generalize ofG y=oy at gO st ol
  generalize ((L.take i).flatMap ofG).map clP=A at st hg'⊢
  simp (maxSteps:=1000000) [go_sem,hil,em,hg',s1]
  refine⟨by rw[wy];omega,zq gO ?_⟩
  simp (maxSteps:=1000000) [go_sem,w1,st]
  refine⟨by omega,?_⟩
  exact next (i+1) hil (h3:=by show L.length- (i+1)<L.length-i;omega)
 ·obtain rfl:i=L.length:=by omega
  rw[List.take_length]at hg'⊢
  have s1:=vL L L.length
  have nl:(ZQ (jN L L.length)).length=L.length:=by simp[ZQ,jN]
  simp (maxSteps:=1000000) [go_sem,hg',s1]
  exact⟨by rw[wy];omega,ret (hx:=by simp[go_sem,zf,leA,leT,leP])⟩
def Qk(s:Int×Int):PV:=.agg [.int .i64 s.1,.int .i64 s.2]
def jv(L:List (Int×Int)):PV:=.sl 2 (L.map Qk)
theorem za2 {C:Int} {l:List Cl} {i:Nat}(h:i<l.length):stG C l (i+1)=Jt C (stG C l i) l[i]:=by
 have e:l.getD i blk=l[i]:=by rw[List.getD_eq_getElem?_getD,List.getElem?_eq_getElem h];rfl
 rw[stG,e]
theorem zeV {C:Int} {l:List Cl} {i:Nat}(h:i<l.length):qp C l i=yC C (stG C l i) l[i]:=by
 have e:l.getD i blk=l[i]:=by rw[List.getD_eq_getElem?_getD,List.getElem?_eq_getElem h];rfl
 rw[qp,if_pos h,e]
theorem JH {l:List Cl} {i:Nat}(h:i<l.length):elemAt (l.map clP) i=.agg [.str l[i].t,.int .i64 l[i].w]:=by
 rw[zp clP l i h];rfl
def vY(C:Int)(l:List Cl)(k:Nat):List PV:=((List.range k).map (qp C l)).map Qk
theorem vn(C:Int)(l:List Cl)(k:Nat):(vY C l k).length=k:=by simp[vY]
theorem vR(C:Int)(l:List Cl)(k:Nat):vY C l k++[Qk (qp C l k)]=vY C l (k+1):=by
 unfold vY
 rw[List.range_succ,List.map_append,List.map_append];rfl
theorem zb6(C:Int)(l:List Cl):PV.sl 2 (vY C l (l.length+1))=jv (Qt C l):=rfl
theorem Yk [Gi](l:List Cl)(C:Nat)(hn:l.length≤100000)(hC:2≤C∧C≤1000)(hl:∀x∈l,k9 x):CR Tryz.prog 42 [] [.p (Za l),.p (.int .i64 C)] [] (is (.p (jv (Qt C l)))):=by
 refine walk Tryz.func42 9 [] [] [] ?_
 have a1:¬(C:Int)<2:=by omega
 simp (maxSteps:=1000000) [go_sem,Tryz.f42,a1]
 refine loop (fun i:Nat=>i≤l.length) (fun i=>[(5,.os [5] 2 (vY C l i)),(6,.p (.int .i64 (stG C l i).1)),(7,.p (.int .i64 (stG C l i).2)),(8,.p (.int .i64 i))]) (fun _=>[]) (fun i=>l.length-i) 0 (Nat.zero_le _) (fun i hi=>?_) (h0:=by simp[go_sem,LeS,leV,leR,leA,leT,leP,vY,stG])
 have bd:=Kr (C:=C) (by omega) hl i hi
 by_cases hil:i<l.length
 ·have st:=za2 (C:=C) hil
  have sp:=zeV (C:=C) hil
  have em:=JH hil
  have hw:=hl _ (List.getElem_mem hil)
  generalize l[i]=x at st sp em hw
  generalize stG C l i=s at bd st sp⊢
  obtain⟨p,q⟩:=s
  obtain⟨t,w⟩:=x
  simp only[k9]at bd hw em
  have wc:IntKind.i64.wrap ((C:Int)-q)=(C:Int)-q:=wrap64 (by omega) (by omega)
  have wp:IntKind.i64.wrap (p+1)=p+1:=wrap64 (by omega) (by omega)
  have wq:IntKind.i64.wrap (q+w)=q+w:=wrap64 (by omega) (by omega)
  have wz:IntKind.i64.wrap w=w:=wrap64 (by omega) (by omega)
  have w1:IntKind.i64.wrap ((i:Int)+1)=((i+1:Nat):Int):=zD (by omega)
  by_cases k:(C:Int)<q+w
  ·skip
   have k2:(C:Int)-q<w:=by omega
   have e1:yC C (p,q) ⟨t,w⟩=(p+1,0):=by unfold yC;exact if_pos k
   have e2:Jt C (p,q) ⟨t,w⟩=(p+1,w):=by unfold Jt;rw[e1];simp
   rw[e2]at st
   rw[e1]at sp
   have ss:=vR C l i
   rw[sp]at ss
   simp only[Qk]at ss
   simp (maxSteps:=1000000) [go_sem,hil,em,wc,k2,wp,wz,w1,ss]
   refine⟨by rw[vn];omega,?_⟩
   exact next (i+1) hil (h3:=by show l.length- (i+1)<l.length-i;omega) (h2:=by simp[go_sem,LeS,leV,leR,leA,leL,zi,leT,leP,st])
  ·skip
   have k2:¬(C:Int)-q<w:=by omega
   have e1:yC C (p,q) ⟨t,w⟩=(p,q):=by unfold yC;exact if_neg k
   have e2:Jt C (p,q) ⟨t,w⟩=(p,q+w):=by unfold Jt;rw[e1]
   rw[e2]at st
   rw[e1]at sp
   have ss:=vR C l i
   rw[sp]at ss
   simp only[Qk]at ss
   simp (maxSteps:=1000000) [go_sem,hil,em,wc,k2,wq,w1,ss]
   refine⟨by rw[vn];omega,?_⟩
   exact next (i+1) hil (h3:=by show l.length- (i+1)<l.length-i;omega) (h2:=by simp[go_sem,LeS,leV,leR,leA,leL,zi,leT,leP,st])
 ·obtain rfl:i=l.length:=by omega
  have sp:qp C l l.length=zcS C (stG C l l.length):=by unfold qp;rw[if_neg (by omega)]
  have ss:=vR C l l.length
  rw[sp]at ss
  rw[←zb6]
  generalize stG C l l.length=s at bd ss⊢
  obtain⟨p,q⟩:=s
  simp only at bd
  have wp:IntKind.i64.wrap (p+1)=p+1:=wrap64 (by omega) (by omega)
  by_cases k:(C:Int)≤q
  ·have e1:zcS C (p,q)=(p+1,0):=if_pos k
   rw[e1]at ss
   simp only[Qk]at ss
   simp (maxSteps:=1000000) [go_sem,k,wp,ss]
   exact⟨by rw[vn];omega,ret (hx:=by simp[go_sem,zf,leA,leT,leP])⟩
  ·have e1:zcS C (p,q)=(p,q):=if_neg k
   rw[e1]at ss
   simp only[Qk]at ss
   simp (maxSteps:=1000000) [go_sem,k,ss]
   exact⟨by rw[vn];omega,ret (hx:=by simp[go_sem,zf,leA,leT,leP])⟩
end Go.Proofs.YtcgfdhdcihmeeaaGreat
end
section
namespace Go.Proofs.YtcgfdhdcihmeeaaGreat
open Go.AM
set_option maxHeartbeats 4000000
set_option maxRecDepth 10000
attribute [local irreducible] za
theorem zjb [Gi](l:List Cl)(C:Nat):CR Tryz.prog 73 [] [.p (Za l),.p (.int .i64 C)] []
  (fun x rs=>x=.fn 101 [.lp [2] 0,.lp [3] 0]∧rs=[([2],[.p (Za l)]),([3],[.p (.int .i64 C)])]):=by
 refine walk Tryz.func73 5 [] [] [] ?_
 simp (maxSteps:=1000000) [go_sem,Tryz.f73]
 exact zu [[2],[3]] (.fn 101 [.lp [2] 0,.lp [3] 0]) ⟨rfl,by simp⟩ (by simp[go_sem,zf,leA,leT]) ⟨rfl,by simp[go_sem]⟩
def yp(l:List Cl)(C:Nat)(L:List PV):List (Tok×List AV):=[([5],[.os [5,0] 2 L]),([16,2],[.p (Za l)]),([16,3],[.p (.int .i64 C)])]
def jn:List Tok:=[[5],[16,2],[16,3]]
def wa:Option Cl→List Tok
 |none=>[[5],[16,2],[16,3],[4]]
 |some _=>[[5],[16,2],[16,3],[4],[6]]
def wv(s:Int×Int):Option Cl→List (Tok×List AV)
 |none=>[([4],[.p (.int .i64 s.1),.p (.int .i64 s.2)])]
 |some x=>[([4],[.p (.int .i64 s.1),.p (.int .i64 s.2)]),([6],[.p (.str x.t),.p (.int .i64 x.w)])]
def zmq(y:Nat)(l:List Cl)(C i:Nat):St:=
 {n:=50,nv:=7,vs:=[(0,.p (.opq (.func (.yield y) #[] #[]))),(1,.lp [16,2] 0),(2,.lp [16,3] 0),(4,.lp [4] 0),(7,.p (Za l)),(8,.p (.int .i64 l.length)),(9,.p (.int .i64 i))],ts:=[],rs:=yp l C (vY C l i)++wv (stG C l i) none,pin:=jn,ex:=[7,8,9]}
theorem zmi [Gi](l:List Cl)(C:Nat)(hn:l.length≤100000)(hC:2≤C∧C≤1000)(hl:∀x∈l,k9 x)(E:Ent)(y:Nat)
  (hy:∀k o S1,k≤l.length→S1.rs=yp l C (vY C l k)++wv (qp C l k) o→S1.pin=jn→VJ Tryz.prog E y (wa o) [.int .i64 (k:Nat),.agg #[.int .i64 (qp C l k).1,.int .i64 (qp C l k).2]] S1 (fun rs=>rs=yp l C (vY C l (k+1))++wv (qp C l k) o)):
  ∀co,Tryz.f101.body=some co→zN Tryz.prog E co (zfA jn (fun rs=>∃s,rs=yp l C (vY C l (l.length+1))++wv s none)) (itS Tryz.f101 7 [7,8,9] y [.lp [16,2] 0,.lp [16,3] 0] (yp l C []) jn):=by
 intro co hco
 have hnt:Tryz.f101.ntmps=50:=rfl
 unfold Tryz.f101 at hco
 injection hco with hco
 subst hco
 refine zN.yf (D:=[]) mixed (by kernel_rfl) ?_
 simp (maxSteps:=1000000) [go_sem,itS,uV,yp,jn]
 refine zN.seq ?_
 refine zN.yf (D:=[]) mixed (by kernel_rfl) ?_
 simp (maxSteps:=1000000) [go_sem]
 refine zN.block ?_
 refine zN.loop (fun i:Nat=>i≤l.length) (fun i=>zmq y l C i) (fun i=>l.length-i) 0 (Nat.zero_le _) (by simp[go_sem,LeS,leV,leR,leA,leL,zi,leT,leP,zmq,yp,jn,wv,vY,stG]) (fun i hi=>?_)
 have bd:=Kr (C:=C) (by omega) hl i hi
 refine zN.yf (D:=[]) mixed (by kernel_rfl) ?_
 simp (maxSteps:=1000000) [go_sem,zmq,yp,jn,wv]
 by_cases hil:i<l.length
 ·have st:=za2 (C:=C) hil
  have sp:=zeV (C:=C) hil
  have em:=JH hil
  have hw:=hl _ (List.getElem_mem hil)
  generalize l[i]=x at st sp em hw
  generalize stG C l i=s at bd st sp⊢
  obtain⟨p,q⟩:=s
  obtain⟨t,w⟩:=x
  simp only[k9]at bd hw em
  have wp:IntKind.i64.wrap (p+1)=p+1:=wrap64 (by omega) (by omega)
  have wq:IntKind.i64.wrap (q+w)=q+w:=wrap64 (by omega) (by omega)
  have wz:IntKind.i64.wrap w=w:=wrap64 (by omega) (by omega)
  have w1:IntKind.i64.wrap ((i:Int)+1)=((i+1:Nat):Int):=zD (by omega)
  refine zN.yf (D:=[]) mixed (by kernel_rfl) ?_
  simp (maxSteps:=1000000) [go_sem,hil]
  refine zN.seq (zN.block ?_)
  refine zN.yf (D:=[]) mixed (by kernel_rfl) ?_
  simp (maxSteps:=1000000) [go_sem,hil,em]
  have hY:=hy i (some ⟨t,w⟩)
  by_cases k:(C:Int)<q+w
  ·have e1:yC C (p,q) ⟨t,w⟩=(p+1,0):=by unfold yC;exact if_pos k
   have e2:Jt C (p,q) ⟨t,w⟩=(p+1,w):=by unfold Jt;rw[e1];simp
   rw[e2]at st
   rw[sp,e1]at hY
   simp only at hY
   refine zN.yf (D:=[]) mixed (by kernel_rfl) ?_
   simp (maxSteps:=1000000) [go_sem,wq,wp,k]
   refine zN.seq (zN.seq ?_)
   refine zN.Wk (l:=y) (d:=28) 3 rfl rfl rfl (pins:=wa (some ⟨t,w⟩)) (by kernel_rfl) (by kernel_rfl) ?_
   simp (maxSteps:=1000000) [go_sem,wa]
   refine⟨_,hY _ hi rfl rfl,?_⟩
   rintro _ rfl
   simp (maxSteps:=1000000) [go_sem,kx,jX,yp,wv]
   refine zN.zfp (by simp[go_sem]) ?_
   refine zN.ZY (D:=[]) mixed (by kernel_rfl) ?_
   simp (maxSteps:=1000000) [go_sem]
   refine zN.ZY (D:=[]) mixed (by kernel_rfl) ?_
   simp (maxSteps:=1000000) [go_sem,wz,wq]
   refine zN.ZY (D:=[]) mixed (by kernel_rfl) ?_
   simp (maxSteps:=1000000) [go_sem,w1]
   exact uE (i+1) hil (by simp[go_sem,LeS,leV,leR,leA,leL,zi,leT,leP,yp,jn,wv,st]) (by show l.length- (i+1)<l.length-i;omega)
  ·have e1:yC C (p,q) ⟨t,w⟩=(p,q):=by unfold yC;exact if_neg k
   have e2:Jt C (p,q) ⟨t,w⟩=(p,q+w):=by unfold Jt;rw[e1]
   rw[e2]at st
   rw[sp,e1]at hY
   simp only at hY
   refine zN.yf (D:=[]) mixed (by kernel_rfl) ?_
   simp (maxSteps:=1000000) [go_sem,wq,k]
   refine zN.seq (zN.seq ?_)
   refine zN.Wk (l:=y) (d:=28) 3 rfl rfl rfl (pins:=wa (some ⟨t,w⟩)) (by kernel_rfl) (by kernel_rfl) ?_
   simp (maxSteps:=1000000) [go_sem,wa]
   refine⟨_,hY _ hi rfl rfl,?_⟩
   rintro _ rfl
   simp (maxSteps:=1000000) [go_sem,kx,jX,yp,wv]
   refine zN.zfp (by simp[go_sem]) ?_
   refine zN.ZY (D:=[]) mixed (by kernel_rfl) ?_
   simp (maxSteps:=1000000) [go_sem]
   refine zN.ZY (D:=[]) mixed (by kernel_rfl) ?_
   simp (maxSteps:=1000000) [go_sem,wz,wq]
   refine zN.ZY (D:=[]) mixed (by kernel_rfl) ?_
   simp (maxSteps:=1000000) [go_sem,w1]
   exact uE (i+1) hil (by simp[go_sem,LeS,leV,leR,leA,leL,zi,leT,leP,yp,jn,wv,st]) (by show l.length- (i+1)<l.length-i;omega)
 ·obtain rfl:i=l.length:=by omega
  refine zN.yf (D:=[]) mixed (by kernel_rfl) ?_
  simp (maxSteps:=1000000) [go_sem]
  have sp:qp C l l.length=zcS C (stG C l l.length):=by unfold qp;rw[if_neg (by omega)]
  have hY:=hy l.length none
  rw[sp]at hY
  generalize stG C l l.length=s at bd hY⊢
  obtain⟨p,q⟩:=s
  simp only at bd
  have wp:IntKind.i64.wrap (p+1)=p+1:=wrap64 (by omega) (by omega)
  by_cases k:(C:Int)≤q
  ·have e1:zcS C (p,q)=(p+1,0):=if_pos k
   rw[e1]at hY
   simp only at hY
   refine zN.yf (D:=[]) mixed (by kernel_rfl) ?_
   simp (maxSteps:=1000000) [go_sem,k,wp]
   refine zN.Wk (l:=y) (d:=49) 4 rfl rfl rfl (pins:=wa none) (by kernel_rfl) (by kernel_rfl) ?_
   simp (maxSteps:=1000000) [go_sem,wa]
   refine⟨_,hY _ hi rfl rfl,?_⟩
   rintro _ rfl
   simp (maxSteps:=1000000) [go_sem,kx,jX,yp,wv]
  ·have e1:zcS C (p,q)=(p,q):=if_neg k
   rw[e1]at hY
   simp only at hY
   refine zN.yf (D:=[]) mixed (by kernel_rfl) ?_
   simp (maxSteps:=1000000) [go_sem,k]
   refine zN.Wk (l:=y) (d:=49) 4 rfl rfl rfl (pins:=wa none) (by kernel_rfl) (by kernel_rfl) ?_
   simp (maxSteps:=1000000) [go_sem,wa]
   refine⟨_,hY _ hi rfl rfl,?_⟩
   rintro _ rfl
   simp (maxSteps:=1000000) [go_sem,kx,jX,yp,wv]
theorem zaP [Gi](l:List Cl)(C:Nat)(hn:l.length≤100000)(hC:2≤C∧C≤1000)(hl:∀x∈l,k9 x):CR Tryz.prog 37 [] [.p (Za l),.p (.int .i64 C)] [] (is (.p (jv (Qt C l)))):=by
 refine vz 8 [16,17,18] Tryz.func37 rfl rfl (by simp) (by simp) ?_
 have a1:¬(C:Int)<2:=by omega
 have w1:IntKind.i64.wrap ((l.length:Int)+1)=((l.length+1:Nat):Int):=zD (by omega)
 refine Qb.seq (D:=[]) mixed (by kernel_rfl) ?_
 simp (maxSteps:=1000000) [go_sem]
 refine Qb.seq (D:=[]) mixed (by kernel_rfl) ?_
 simp (maxSteps:=1000000) [go_sem,a1]
 refine Qb.zdk fun E=>?_
 refine zN.znm 3 (T:=92) (e:=36) (z:=2) (bytes:=16) (zs:=[.int .i64 0,.int .i64 0]) rfl rfl rfl rfl (by kernel_rfl) (by kernel_rfl) (by simp[go_sem];exact⟨rfl,rfl,rfl⟩) (by simp[go_sem];rfl) (by simp[PV.one]) ?_
 simp (maxSteps:=1000000) [go_sem,w1]
 refine⟨by omega,by omega,Qb.zoN (D:=[]) mixed (by kernel_rfl) ?_⟩
 simp (maxSteps:=1000000) [go_sem]
 refine⟨⟨rfl,by simp[Tryz.f73]⟩,zd [] (zjb l C) (by simp[go_sem]) ⟨by simp[go_sem],by simp[go_sem]⟩ (by simp[go_sem]) ?_⟩
 rintro _ _ ⟨rfl,rfl⟩
 simp (maxSteps:=1000000) [go_sem]
 refine zdN.zkI (D:=[]) mixed (gf:=101) (caps:=[.lp [16,2] 0,.lp [16,3] 0]) rfl (by simp[Tryz.f101]) (fn':=Tryz.f101) 7 [7,8,9] Tryz.func101 rfl rfl (by simp) (by simp[Tryz.f101])
  [(0,.p (Za l)),(1,.p (.int .i64 C)),(5,.lp [5] 0)] jn (yp l C []) (fun rs=>∃s,rs=yp l C (vY C l (l.length+1))++wv s none) (by simp[jX,jn]) (by simp) rfl rfl
  (by simp[go_sem,LeS,leV,leR,leA,leL,zi,leT,leP,lst,yp]) (by simp) (by simp) (by kernel_rfl) (by kernel_rfl)
  (fun r:Nat×Option Cl=>r.1≤l.length) (fun r=>yp l C (vY C l r.1)++wv (qp C l r.1) r.2) (fun r=>yp l C (vY C l (r.1+1))++wv (qp C l r.1) r.2) (fun r=>((r.1:Nat),.p (Qk (qp C l r.1)),.agg #[.int .i64 (qp C l r.1).1,.int .i64 (qp C l r.1).2])) (fun r=>wa r.2) (by simp) (fun k g w=>by simp only[zb,zj,zr,Qk];exact⟨_,rfl,_,_,rfl,rfl,rfl,_,_,rfl,rfl,rfl,rfl⟩) ?_ ?_ ?_
 ·rintro⟨k,o⟩ hk
  simp only at hk
  have ss:=vR C l k
  have hlen:=vn C l k
  unfold Qk at ss⊢
  cases o with
  |none=>
   simp (maxSteps:=1000000) [go_sem,lst,yp,wa,wv,ss]
   exact⟨by rw[hlen];omega,.inl (by simp[go_sem,LeS,leV,leR,leA,leL,zi,leT,leP,lst])⟩
  |some x=>
   simp (maxSteps:=1000000) [go_sem,lst,yp,wa,wv,ss]
   exact⟨by rw[hlen];omega,.inl (by simp[go_sem,LeS,leV,leR,leA,leL,zi,leT,leP,lst])⟩
 ·intro E y hy
  exact zmi l C hn hC hl E y (fun k o S1 h1 h2 h3=>hy (k,o) S1 h1 h2 h3) _ rfl
 ·rintro rs ⟨s,rfl⟩
  refine zhf.ZY (D:=[]) (by kernel_rfl) ?_
  simp (maxSteps:=1000000) [go_sem,lst,zod,yp,wv,zb6]
  exact zh (.p (jv (Qt C l))) rfl (by simp[go_sem,zf,leA,leT,leP];exact⟨_,_,_,⟨rfl,rfl,rfl⟩,rfl⟩) ⟨rfl,rfl⟩
end Go.Proofs.YtcgfdhdcihmeeaaGreat
end
