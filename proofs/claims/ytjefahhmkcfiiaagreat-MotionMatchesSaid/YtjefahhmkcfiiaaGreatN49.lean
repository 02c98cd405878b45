/- A part of the proof of this seat's statements, by an abstract machine: what each operation does to values, and what the law's functions compute. Conditions: as each law says. -/
import Derived.Test.YtjefahhmkcfiiaaGreatN48
section
namespace Go.Proofs.YtjefahhmkcfiiaaGreat
open Go.AM
set_option maxHeartbeats 4000000
set_option maxRecDepth 10000
attribute [local irreducible] za
def wP(L:List (List Int))(w:Nat×Nat):PV:=.agg [.int .i64 (plc L w.1:Nat),.int .i64 (plc L w.2:Nat)]
def wC(L:List (List Int))(o:List (Nat×Nat)):List AV:=o.flatMap fun w=>[.p (.int .i64 (plc L w.1:Nat)),.p (.int .i64 (plc L w.2:Nat))]
theorem zaW(L:List (List Int))(o:List (Nat×Nat)):(wC L o).length=2*o.length:=by
 induction o with
 |nil=>rfl
 |cons w o ih=>simp only[wC,List.flatMap_cons,List.length_append,List.length_cons,List.length_nil]at ih⊢;omega
theorem zfh(L:List (List Int))(o o':List (Nat×Nat)):wC L (o++o')=wC L o++wC L o':=by simp[wC]
@[go_sem] theorem zoo (rt tt : Tok → Bool) (L : List (List Int)) (o : List (Nat × Nat)) : (wC L o).map (AV.upd (fil rt tt)) = wC L o := by
 simp[wC,AV.upd,fil,QB,List.map_flatMap]
attribute [go_sem] zaW
theorem zmi(L:List (List Int))(o:List (Nat×Nat))(w:Nat×Nat):(wC L (o++[w]))[o.length*2+1]?=some (.p (.int .i64 (plc L w.2:Nat))):=by
 rw[zfh,List.getElem?_append_right (by rw[zaW];omega),zaW,show o.length*2+1-2*o.length=1 by omega];rfl
theorem zma(L:List (List Int))(o:List (Nat×Nat))(b k k':Nat):(wC L (o++[(b,k)])).take (o.length*2+1)++.p (.int .i64 (plc L k':Nat))::(wC L (o++[(b,k)])).drop (o.length*2+1+1)=wC L (o++[(b,k')]):=by
 have h:=zaW L o
 rw[zfh,zfh,List.take_append,List.drop_append,h,List.take_of_length_le (by omega),List.drop_eq_nil_of_le (by omega)]
 have e1:o.length*2+1-2*o.length=1:=by omega
 have e2:o.length*2+1+1-2*o.length=2:=by omega
 rw[e1,e2]
 simp[wC]
theorem zki(L:List (List Int))(o:List (Nat×Nat))(b q k k':Nat):wC L (o++[(b,q),(k,k')])=wC L (o++[(b,q)])++[AV.p (.int .i64 (plc L k:Nat)),.p (.int .i64 (plc L k':Nat))]:=by simp[wC]
def woV(o:List (Nat×Nat)):AV:=if o=[]then .p (.opq (.slice none 0 0))else .la [51] 2 0 o.length
def woR(L:List (List Int))(o:List (Nat×Nat)):List (Tok×List AV):=if o=[]then []else [([51],wC L o)]
def zmn(L:List (List Int)):AV→List (Tok×List AV)→Prop:=fun x rs=>∃o,qX L L.length o∧x=(if o=[]then .p (.sl 2 [])else .la [51] 2 0 o.length)∧rs=woR L o
theorem zc4 [Gi] {l:List Int} {L:List (List Int)}(h:Ln l L):CR Tryz.prog 184 [] [.p (zC za),.p (zh l)] [] (zmn L):=by
 refine walk Tryz.func184 8 [] [] [5,51] ?_
 have hs:=h.sum
 have hcl:=h.cl
 have hln:=h.n
 have hlen:=hcl.len
 simp (maxSteps:=1000000) [go_sem,Tryz.f184]
 refine loop (fun r:Nat×List (Nat×Nat)=>r.1≤L.length∧r.2.length≤r.1∧qX L r.1 r.2) (fun r=>[(5,woV r.2),(6,.p (.int .i64 (plc L r.1:Nat))),(7,.zZ)]) (fun r=>woR L r.2) (fun r=>L.length-r.1) (0,[]) ⟨by simp,by simp,qX.nil L⟩ (fun r hr=>?_) (by simp[go_sem,LeS,leV,leR,leA,woV,woR,qV])
 obtain⟨k,o⟩:=r
 obtain⟨h1,h2,h3⟩:=hr
 simp only at h1 h2 h3
 by_cases c1:k<L.length
 ·have g1:=qS hcl c1 (Nat.le_refl _)
  rw[qc,hs]at g1
  have g2:(plc L k:Int)<l.length:=by omega
  have hI:=zmh h c1
  have hX:=zcJ h c1
  rcases List.eq_nil_or_concat o with rfl|⟨o,w,rfl⟩
  ·simp (maxSteps:=1000000) [go_sem,g2,woV,woR]
   refine zn hI ?_
   cases hb:qT L k with
   |false=>
    simp (maxSteps:=1000000) [go_sem]
    refine zn hX ?_
    simp (maxSteps:=1000000) [go_sem]
    exact next (k+1,[]) ⟨c1,by simp,h3.skip hb⟩ (by show L.length- (k+1)<L.length-k;omega) (by simp[go_sem,LeS,leV,leR,leA])
   |true=>
    simp (maxSteps:=1000000) [go_sem]
    refine zn hX ?_
    simp (maxSteps:=1000000) [go_sem]
    refine zn hX ?_
    simp (maxSteps:=1000000) [go_sem]
    exact next (k+1,[]++[(k,k+1)]) ⟨c1,by simp,h3.push hb (by simp)⟩ (by show L.length- (k+1)<L.length-k;omega) (by simp[go_sem,LeS,leV,leR,leA,leL,wC])
  ·rw[List.concat_eq_append]at h2 h3⊢
   rw[List.length_append,List.length_singleton]at h2
   simp (maxSteps:=1000000) [go_sem,g2,woV,woR]
   refine zn hI ?_
   cases hb:qT L k with
   |false=>
    simp (maxSteps:=1000000) [go_sem]
    refine zn hX ?_
    simp (maxSteps:=1000000) [go_sem]
    exact next (k+1,o++[w]) ⟨c1,by simp;omega,h3.skip hb⟩ (by show L.length- (k+1)<L.length-k;omega) (by simp[go_sem,LeS,leV,leR,leA,zj])
   |true=>
    obtain⟨b,q⟩:=w
    have w1:IntKind.i64.wrap ((o.length:Int)+1-1)=(o.length:Int):=by rw[wrap64 (by omega) (by omega)];omega
    have w1':IntKind.i64.wrap (o.length:Int)=(o.length:Int):=Ym (by omega)
    have hg:=zmi L o (b,q)
    simp only at hg
    simp (maxSteps:=1000000) [go_sem]
    refine zn hX ?_
    by_cases c2:q=k
    ·subst c2
     have hp:=zma L o b q (q+1)
     simp (maxSteps:=1000000) [go_sem,w1',hg]
     refine⟨by omega,by omega,?_⟩
     rw[hp]
     refine zn hX ?_
     simp (maxSteps:=1000000) [go_sem]
     exact next (q+1,o++[(b,q+1)]) ⟨c1,by simp;omega,h3.more hb⟩ (by show L.length- (q+1)<L.length-q;omega) (by simp[go_sem,LeS,leV,leR,leA,zj])
    ·have c3:¬(plc L q:Int)=plc L k:=fun e=>c2 (zkA hcl (by have:=(h3.seg (b,q) (by simp)).2.1;simp only at this;omega) h1 (by omega))
     simp (maxSteps:=1000000) [go_sem,w1',hg,c3]
     refine⟨by omega,⟨by omega,by omega⟩,?_⟩
     refine zn hX ?_
     simp (maxSteps:=1000000) [go_sem]
     exact next (k+1,o++[(b,q)]++[(k,k+1)]) ⟨c1,by simp;omega,h3.push hb (h3.last c2)⟩ (by show L.length- (k+1)<L.length-k;omega) (by simp[go_sem,LeS,leV,leR,leA,zj,zki])
 ·obtain rfl:k=L.length:=by omega
  have g1:¬plc L L.length<l.length:=by rw[qc,hs];omega
  have g2:¬(plc L L.length:Int)<l.length:=by omega
  rcases List.eq_nil_or_concat o with rfl|⟨o,w,rfl⟩
  ·simp (maxSteps:=1000000) [go_sem,g2,woV,woR]
   exact zl [] (.p (.sl 2 [])) (by simp) (by simp[go_sem,zf,leA,leT]) ⟨[],h3,rfl,rfl⟩
  ·rw[List.concat_eq_append]at h2 h3⊢
   simp (maxSteps:=1000000) [go_sem,g2,woV,woR]
   exact zl [[51]] (.la [51] 2 0 (o.length+1)) (by simp) (by simp[go_sem,zf,leA,leT]) ⟨o++[w],h3,by simp,by simp[go_sem,woR]⟩
end Go.Proofs.YtjefahhmkcfiiaaGreat
end
section
namespace Go.Proofs.YtjefahhmkcfiiaaGreat
open Go.AM
set_option maxHeartbeats 4000000
set_option maxRecDepth 10000
attribute [local irreducible] za
def woP(L:List (List Int))(o:List (Nat×Nat)):List PV:=o.map (wP L)
theorem wg(L:List (List Int))(o:List (Nat×Nat)):(woP L o).length=o.length:=by simp[woP]
theorem ziZ {L:List (List Int)} {o:List (Nat×Nat)} {i:Nat}(h:i<o.length):elemAt (woP L o) i=wP L o[i]:=zq (wP L) o i h
theorem XW [Gi] {l:List Int} {L:List (List Int)}(h:Ln l L):CR Tryz.prog 184 [] [.p (zC za),.p (zh l)] [] (fun x rs=>∃o,qX L L.length o∧rs=[]∧x=.p (.sl 2 (woP L o))):=by
 refine CR.freeze (zc4 h) (fun _=>false) rfl ?_
 rintro x rs ⟨o,ho,rfl,rfl⟩
 by_cases c:o=[]
 ·subst c
  exact⟨.p (.sl 2 []),fun g w v hG hv=>by rw[if_pos rfl]at hv;rw[Ww]at hv⊢;exact zk.ext (wG hG _) _ _ hv,[],ho,rfl,rfl⟩
 ·rw[if_neg c]
  refine⟨.p (.sl 2 (woP L o)),fun g w v hG hv=>?_,o,ho,by simp[woR,c,zah],rfl⟩
  rw[Ww]
  refine uI (t:=[51]) (z:=2) (n:=o.length) (es:=woP L o) (rt:=fun _=>false) hG [] (List.length_pos_iff.2 c) ?_ rfl (wg L o) (fun e he=>?_) hv
  ·have e1:((woP L o).flatMap PV.cells).map AV.p=wC L o:=by
    simp[woP,wC,wP,List.flatMap_map,List.map_flatMap,PV.cells]
   rw[e1];simp[woR,c,zH]
  ·obtain⟨s,_,rfl⟩:=List.mem_map.1 he
   exact⟨rfl,rfl⟩
def zl2(o:List (Nat×Nat))(i k:Nat):Prop:=∀v∈o.take i,v.2≤k
def zlY(o:List (Nat×Nat))(i k:Nat):Prop:=∀v∈o.drop i,k≤v.1
theorem zj8 [Gi] {l:List Int} {L:List (List Int)}(h:Ln l L) {k:Nat}(hk:k≤L.length):CR Tryz.prog 141 [] [.p (zC za),.p (zh l),.p (.int .i64 (plc L k:Nat))] [] (is (.p (.int .i64 (plc L (jU L k):Nat)))):=by
 refine walk Tryz.func141 9 [] [] [] ?_
 have hs:=h.sum
 have hcl:=h.cl
 have hln:=h.n
 have hlen:=hcl.len
 simp (maxSteps:=1000000) [go_sem,Tryz.f141]
 refine call [] (XW h) ?_
 rintro _ _ ⟨o,ho,rfl,rfl⟩
 obtain⟨N,hN⟩:∃N,N=jU L k:=⟨_,rfl⟩
 rw[←hN]
 have hol:o.length≤2^40:=by
  have:∀(o:List (Nat×Nat)) (b:Nat),(∀w∈o,b≤w.1∧w.1<w.2∧w.2≤L.length)→o.Pairwise (fun v w=>v.2<w.1)→o.length≤L.length-b:=by
   intro o
   induction o with
   |nil=>intro b _ _;simp
   |cons w o ih=>
    intro b h1 h2
    have a:=h1 w (by simp)
    have:=ih (b+1) (fun v hv=>by
     have c:=(List.pairwise_cons.1 h2).1 v hv
     have d:=h1 v (List.mem_cons_of_mem _ hv)
     omega) (List.pairwise_cons.1 h2).2
    simp only[List.length_cons];omega
  have:=this o 0 (fun w hw=>⟨Nat.zero_le _,(ho.seg w hw).1,(ho.seg w hw).2.1⟩) ho.ord
  omega
 simp (maxSteps:=1000000) [go_sem]
 refine loop (fun i:Nat=>i≤o.length∧zl2 o i k) (fun i=>[(8,.p (.int .i64 (i:Nat)))]) (fun _=>[]) (fun i=>o.length-i) 0 ⟨Nat.zero_le _,by simp[zl2]⟩ (fun i hi=>?_)
 obtain⟨h1,h2⟩:=hi
 by_cases c1:i<o.length
 ·have g1:(i:Int)<o.length:=by omega
  have em:=ziZ (L:=L) c1
  have hsp:o=o.take i++o[i]::o.drop (i+1):=by rw[←List.drop_eq_getElem_cons c1,List.take_append_drop]
  obtain⟨w,hw⟩:∃w,o[i]=w:=⟨_,rfl⟩
  rw[hw]at em hsp
  have hmem:w∈o:=by rw[←hw];exact List.getElem_mem _
  have hw2:=(ho.seg w hmem).2.1
  have w1:IntKind.i64.wrap ((i:Int)+1)=((i+1:Nat):Int):=zP (by omega)
  by_cases c2:k<w.2
  ·have c3:=qS hcl c2 hw2
   have c3':(plc L k:Int)<plc L w.2:=by omega
   have e1:N=w.2:=by
    rw[hN]
    rw[hsp]at ho
    exact ho.fwd hk h2 c2
   rw[e1]
   simp (maxSteps:=1000000) [go_sem,wg,g1,em,wP,c3']
   exact ret
  ·have c3:¬plc L k<plc L w.2:=by have:=jI hcl (i:=w.2) (j:=k) (by omega) hk;omega
   have c3':¬(plc L k:Int)<plc L w.2:=by omega
   simp (maxSteps:=1000000) [go_sem,wg,g1,em,wP,c3',w1]
   refine next (i+1) ⟨c1,fun v hv=>?_⟩ (by omega)
   rw[List.take_add_one,List.getElem?_eq_getElem c1,hw]at hv
   rcases List.mem_append.1 hv with hv|hv
   ·exact h2 v hv
   ·obtain rfl:v=w:=by simpa using hv
    omega
 ·have g1:¬(i:Int)<o.length:=by omega
  have e1:N=L.length:=by
   rw[hN]
   unfold zl2 at h2
   rw[List.take_of_length_le (by omega)]at h2
   exact ho.zlU hk h2
  rw[e1,qc,hs]
  simp (maxSteps:=1000000) [go_sem,wg,g1]
  exact ret
theorem zkv [Gi] {l:List Int} {L:List (List Int)}(h:Ln l L) {k:Nat}(hk:k≤L.length):CR Tryz.prog 142 [] [.p (zC za),.p (zh l),.p (.int .i64 (plc L k:Nat))] [] (is (.p (.int .i64 (plc L (yx L k):Nat)))):=by
 refine walk Tryz.func142 9 [] [] [] ?_
 have hs:=h.sum
 have hcl:=h.cl
 have hln:=h.n
 have hlen:=hcl.len
 simp (maxSteps:=1000000) [go_sem,Tryz.f142]
 refine call [] (XW h) ?_
 rintro _ _ ⟨o,ho,rfl,rfl⟩
 obtain⟨N,hN⟩:∃N,N=yx L k:=⟨_,rfl⟩
 rw[←hN]
 have hol:o.length≤2^40:=by
  have:∀(o:List (Nat×Nat)) (b:Nat),(∀w∈o,b≤w.1∧w.1<w.2∧w.2≤L.length)→o.Pairwise (fun v w=>v.2<w.1)→o.length≤L.length-b:=by
   intro o
   induction o with
   |nil=>intro b _ _;simp
   |cons w o ih=>
    intro b h1 h2
    have a:=h1 w (by simp)
    have:=ih (b+1) (fun v hv=>by
     have c:=(List.pairwise_cons.1 h2).1 v hv
     have d:=h1 v (List.mem_cons_of_mem _ hv)
     omega) (List.pairwise_cons.1 h2).2
    simp only[List.length_cons];omega
  have:=this o 0 (fun w hw=>⟨Nat.zero_le _,(ho.seg w hw).1,(ho.seg w hw).2.1⟩) ho.ord
  omega
 have w0:IntKind.i64.wrap ((o.length:Int)-1)=(o.length:Int)-1:=wrap64 (by omega) (by omega)
 simp (maxSteps:=1000000) [go_sem,wg,w0]
 refine loop (fun i:Nat=>i≤o.length∧zlY o i k) (fun i=>[(8,.p (.int .i64 ((i:Int)-1)))]) (fun _=>[]) (fun i=>i) o.length ⟨Nat.le_refl _,by simp[zlY]⟩ (fun i hi=>?_)
 obtain⟨h1,h2⟩:=hi
 by_cases c1:i=0
 ·subst c1
  have e1:N=0:=by
   rw[hN]
   exact ho.zmb hk (by unfold zlY at h2;rwa[List.drop_zero]at h2)
  rw[e1,qV]
  simp (maxSteps:=1000000) [go_sem]
  exact ret
 ·obtain⟨j,rfl⟩:∃j,i=j+1:=⟨i-1,by omega⟩
  have c2:j<o.length:=h1
  have g0:(0:Int)≤j:=by omega
  have g1:(j:Int)<o.length:=by omega
  have e0:(((j+1:Nat):Int)-1)=(j:Int):=by omega
  have em:=ziZ (L:=L) c2
  have hsp:o=o.take j++o[j]::o.drop (j+1):=by rw[←List.drop_eq_getElem_cons c2,List.take_append_drop]
  have hdr:o.drop j=o[j]::o.drop (j+1):=List.drop_eq_getElem_cons c2
  obtain⟨w,hw⟩:∃w,o[j]=w:=⟨_,rfl⟩
  rw[hw]at em hsp hdr
  have hmem:w∈o:=by rw[←hw];exact List.getElem_mem _
  obtain⟨hw1,hw2,_⟩:=ho.seg w hmem
  have w1:IntKind.i64.wrap ((j:Int)-1)=(j:Int)-1:=wrap64 (by omega) (by omega)
  rw[e0]
  by_cases c3:w.1<k
  ·have c4:=qS hcl c3 hk
   have c4':(plc L w.1:Int)<plc L k:=by omega
   have e1:N=w.1:=by
    rw[hN]
    rw[hsp]at ho
    exact ho.bwd hk h2 c3
   rw[e1]
   simp (maxSteps:=1000000) [go_sem,wg,g0,g1,em,wP,c4']
   exact ret
  ·have c4:¬plc L w.1<plc L k:=by have:=jI hcl (i:=k) (j:=w.1) (by omega) (by omega);omega
   have c4':¬(plc L w.1:Int)<plc L k:=by omega
   simp (maxSteps:=1000000) [go_sem,wg,g0,g1,em,wP,c4',w1]
   refine next j ⟨by omega,fun v hv=>?_⟩ (by omega)
   rw[hdr]at hv
   rcases List.mem_cons.1 hv with rfl|hv
   ·omega
   ·exact h2 v hv
theorem zg0(L:List (List Int))(k:Nat) {n:Int}(h:0<n):Zj L k n=Zj L (jU L k) (n-1):=by
 unfold Zj
 rw[if_neg (by omega),if_neg (by omega)]
 have:n.toNat=(n-1).toNat+1:=by omega
 rw[this,itF]
theorem zgM(L:List (List Int))(k:Nat) {n:Int}(h:n<0):Zj L k n=Zj L (yx L k) (n+1):=by
 unfold Zj
 rw[if_pos h]
 have:(-n).toNat=(-(n+1)).toNat+1:=by omega
 rw[this,itF]
 by_cases c:n+1<0
 ·rw[if_pos c]
 ·rw[if_neg c]
  have e:n= -1:=by omega
  subst e;rfl
theorem YX(L:List (List Int))(k:Nat):Zj L k 0=k:=rfl
theorem uR [Gi] {l:List Int} {L:List (List Int)}(h:Ln l L) {k:Nat}(hk:k≤L.length)(n:Int)(hn: -1000≤n∧n≤1000):
  CR Tryz.prog 89 [] [.p (zC za),.p (zh l),.p (.int .i64 (plc L k:Nat)),.p (.int .i64 n)] [] (is (.p (.int .i64 (plc L (Zj L k n):Nat)))):=by
 refine walk Tryz.func89 9 [] [] [] ?_
 have hs:=h.sum
 have hcl:=h.cl
 have hln:=h.n
 have hlen:=hcl.len
 obtain⟨N,hN⟩:∃N,N=Zj L k n:=⟨_,rfl⟩
 rw[←hN]
 simp (maxSteps:=1000000) [go_sem,Tryz.f89]
 by_cases c0:0<n
 ·refine loop (fun r:Nat×Int=>r.1≤L.length∧0≤r.2∧r.2≤1000∧N=Zj L r.1 r.2) (fun r=>[(2,.p (.int .i64 (plc L r.1:Nat))),(3,.p (.int .i64 r.2))]) (fun _=>[]) (fun r=>L.length-r.1) (k,n) ⟨hk,by show 0≤n;omega,hn.2,hN⟩ (fun r hr=>?_)
  obtain⟨p,j⟩:=r
  obtain⟨h1,h2,h3,h4⟩:=hr
  simp only at h1 h2 h3 h4
  by_cases c1:0<j∧p<L.length
  ·have g1:=qS hcl c1.2 (Nat.le_refl _)
   rw[qc,hs]at g1
   have g2:(plc L p:Int)<l.length:=by omega
   have w1:IntKind.i64.wrap (j-1)=j-1:=wrap64 (by omega) (by omega)
   simp (maxSteps:=1000000) [go_sem,c1.1,g2]
   refine zn (zj8 h h1) ?_
   simp (maxSteps:=1000000) [go_sem,w1]
   have:=zbg L c1.2
   have:=uP L h1
   exact next (jU L p,j-1) ⟨this,by show 0≤j-1;omega,by show j-1≤1000;omega,by rw[h4,zg0 L p c1.1]⟩ (by show L.length-jU L p<L.length-p;omega)
  ·have e1:N=p:=by
    rw[h4]
    by_cases c2:j=0
    ·rw[c2,YX]
    ·have e:p=L.length:=by omega
     rw[e]
     unfold Zj
     rw[if_neg (by omega)]
     exact KW (fun i hi=>⟨zbg L hi,uP L (by omega)⟩) (zbZ L) _ _ (Nat.le_refl _) (by omega)
   have two:¬0<j∨(0<j∧¬(plc L p:Int)<l.length∧¬plc L p<l.length):=by
    by_cases c2:0<j
    ·have:p=L.length:=by omega
     rw[this,qc];omega
    ·exact .inl c2
   have c3:¬j<0:=by omega
   rw[e1]
   rcases two with c2|⟨c2,c4,c5⟩
   ·simp (maxSteps:=1000000) [go_sem,c2]
    refine loop (fun _:Unit=>True) (fun _=>[]) (fun _=>[]) (fun _=>0) () trivial (fun _ _=>?_)
    simp (maxSteps:=1000000) [go_sem,c3]
    exact ret
   ·simp (maxSteps:=1000000) [go_sem,c2,c4]
    refine loop (fun _:Unit=>True) (fun _=>[]) (fun _=>[]) (fun _=>0) () trivial (fun _ _=>?_)
    simp (maxSteps:=1000000) [go_sem,c3]
    exact ret
 ·refine loop (fun _:Unit=>True) (fun _=>[]) (fun _=>[]) (fun _=>0) () trivial (fun _ _=>?_)
  simp (maxSteps:=1000000) [go_sem,c0]
  refine loop (fun r:Nat×Int=>r.1≤L.length∧r.2≤0∧ -1000≤r.2∧N=Zj L r.1 r.2) (fun r=>[(2,.p (.int .i64 (plc L r.1:Nat))),(3,.p (.int .i64 r.2))]) (fun _=>[]) (fun r=>r.1) (k,n) ⟨hk,by show n≤0;omega,hn.1,hN⟩ (fun r hr=>?_)
  obtain⟨p,j⟩:=r
  obtain⟨h1,h2,h3,h4⟩:=hr
  simp only at h1 h2 h3 h4
  by_cases c1:j<0
  ·by_cases c2:p=0
   ·subst c2
    have e1:N=0:=by
     rw[h4];unfold Zj;rw[if_pos c1]
     by_cases q:(-j).toNat=0
     ·rw[q];rfl
     ·exact Vj (zba L) rfl _ _ (by omega)
    rw[e1]
    simp (maxSteps:=1000000) [go_sem,c1,qV]
    exact ret
   ·obtain⟨q,hq⟩:∃q,p=q+1:=⟨p-1,by omega⟩
    have g0:=qS hcl (i:=0) (j:=p) (by omega) h1
    rw[qV]at g0
    have g1:(0:Int)<plc L p:=by omega
    have w1:IntKind.i64.wrap (j+1)=j+1:=wrap64 (by omega) (by omega)
    simp (maxSteps:=1000000) [go_sem,c1,g0]
    refine zn (zkv h h1) ?_
    simp (maxSteps:=1000000) [go_sem,w1]
    have:=zba L q
    exact next (yx L p,j+1) ⟨by show yx L p≤L.length;rw[hq]at h1⊢;omega,by show j+1≤0;omega,by show -1000≤j+1;omega,by rw[h4,zgM L p c1]⟩ (by show yx L p<p;rw[hq];exact this)
  ·have e1:N=p:=by rw[h4,show j=0 by omega,YX]
   rw[e1]
   simp (maxSteps:=1000000) [go_sem,c1]
   exact ret
end Go.Proofs.YtjefahhmkcfiiaaGreat
end
section
namespace Go.Proofs.YtjefahhmkcfiiaaGreat
open Go.AM
set_option maxHeartbeats 4000000
set_option maxRecDepth 10000
attribute [local irreducible] za
theorem Kw {n:Int}(h: -1000≤n∧n≤1000):Qa n= -n:=by unfold Qa;omega
theorem ziY [Gi] {l:List Int} {L:List (List Int)}(h:Ln l L)(c a n:Int)(hn: -1000≤n∧n≤1000):
  CR Tryz.prog 35 [] [.p (zC za),.p (zh l),.p (.int .i64 c),.p (.int .i64 a),.p (.int .i64 n)] [] (is (.tup [.p (.int .i64 (plc L (QO L c a n).1:Nat)),.p (.bool (QO L c a n).2)])):=by
 refine walk Tryz.func35 18 [] [] [] ?_
 have hs:=h.sum
 have hcl:=h.cl
 have hk:=Qx L a
 have hon:∀j:Int, -1000≤j∧j≤1000→CR Tryz.prog 88 [] [.p (zC za),.p (zh l),.p (.int .i64 (plc L (kf L a):Nat)),.p (.int .i64 j)] [] (is (.p (.int .i64 (plc L (goI L (kf L a) j):Nat)))):=fun j hj=>by
  have:=zaX h (plc L (kf L a):Nat) j hj
  rwa[kN hcl hk]at this
 have hb:=Kw hn
 have wn:IntKind.i64.wrap (-n)= -n:=wrap64 (by omega) (by omega)
 unfold QO
 rw[hb]
 by_cases c3:c=3
 ·subst c3
  simp (maxSteps:=1000000) [go_sem,Tryz.f35]
  refine zn (ZV h a) ?_
  simp (maxSteps:=1000000) [go_sem]
  refine zn (hon n hn) ?_
  simp (maxSteps:=1000000) [go_sem]
  exact ret
 by_cases c4:c=4
 ·subst c4
  simp (maxSteps:=1000000) [go_sem,Tryz.f35]
  refine zn (ZV h a) ?_
  simp (maxSteps:=1000000) [go_sem,wn]
  refine zn (hon (-n) (by omega)) ?_
  simp (maxSteps:=1000000) [go_sem]
  exact ret
 by_cases c5:c=5
 ·subst c5
  simp (maxSteps:=1000000) [go_sem,Tryz.f35]
  refine zn (ZV h a) ?_
  simp (maxSteps:=1000000) [go_sem]
  refine zn (uR h hk n hn) ?_
  simp (maxSteps:=1000000) [go_sem]
  exact ret
 by_cases c6:c=6
 ·subst c6
  simp (maxSteps:=1000000) [go_sem,Tryz.f35]
  refine zn (ZV h a) ?_
  simp (maxSteps:=1000000) [go_sem,wn]
  refine zn (uR h hk (-n) (by omega)) ?_
  simp (maxSteps:=1000000) [go_sem]
  exact ret
 by_cases c7:c=7
 ·subst c7
  simp (maxSteps:=1000000) [go_sem,Tryz.f35,qV]
  refine zn (ZV h a) ?_
  simp (maxSteps:=1000000) [go_sem]
  exact ret
 by_cases c8:c=8
 ·subst c8
  simp (maxSteps:=1000000) [go_sem,Tryz.f35,qc,hs]
  refine zn (ZV h a) ?_
  simp (maxSteps:=1000000) [go_sem]
  exact ret
 simp (maxSteps:=1000000) [go_sem,Tryz.f35,c3,c4,c5,c6,c7,c8]
 refine zn (ZV h a) ?_
 simp (maxSteps:=1000000) [go_sem,c3,c4,c5,c6,c7,c8]
 exact ret
def Kv(L:List (List Int))(a:Int):Option Nat→AV
 |some o=>.tup [.p (.int .i64 (min (plc L (kf L a):Int) (plc L o:Nat))),.p (.int .i64 (max (plc L (kf L a):Int) (plc L o:Nat))),.p (.bool (decide ((plc L o:Int)<plc L (kf L a)))),.p (.bool true)]
 |none=>.tup [.p (.int .i64 0),.p (.int .i64 0),.p (.bool false),.p (.bool false)]
theorem yY {L:List (List Int)} {a:Int} {o:Nat}(h:(plc L o:Int)<plc L (kf L a)):Kv L a (some o)=.tup [.p (.int .i64 (plc L o:Nat)),.p (.int .i64 (plc L (kf L a):Nat)),.p (.bool true),.p (.bool true)]:=by
 simp only[Kv]
 rw[Int.min_eq_right (by omega),Int.max_eq_left (by omega),decide_eq_true h]
theorem kV {L:List (List Int)} {a:Int} {o:Nat}(h:¬(plc L o:Int)<plc L (kf L a)):Kv L a (some o)=.tup [.p (.int .i64 (plc L (kf L a):Nat)),.p (.int .i64 (plc L o:Nat)),.p (.bool false),.p (.bool true)]:=by
 simp only[Kv]
 rw[Int.min_eq_left (by omega),Int.max_eq_right (by omega),decide_eq_false h]
theorem zif [Gi] {l:List Int} {L:List (List Int)}(h:Ln l L)(c a k n:Int)(hn: -1000≤n∧n≤1000):
  CR Tryz.prog 40 [] [.p (zC za),.p (zh l),.p (.int .i64 c),.p (.int .i64 a),.p (.int .i64 k),.p (.int .i64 n)] [] (is (Kv L a (vW L c a k n))):=by
 refine walk Tryz.func40 24 [24,31,39,46,54,58,60] [] [] ?_
 have hs:=h.sum
 have hcl:=h.cl
 have hk:=Qx L a
 have hon:∀j:Int, -1000≤j∧j≤1000→CR Tryz.prog 88 [] [.p (zC za),.p (zh l),.p (.int .i64 (plc L (kf L a):Nat)),.p (.int .i64 j)] [] (is (.p (.int .i64 (plc L (goI L (kf L a) j):Nat)))):=fun j hj=>by
  have:=zaX h (plc L (kf L a):Nat) j hj
  rwa[kN hcl hk]at this
 have hb:=Kw hn
 have wn:IntKind.i64.wrap (-n)= -n:=wrap64 (by omega) (by omega)
 have hF:=ZV h a
 unfold vW
 rw[hb]
 by_cases c9:c=9
 ·subst c9
  rw[if_pos rfl]
  simp (maxSteps:=1000000) [go_sem,Tryz.f40]
  refine zn hF ?_
  simp (maxSteps:=1000000) [go_sem]
  refine zn (hon n hn) ?_
  by_cases q:(plc L (goI L (kf L a) n):Int)<plc L (kf L a)
  ·rw[yY q];simp (maxSteps:=1000000) [go_sem,q];exact ret
  ·rw[kV q];simp (maxSteps:=1000000) [go_sem,q];exact ret
 rw[if_neg c9]
 by_cases c10:c=10
 ·subst c10
  rw[if_pos rfl]
  simp (maxSteps:=1000000) [go_sem,Tryz.f40]
  refine zn hF ?_
  simp (maxSteps:=1000000) [go_sem,wn]
  refine zn (hon (-n) (by omega)) ?_
  by_cases q:(plc L (goI L (kf L a) (-n)):Int)<plc L (kf L a)
  ·rw[yY q];simp (maxSteps:=1000000) [go_sem,q];exact ret
  ·rw[kV q];simp (maxSteps:=1000000) [go_sem,q];exact ret
 rw[if_neg c10]
 by_cases c11:c=11
 ·subst c11
  rw[if_pos rfl]
  simp (maxSteps:=1000000) [go_sem,Tryz.f40]
  refine zn hF ?_
  simp (maxSteps:=1000000) [go_sem]
  refine zn (uR h hk n hn) ?_
  by_cases q:(plc L (Zj L (kf L a) n):Int)<plc L (kf L a)
  ·rw[yY q];simp (maxSteps:=1000000) [go_sem,q];exact ret
  ·rw[kV q];simp (maxSteps:=1000000) [go_sem,q];exact ret
 rw[if_neg c11]
 by_cases c12:c=12
 ·subst c12
  rw[if_pos rfl]
  simp (maxSteps:=1000000) [go_sem,Tryz.f40]
  refine zn hF ?_
  simp (maxSteps:=1000000) [go_sem,wn]
  refine zn (uR h hk (-n) (by omega)) ?_
  by_cases q:(plc L (Zj L (kf L a) (-n)):Int)<plc L (kf L a)
  ·rw[yY q];simp (maxSteps:=1000000) [go_sem,q];exact ret
  ·rw[kV q];simp (maxSteps:=1000000) [go_sem,q];exact ret
 rw[if_neg c12]
 by_cases c13:c=13
 ·subst c13
  rw[if_pos rfl]
  have hq:=va hcl hk
  have q:¬(plc L L.length:Int)<plc L (kf L a):=by rw[qc];omega
  have q2:¬(l.length:Int)<plc L (kf L a):=by omega
  have q3:¬l.length<plc L (kf L a):=by omega
  rw[kV q,qc,hs]
  simp (maxSteps:=1000000) [go_sem,Tryz.f40]
  refine zn hF ?_
  simp (maxSteps:=1000000) [go_sem,q2]
  exact ret
 rw[if_neg c13]
 by_cases c14:c=14
 ·subst c14
  rw[if_pos rfl]
  simp (maxSteps:=1000000) [go_sem,Tryz.f40]
  refine zn hF ?_
  by_cases q:(plc L 0:Int)<plc L (kf L a)
  ·rw[yY q]
   rw[qV]at q⊢
   have q2:0<plc L (kf L a):=by omega
   have q3:(0:Int)<plc L (kf L a):=by omega
   simp (maxSteps:=1000000) [go_sem,q2];exact ret
  ·rw[kV q]
   rw[qV]at q⊢
   have q2:plc L (kf L a)=0:=by omega
   rw[q2]
   simp (maxSteps:=1000000) [go_sem];exact ret
 rw[if_neg c14]
 by_cases c15:c=15
 ·subst c15
  rw[if_pos (.inl rfl)]
  simp (maxSteps:=1000000) [go_sem,Tryz.f40]
  refine zn hF ?_
  simp (maxSteps:=1000000) [go_sem]
  refine zn (ZV h k) ?_
  by_cases q:(plc L (kf L k):Int)<plc L (kf L a)
  ·rw[yY q];simp (maxSteps:=1000000) [go_sem,q];exact ret
  ·rw[kV q];simp (maxSteps:=1000000) [go_sem,q];exact ret
 by_cases c16:c=16
 ·subst c16
  rw[if_pos (.inr rfl)]
  simp (maxSteps:=1000000) [go_sem,Tryz.f40]
  refine zn hF ?_
  simp (maxSteps:=1000000) [go_sem]
  refine zn (ZV h k) ?_
  by_cases q:(plc L (kf L k):Int)<plc L (kf L a)
  ·rw[yY q];simp (maxSteps:=1000000) [go_sem,q];exact ret
  ·rw[kV q];simp (maxSteps:=1000000) [go_sem,q];exact ret
 rw[if_neg (by omega)]
 unfold Kv
 simp (maxSteps:=1000000) [go_sem,Tryz.f40]
 refine zn hF ?_
 simp (maxSteps:=1000000) [go_sem,c9,c10,c11,c12,c13,c14,c15,c16]
 exact ret
end Go.Proofs.YtjefahhmkcfiiaaGreat
end
