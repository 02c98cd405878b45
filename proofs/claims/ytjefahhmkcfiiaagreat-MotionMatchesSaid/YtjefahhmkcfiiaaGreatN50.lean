/- A part of the proof of this seat's statements, by an abstract machine: what each operation does to values, and what the law's functions compute. Conditions: as each law says. -/
import Derived.Test.YtjefahhmkcfiiaaGreatN49
import Derived.Test.YtjefahhmkcfiiaaGreatN41
import Derived.Test.YtjefahhmkcfiiaaGreatN42
section
namespace Go.Proofs.YtjefahhmkcfiiaaGreat
open Go.AM
set_option maxHeartbeats 4000000
set_option maxRecDepth 10000
attribute [local irreducible] za
def swK(L:List (List Int))(a:Int):Nat:=if kf L a=L.length then goI L (kf L a) (-1)else kf L a
theorem zjD(L:List (List Int))(a:Int):swK L a≤L.length:=by
 have:=Qx L a
 have:=U0 L (kf L a) (-1)
 unfold swK
 split<;>omega
theorem Xo {L:List (List Int)} {k:Nat}(hk:k<L.length):L.flatten=(L.take k).flatten++(L[k]++(L.drop (k+1)).flatten):=by
 have:=congrArg List.flatten (List.take_append_drop k L)
 rw[List.drop_eq_getElem_cons hk,List.flatten_append,List.flatten_cons]at this
 exact this.symm
theorem y6 {L:List (List Int)} {k:Nat}(hk:k<L.length):sliced L.flatten (plc L k:Nat) (plc L (k+1):Nat)=L[k]:=by
 have e2:plc L k=(L.take k).flatten.length:=by rw[Zm];rfl
 unfold sliced
 rw[Int.toNat_natCast,Int.toNat_natCast,vR hk,e2,Xo hk,←List.append_assoc,List.take_left' (by simp),List.drop_left]
theorem zct {L:List (List Int)} {k:Nat}(hk:k<L.length):cut L.flatten (plc L k:Nat) (plc L (k+1):Nat)=L[k]:=by
 have e2:plc L k=(L.take k).flatten.length:=by rw[Zm];rfl
 unfold cut
 rw[Int.toNat_natCast,Int.toNat_natCast,vR hk,e2,Xo hk,List.drop_left,Nat.add_sub_cancel_left]
 simp
def Kb(L:List (List Int))(a:Int):AV:=
 if 0<swK L a∧swK L a<L.length then .tup [.p (.agg [.int .i64 (plc L (swK L a-1):Nat),.int .i64 (plc L (swK L a+1):Nat),.bool false]),.p (zh (L.getD (swK L a) []++L.getD (swK L a-1) [])),.p (.bool true)]
 else .tup [.p (.agg [.int .i64 0,.int .i64 0,.bool false]),.p (.sl 1 []),.p (.bool false)]
theorem zgV(L:List (List Int))(a:Int)(f:Tok→Option Tok):(Kb L a).ren f=Kb L a:=by unfold Kb;split<;>rfl
theorem K6 {L:List (List Int)} {k:Nat}(h:k<L.length):goI L k 1=k+1:=by unfold goI;omega
theorem Vb {L:List (List Int)} {k:Nat}(h:k≤L.length):goI L k (-1)=k-1:=by unfold goI;omega
theorem zf0(L:List (List Int)):goI L L.length 1=L.length:=by unfold goI;omega
theorem zfH [Gi] {e:PV} {x:Tx} {L:List (List Int)}(h:Wr x L)(a:Int):
  CR Tryz.prog 41 txT [.lp [0] 0,.p (.int .i64 a)] (txR e x L) (yU (txR e x L) (Kb L a)):=by
 refine CR.yU ?_ (by decide) (zgV _ _ _)
 refine walk Tryz.func41 9 [] [] [] ?_
 have hcl:=h.cl
 have hk:=Qx L a
 have hle:=zjD L a
 have hsum:=hcl.sum
 have key:∀k:Nat,k=swK L a→Kb L a=if 0<k∧k<L.length then .tup [.p (.agg [.int .i64 (plc L (k-1):Nat),.int .i64 (plc L (k+1):Nat),.bool false]),.p (zh (L.getD k []++L.getD (k-1) [])),.p (.bool true)]
   else .tup [.p (.agg [.int .i64 0,.int .i64 0,.bool false]),.p (.sl 1 []),.p (.bool false)]:=fun k e=>by rw[e];rfl
 obtain⟨V,hV⟩:∃V,V=Kb L a:=⟨_,rfl⟩
 rw[←hV]
 simp (maxSteps:=1000000) [go_sem,Tryz.f41]
 refine call QG (jO e h a) ?_
 rintro _ _ ⟨rfl,rfl⟩
 simp (maxSteps:=1000000) [go_sem]
 refine call QG (xz e h) ?_
 rintro _ _ ⟨rfl,rfl⟩
 by_cases c1:kf L a=L.length
 ·have q1:plc L (kf L a)=qi L:=by rw[c1,qc]
  have hg:=vB e h (qi L:Nat) (-1)
  rw[←qc,kN hcl (Nat.le_refl _),qc]at hg
  have es:swK L a=goI L L.length (-1):=by unfold swK;rw[if_pos c1,c1]
  rw[key _ es.symm]at hV
  rw[es]at hle
  generalize goI L L.length (-1)=k at hle hg hV
  simp (maxSteps:=1000000) [go_sem,q1]
  refine call QG hg ?_
  rintro _ _ ⟨rfl,rfl⟩
  have hb:=vB e h (plc L k:Nat) (-1)
  have hf:=vB e h (plc L k:Nat) 1
  rw[kN hcl hle,Vb hle]at hb
  rw[kN hcl hle]at hf
  simp (maxSteps:=1000000) [go_sem]
  refine call QG hb ?_
  rintro _ _ ⟨rfl,rfl⟩
  simp (maxSteps:=1000000) [go_sem]
  refine call QG hf ?_
  rintro _ _ ⟨rfl,rfl⟩
  by_cases c2:0<k
  ·have a1:=qS hcl (i:=k-1) (j:=k) (by omega) hle
   have a1':¬(plc L (k-1):Int)=plc L k:=by omega
   have a1'':¬plc L (k-1)=plc L k:=by omega
   by_cases c3:k<L.length
   ·rw[if_pos ⟨c2,c3⟩]at hV
    rw[K6 c3]
    have a2:=j8 hcl c3
    have a2':¬(plc L (k+1):Int)=plc L k:=by omega
    have a2'':¬plc L (k+1)=plc L k:=by omega
    have hp1:=W5 e h (plc L k:Nat) (plc L (k+1):Nat)
    have hp2:=W5 e h (plc L (k-1):Nat) (plc L k:Nat)
    rw[y6 c3]at hp1
    have ek:k=(k-1)+1:=by omega
    have hs2:=y6 (L:=L) (k:=k-1) (by omega)
    rw[←ek]at hs2
    rw[hs2]at hp2
    have g1:L.getD k []=L[k]:=by rw[List.getD_eq_getElem?_getD,List.getElem?_eq_getElem c3];rfl
    have g2:L.getD (k-1) []=L[k-1]'(by omega):=by rw[List.getD_eq_getElem?_getD,List.getElem?_eq_getElem (by omega)];rfl
    have z1:=jM c3
    have z2:=jM (L:=L) (i:=k-1) (by omega)
    have z3:=QF L (k+1)
    have z4:=QF L (k-1+1)
    rw[g1,g2]at hV
    rw[hV]
    simp (maxSteps:=1000000) [go_sem,a1',a2']
    refine call QG hp1 ?_
    rintro _ _ ⟨rfl,rfl⟩
    simp (maxSteps:=1000000) [go_sem]
    refine call QG hp2 ?_
    rintro _ _ ⟨rfl,rfl⟩
    simp (maxSteps:=1000000) [go_sem]
    exact⟨by omega,Qi⟩
   ·obtain rfl:k=L.length:=by omega
    rw[if_neg (by omega)]at hV
    rw[zf0,hV]
    simp (maxSteps:=1000000) [go_sem,a1']
    exact Qi
  ·obtain rfl:k=0:=by omega
   rw[if_neg (by omega)]at hV
   rw[hV]
   simp (maxSteps:=1000000) [go_sem]
   exact Qi
 ·have c1':kf L a<L.length:=by omega
  have q0:=qS hcl c1' (Nat.le_refl _)
  rw[qc]at q0
  have q1:¬plc L (kf L a)=qi L:=by omega
  have q1':¬(plc L (kf L a):Int)=qi L:=by omega
  have es:swK L a=kf L a:=by unfold swK;rw[if_neg c1]
  rw[key _ es.symm]at hV
  generalize kf L a=k at hk q0 q1 q1' c1' hV
  simp (maxSteps:=1000000) [go_sem,q1']
  have hb:=vB e h (plc L k:Nat) (-1)
  have hf:=vB e h (plc L k:Nat) 1
  rw[kN hcl hk,Vb hk]at hb
  rw[kN hcl hk,K6 c1']at hf
  refine call QG hb ?_
  rintro _ _ ⟨rfl,rfl⟩
  simp (maxSteps:=1000000) [go_sem]
  refine call QG hf ?_
  rintro _ _ ⟨rfl,rfl⟩
  by_cases c2:0<k
  ·have a1:=qS hcl (i:=k-1) (j:=k) (by omega) hk
   have a1':¬(plc L (k-1):Int)=plc L k:=by omega
   have a1'':¬plc L (k-1)=plc L k:=by omega
   rw[if_pos ⟨c2,c1'⟩]at hV
   have a2:=j8 hcl c1'
   have a2':¬(plc L (k+1):Int)=plc L k:=by omega
   have a2'':¬plc L (k+1)=plc L k:=by omega
   have hp1:=W5 e h (plc L k:Nat) (plc L (k+1):Nat)
   have hp2:=W5 e h (plc L (k-1):Nat) (plc L k:Nat)
   rw[y6 c1']at hp1
   have ek:k=(k-1)+1:=by omega
   have hs2:=y6 (L:=L) (k:=k-1) (by omega)
   rw[←ek]at hs2
   rw[hs2]at hp2
   have g1:L.getD k []=L[k]:=by rw[List.getD_eq_getElem?_getD,List.getElem?_eq_getElem c1'];rfl
   have g2:L.getD (k-1) []=L[k-1]'(by omega):=by rw[List.getD_eq_getElem?_getD,List.getElem?_eq_getElem (by omega)];rfl
   have z1:=jM c1'
   have z2:=jM (L:=L) (i:=k-1) (by omega)
   have z3:=QF L (k+1)
   have z4:=QF L (k-1+1)
   rw[g1,g2]at hV
   rw[hV]
   simp (maxSteps:=1000000) [go_sem,a1',a2']
   refine call QG hp1 ?_
   rintro _ _ ⟨rfl,rfl⟩
   simp (maxSteps:=1000000) [go_sem]
   refine call QG hp2 ?_
   rintro _ _ ⟨rfl,rfl⟩
   simp (maxSteps:=1000000) [go_sem]
   exact⟨by omega,Qi⟩
  ·obtain rfl:k=0:=by omega
   rw[if_neg (by omega)]at hV
   rw[hV]
   simp (maxSteps:=1000000) [go_sem]
   exact Qi
theorem zih [Gi] {l:List Int} {L:List (List Int)}(h:Ln l L)(a:Int):
  CR Tryz.prog 42 [] [.p (zC za),.p (zh l),.p (.int .i64 a)] [] (is (.tup [.p (.int .i64 (plc L (swK L a-1):Nat)),.p (.int .i64 (plc L (swK L a):Nat)),.p (.int .i64 (plc L (goI L (swK L a) 1):Nat)),.p (.bool (decide (0<swK L a∧swK L a<L.length)))])):=by
 refine walk Tryz.func42 13 [] [] [] ?_
 have hs:=h.sum
 have hcl:=h.cl
 have hk:=Qx L a
 have hle:=zjD L a
 have hon:∀(k:Nat) (j:Int),k≤L.length→ -1000≤j∧j≤1000→CR Tryz.prog 88 [] [.p (zC za),.p (zh l),.p (.int .i64 (plc L k:Nat)),.p (.int .i64 j)] [] (is (.p (.int .i64 (plc L (goI L k j):Nat)))):=fun k j hkl hj=>by
  have:=zaX h (plc L k:Nat) j hj
  rwa[kN hcl hkl]at this
 have hend:∀k,k≤L.length→decide (0<k∧k<L.length)=(decide (plc L (k-1)<plc L k)&&decide (plc L k<plc L (goI L k 1))):=fun k hk=>by
  by_cases c1:0<k
  ·have a1:=qS hcl (i:=k-1) (j:=k) (by omega) hk
   by_cases c2:k<L.length
   ·have a2:=j8 hcl c2
    rw[K6 c2,decide_eq_true (show 0<k∧k<L.length from⟨c1,c2⟩),decide_eq_true a1,decide_eq_true a2];rfl
   ·obtain rfl:k=L.length:=by omega
    rw[zf0,decide_eq_false (by omega),decide_eq_false (Nat.lt_irrefl (plc L L.length))];simp
  ·obtain rfl:k=0:=by omega
   rw[decide_eq_false (by omega)];simp
 obtain⟨B,hB⟩:∃B,B=decide (0<swK L a∧swK L a<L.length):=⟨_,rfl⟩
 rw[←hB]
 simp (maxSteps:=1000000) [go_sem,Tryz.f42]
 refine zn (ZV h a) ?_
 by_cases c1:kf L a=L.length
 ·have q1:plc L (kf L a)=l.length:=by rw[c1,qc,hs]
  have hg:=hon L.length (-1) (Nat.le_refl _) (by omega)
  rw[qc,hs]at hg
  have es:swK L a=goI L L.length (-1):=by unfold swK;rw[if_pos c1,c1]
  rw[es]at hle hB⊢
  generalize goI L L.length (-1)=k at hle hg hB
  have hb:=hon k (-1) hle (by omega)
  rw[Vb hle]at hb
  simp (maxSteps:=1000000) [go_sem,q1]
  refine zn hg ?_
  simp (maxSteps:=1000000) [go_sem]
  refine zn hb ?_
  simp (maxSteps:=1000000) [go_sem]
  refine zn (hon k 1 hle (by omega)) ?_
  rw[hend k hle]at hB
  rw[hB]
  by_cases c2:plc L (k-1)<plc L k
  ·have c2':(plc L (k-1):Int)<plc L k:=by omega
   simp (maxSteps:=1000000) [go_sem,c2,c2']
   exact ret
  ·have c2':¬(plc L (k-1):Int)<plc L k:=by omega
   simp (maxSteps:=1000000) [go_sem,c2,c2']
   exact ret
 ·have c1':kf L a<L.length:=by omega
  have q0:=qS hcl c1' (Nat.le_refl _)
  rw[qc,hs]at q0
  have q1:¬plc L (kf L a)=l.length:=by omega
  have q1':¬(plc L (kf L a):Int)=l.length:=by omega
  have es:swK L a=kf L a:=by unfold swK;rw[if_neg c1]
  rw[es]at hB⊢
  generalize kf L a=k at hk q0 q1 q1' c1' hB
  have hb:=hon k (-1) hk (by omega)
  rw[Vb hk]at hb
  simp (maxSteps:=1000000) [go_sem,q1']
  refine zn hb ?_
  simp (maxSteps:=1000000) [go_sem]
  refine zn (hon k 1 hk (by omega)) ?_
  rw[hend k hk]at hB
  rw[hB]
  by_cases c2:plc L (k-1)<plc L k
  ·have c2':(plc L (k-1):Int)<plc L k:=by omega
   simp (maxSteps:=1000000) [go_sem,c2,c2']
   exact ret
  ·have c2':¬(plc L (k-1):Int)<plc L k:=by omega
   simp (maxSteps:=1000000) [go_sem,c2,c2']
   exact ret
end Go.Proofs.YtjefahhmkcfiiaaGreat
end
section
namespace Go.Proofs.YtjefahhmkcfiiaaGreat
open Go.AM
set_option maxHeartbeats 1000000
def zkz(k:Int→Int):List Int→Prop
 | []=>True
 |x::l=>(k x=0∨∀y l',l=y::l'→k y≤k x)∧zkz k l
def xE(k:Int→Int)(l:List Int):Prop:=zkz k l.reverse
theorem zep {k:Int→Int} {x:Int} {l:List Int}(h:k x=0∨∀y l',l=y::l'→k y≤k x):zX k x l=x::l:=by
 cases l with
 |nil=>rfl
 |cons y l=>
  rw[zX,if_neg]
  rintro⟨h1,h2⟩
  rcases h with h|h
  ·exact h1 h
  ·have:=h y l rfl;omega
theorem JD {k:Int→Int}(x:Int):∀l,zkz k l→zkz k (zX k x l)
 | [],_=>⟨.inr (by simp),trivial⟩
 |y::l,h=>by
  unfold zX
  split
  ·rename_i c
   refine⟨?_,JD x l h.2⟩
   cases l with
   |nil=>right;intro z l' e;rw[zX]at e;injection e with e1 _;subst e1;omega
   |cons z l=>
    rcases h.1 with h1|h1
    ·exact .inl h1
    ·right
     intro u l' e
     have h2:=h1 z l rfl
     unfold zX at e
     split at e
     ·injection e with e1 _;subst e1;exact h2
     ·injection e with e1 _;subst e1;omega
  ·rename_i c
   refine⟨?_,h⟩
   by_cases c0:k x=0
   ·exact .inl c0
   ·right
    intro z l' e
    injection e with e1 _
    subst e1
    rcases Int.lt_or_le (k x) (k y)with q|q
    ·exact absurd ⟨c0,q⟩ c
    ·exact q
theorem YC(k:Int→Int)(O:List Int)(x:Int):(Q1 k O x).reverse=zX k x O.reverse:=by simp[Q1]
theorem ziq {k:Int→Int} {O:List Int}(h:xE k O)(x:Int):xE k (Q1 k O x):=by
 unfold xE
 rw[YC]
 exact JD x _ h
theorem Xt {k:Int→Int}:∀(l O:List Int),xE k O→xE k (l.foldl (Q1 k) O)
 | [],_,h=>h
 |x::l,_,h=>Xt l _ (ziq h x)
theorem ziI(k:Int→Int)(l:List Int):xE k (jS k l):=Xt l [] trivial
theorem XS {k:Int→Int} {p:List Int} {x:Int}(h:xE k (p++[x])):Q1 k p x=p++[x]:=by
 unfold xE at h
 rw[List.reverse_append,List.reverse_singleton,List.singleton_append]at h
 have:=zep h.1
 unfold Q1
 rw[this]
 simp
theorem xE.init {k:Int→Int} {p:List Int} {x:Int}(h:xE k (p++[x])):xE k p:=by
 unfold xE at h⊢
 rw[List.reverse_append]at h
 exact h.2
theorem Kx {k:Int→Int} {x b:Int}(h0:k b≠0)(h1:k b<k x)(hp:0≤k b):∀l,zX k b (zX k x l)=zX k x (zX k b l)
 | []=>by
  simp only[zX]
  rw[if_pos ⟨h0,h1⟩,if_neg (by omega)]
 |y::l=>by
  by_cases c:k x<k y
  ·have e1:zX k x (y::l)=y::zX k x l:=by rw[zX,if_pos ⟨by omega,c⟩]
   have e2:zX k b (y::l)=y::zX k b l:=by rw[zX,if_pos ⟨h0,by omega⟩]
   have e3:∀m,zX k b (y::m)=y::zX k b m:=fun m=>by rw[zX,if_pos ⟨h0,by omega⟩]
   have e4:∀m,zX k x (y::m)=y::zX k x m:=fun m=>by rw[zX,if_pos ⟨by omega,c⟩]
   rw[e1,e2,e3,e4,Kx h0 h1 hp l]
  ·have e1:zX k x (y::l)=x::y::l:=by rw[zX,if_neg (by omega)]
   rw[e1]
   have e2:zX k b (x::y::l)=x::zX k b (y::l):=by rw[zX,if_pos ⟨h0,h1⟩]
   rw[e2]
   have e3:∃z m,zX k b (y::l)=z::m∧k z≤k x:=by
    unfold zX
    split
    ·exact⟨y,_,rfl,by omega⟩
    ·exact⟨b,_,rfl,by omega⟩
   obtain⟨z,m,e4,e5⟩:=e3
   rw[e4,zX,if_neg (by omega)]
theorem zgv {k:Int→Int} {x b:Int}(h0:k b≠0)(h1:k b<k x)(hp:0≤k b)(O:List Int):Q1 k (Q1 k O x) b=Q1 k (Q1 k O b) x:=by
 have e:∀A y,Q1 k A y=(zX k y A.reverse).reverse:=fun _ _=>rfl
 rw[e (Q1 k O x),YC,e (Q1 k O b),YC,Kx h0 h1 hp]
theorem Jy {k:Int→Int} {x:Int}:∀(B O:List Int),(∀b∈B,k b≠0∧k b<k x∧0≤k b)→(x::B).foldl (Q1 k) O=(B++[x]).foldl (Q1 k) O
 | [],_,_=>rfl
 |b::B,O,h=>by
  obtain⟨h0,h1,h2⟩:=h b (by simp)
  rw[List.foldl_cons,List.foldl_cons,zgv h0 h1 h2,List.cons_append,List.foldl_cons,←Jy B (Q1 k O b) (fun c hc=>h c (List.mem_cons_of_mem _ hc)),List.foldl_cons]
structure zk3(k:Int→Int)(full:Int→List Int)(mk:Int→Int→Option Int):Prop where
 pos:∀x,0≤k x
 whole:∀x,∀y∈full x,full y=[y]
 pair:∀a b c,mk a b=some c→full c=full a++full b
 start:∀a b c,mk a b=some c→k c=0
theorem zcC {k:Int→Int}:∀(n:Nat) (B:List Int),B.length=n→(∀b∈B,k b≠0)→qf k B= -1:=by
 intro n
 induction n with
 |zero=>intro B h _;rw[List.eq_nil_of_length_eq_zero h];rfl
 |succ n ih=>
  intro B h hb
  rcases List.eq_nil_or_concat B with e|⟨B',y,e⟩
  ·subst e;simp at h
  ·rw[List.concat_eq_append]at e
   subst e
   rw[ZH,if_neg (hb y (by simp))]
   exact ih B' (by simpa using h) (fun b hb'=>hb b (by simp[hb']))
theorem zhF {k:Int→Int} {A:List Int} {s:Int}(hs:k s=0):∀(n:Nat) (B:List Int),B.length=n→(∀b∈B,k b≠0)→qf k (A++s::B)=A.length:=by
 intro n
 induction n with
 |zero=>
  intro B h _
  rw[List.eq_nil_of_length_eq_zero h,ZH,if_pos hs]
 |succ n ih=>
  intro B h hb
  rcases List.eq_nil_or_concat B with e|⟨B',y,e⟩
  ·subst e;simp at h
  ·rw[List.concat_eq_append]at e
   subst e
   have e2:A++s::(B'++[y])=(A++s::B')++[y]:=by simp
   rw[e2,ZH,if_neg (hb y (by simp))]
   exact ih B' (by simpa using h) (fun b hb'=>hb b (by simp[hb']))
structure JP(k:Int→Int)(full:Int→List Int)(O p:List Int):Prop where
 nfd:jS k (O.flatMap full)=p
 tail:∃(T B P R:List Int),O=T++B∧p=P++R∧B.Sublist R∧R.Pairwise (fun a b=>k a≤k b)∧(∀b∈R,k b≠0∧full b=[b])∧(T=[]∨∃A s,T=A++[s]∧k s=0)
theorem xE.last {k:Int→Int} {P R:List Int} {x:Int}(h:xE k (P++R++[x]))(hx:k x≠0)(hR:R.Pairwise fun a b=>k a≤k b):(R++[x]).Pairwise fun a b=>k a≤k b:=by
 rw[List.pairwise_append]
 refine⟨hR,by simp,fun a ha b hb=>?_⟩
 obtain rfl:=List.mem_singleton.1 hb
 rcases List.eq_nil_or_concat R with e|⟨R',y,e⟩
 ·subst e;simp at ha
 ·rw[List.concat_eq_append]at e
  subst e
  unfold xE at h
  rw[List.reverse_append,←List.append_assoc,List.reverse_append]at h
  have h1:k y≤k b:=(h.1.resolve_left hx) y _ rfl
  rcases List.mem_append.1 ha with ha|ha
  ·have:=(List.pairwise_append.1 hR).2.2 a ha y (by simp);omega
  ·obtain rfl:=List.mem_singleton.1 ha;exact h1
theorem JP.push {k:Int→Int} {full:Int→List Int} {O p:List Int}(h:JP k full O p) {x:Int}(hx:full x=[x])(ho:xE k (p++[x])):JP k full (O++[x]) (p++[x]):=by
 obtain⟨h1,T,B,P,R,rfl,rfl,h2,h3,h4,h5⟩:=h
 constructor
 ·rw[List.flatMap_append,List.flatMap_singleton,hx,UQ,h1,XS ho]
 ·by_cases c:k x=0
  ·exact⟨T++B++[x],[],P++R++[x],[],by simp,by simp,List.Sublist.refl _,List.Pairwise.nil,by simp,.inr ⟨T++B,x,rfl,c⟩⟩
  ·refine⟨T,B++[x],P,R++[x],by simp,by simp,List.Sublist.append h2 (List.Sublist.refl _),xE.last ho c h3,fun b hb=>?_,h5⟩
   rcases List.mem_append.1 hb with hb|hb
   ·exact h4 b hb
   ·obtain rfl:=List.mem_singleton.1 hb;exact⟨c,hx⟩
theorem JP.step {k:Int→Int} {full:Int→List Int} {mk:Int→Int→Option Int}(hN:zk3 k full mk) {O p:List Int}(h:JP k full O p) {x:Int}(hx:full x=[x])(ho:xE k (p++[x])):JP k full (kj k mk O x) (p++[x]):=by
 have hpush:=h.push hx ho
 obtain⟨h1,T,B,P,R,rfl,rfl,h2,h3,h4,h5⟩:=h
 have hB:∀b∈B,k b≠0:=fun b hb=>(h4 b (h2.subset hb)).1
 unfold kj
 rcases h5 with rfl|⟨A,s,rfl,hs⟩
 ·rw[if_neg]
  ·exact hpush
  ·rintro⟨q,_⟩
   rw[List.nil_append,zcC B.length B rfl hB]at q
   omega
 ·have e1:A++[s]++B=A++s::B:=by simp
  have hst:qf k (A++[s]++B)=A.length:=by rw[e1];exact zhF hs B.length B rfl hB
  rw[hst]
  split
  ·rename_i c
   have hg:(A++[s]++B)[(A.length:Int).toNat]?.getD 0=s:=by simp
   rw[hg]
   cases hm:mk s x with
   |none=>exact hpush
   |some r=>
    have hr:=hN.pair _ _ _ hm
    have hr0:=hN.start _ _ _ hm
    have hset:(A++[s]++B).set (A.length:Int).toNat r=A++[r]++B:=by
     rw[Int.toNat_natCast,e1,List.set_append_right _ _ (Nat.le_refl _),Nat.sub_self];simp
    simp only
    rw[hset]
    -- all that stands behind is less
    have hlt:∀b∈B,k b<k x:=by
     have hf:=c.2
     unfold KI at hf
     simp only[Bool.or_eq_true,decide_eq_true_eq]at hf
     rcases hf with hf|hf
     ·have:B=[]:=by
       simp only[List.length_append,List.length_singleton]at hf
       exact List.eq_nil_of_length_eq_zero (by omega)
      subst this;simp
     ·intro b hb
      rcases List.eq_nil_or_concat B with e|⟨B',y,e⟩
      ·subst e;simp at hb
      ·rw[List.concat_eq_append]at e
       subst e
       have hy:(A++[s]++(B'++[y]))[(A++[s]++(B'++[y])).length-1]?.getD 0=y:=by
        rw[←List.append_assoc];simp
       rw[hy]at hf
       have hp:=h3.sublist h2
       rcases List.mem_append.1 hb with hb|hb
       ·have:=(List.pairwise_append.1 hp).2.2 b hb y (by simp);omega
       ·obtain rfl:=List.mem_singleton.1 hb;exact hf
    have hfB:B.flatMap full=B:=by
     have:∀l:List Int,(∀b∈l,full b=[b])→l.flatMap full=l:=by
      intro l
      induction l with
      |nil=>intro _;rfl
      |cons b l ih=>intro hl;rw[List.flatMap_cons,hl b (by simp),ih (fun c hc=>hl c (List.mem_cons_of_mem _ hc))];rfl
     exact this B fun b hb=>(h4 b (h2.subset hb)).2
    constructor
    ·rw[←XS ho,←h1,List.flatMap_append,List.flatMap_append,List.flatMap_singleton,hr,hx,hfB,List.flatMap_append,List.flatMap_append,List.flatMap_singleton,hfB]
     rw[←UQ]
     unfold jS
     have:=Jy (k:=k) (x:=x) B (List.foldl (Q1 k) [] (A.flatMap full++full s)) (fun b hb=>⟨hB b hb,hlt b hb,hN.pos b⟩)
     simp only[List.foldl_cons,List.foldl_append,List.foldl_nil]at this⊢
     exact this
    ·by_cases c0:k x=0
     ·have hB0:B=[]:=by
       cases B with
       |nil=>rfl
       |cons b B=>have:=hlt b (by simp);have:=hN.pos b;omega
      subst hB0
      exact⟨A++[r],[],P++R++[x],[],by simp,by simp,List.Sublist.refl _,List.Pairwise.nil,by simp,.inr ⟨A,r,rfl,hr0⟩⟩
     ·refine⟨A++[r],B,P,R++[x],by simp,by simp,h2.trans (List.sublist_append_left _ _),xE.last ho c0 h3,fun b hb=>?_,.inr ⟨A,r,rfl,hr0⟩⟩
      rcases List.mem_append.1 hb with hb|hb
      ·exact h4 b hb
      ·obtain rfl:=List.mem_singleton.1 hb;exact⟨c0,hx⟩
  ·exact hpush
theorem zhp {k:Int→Int} {full:Int→List Int} {mk:Int→Int→Option Int}(hN:zk3 k full mk):∀(n:Nat) (d:List Int),d.length=n→xE k d→(∀x∈d,full x=[x])→JP k full (ZG k mk d) d:=by
 intro n
 induction n with
 |zero=>
  intro d h _ _
  rw[List.eq_nil_of_length_eq_zero h]
  exact⟨rfl,[],[],[],[],rfl,rfl,List.Sublist.refl _,List.Pairwise.nil,by simp,.inl rfl⟩
 |succ n ih=>
  intro d h ho hf
  rcases List.eq_nil_or_concat d with e|⟨d',y,e⟩
  ·subst e;simp at h
  ·rw[List.concat_eq_append]at e
   subst e
   rw[ua]
   exact(ih d' (by simpa using h) ho.init (fun x hx=>hf x (by simp[hx]))).step hN (hf y (by simp)) ho
theorem zgl {k:Int→Int} {full:Int→List Int} {mk:Int→Int→Option Int}(hN:zk3 k full mk)(l:List Int):jS k ((ZG k mk (jS k (l.flatMap full))).flatMap full)=jS k (l.flatMap full):=
 (zhp hN _ _ rfl (ziI k _) (fun x hx=>by
  obtain⟨y,_,hy⟩:=List.mem_flatMap.1 (zcO _ hx)
  exact hN.whole y x hy)).nfd
end Go.Proofs.YtjefahhmkcfiiaaGreat
end
section
namespace Go.Proofs.YtjefahhmkcfiiaaGreat
open Go.AM
set_option maxHeartbeats 1000000
set_option maxRecDepth 100000
def xn:List Row:=yd 2
def zkj:Bool:=xn.all fun w=>decide (w.f=w.t)&&(decide (w.t<4352) || decide (4546<w.f))&&decide (qk xn 8 w.f=(qk xn 8 w.a++if w.b=0 then []else qk xn 8 w.b))&&(qk xn 8 w.f).all fun y=>decide (qk xn 8 y=[y])
theorem zeq:zkj=true:=by decide+kernel
attribute [local irreducible] za
theorem zcG(r:Int):rowAt xn 2 r=rowAt za 2 r:=by
 unfold rowAt xn yd
 split
 ·rfl
 ·rw[List.find?_filter]
  congr 1
  funext x
  unfold jG
  simp
  intro a b c;exact a
theorem zdc(r:Int):ZE xn r=ZE za r:=by unfold ZE;rw[zcG]
theorem WO:∀(d:Nat) (r:Int),qk xn d r=qk za d r
 |0,_=>rfl
 |d+1,r=>by
  unfold qk
  rw[zdc]
  split
  ·rfl
  ·cases ZE za r with
   |none=>rfl
   |some p=>simp only;rw[WO d p.1,WO d p.2]
theorem K9 {w:Row}(h:w∈za)(hk:w.k=2):w.f=w.t∧(w.t<4352∨4546<w.f)∧qk za 8 w.f=(qk za 8 w.a++if w.b=0 then []else qk za 8 w.b)∧∀y∈qk za 8 w.f,qk za 8 y=[y]:=by
 have f:=List.all_eq_true.1 zeq w (List.mem_filter.2 ⟨h,by simp[hk]⟩)
 simp only[Bool.and_eq_true,Bool.or_eq_true,decide_eq_true_eq,List.all_eq_true,WO]at f
 exact⟨f.1.1.1,f.1.1.2,f.1.2,f.2⟩
theorem zht {r:Int}(h:4352≤r∧r≤4546):ZE za r=none:=by
 unfold ZE
 cases hr:rowAt za 2 r with
 |none=>rfl
 |some w=>
  exfalso
  unfold rowAt at hr
  split at hr
  ·cases hr
  ·have h1:=List.mem_of_find?_eq_some hr
   have h2:=List.find?_some hr
   simp only[jG,Bool.and_eq_true,decide_eq_true_eq]at h2
   have:=K9 h1 h2.1.1
   omega
theorem Vz(r:Int):Zc r=true↔44032≤r∧r<55204:=by simp[Zc]
theorem uj {r:Int}(h:4352≤r∧r≤4546):qk za 8 r=[r]:=by
 have hs:Zc r=false:=by
  cases e:Zc r with
  |false=>rfl
  |true=>have:=(Vz r).1 e;omega
 unfold qk
 rw[hs,zht h];rfl
theorem VQ {r:Int}(h:Zc r=true):qk za 8 r=zQ r:=by unfold qk;rw[if_pos h]
theorem zjJ {r:Int}(h:Zc r=true):∀y∈zQ r,4352≤y∧y≤4546:=by
 have hr:=(Vz r).1 h
 intro y hy
 unfold zQ at hy
 split at hy
 ·simp only[List.mem_cons,List.not_mem_nil,or_false]at hy;omega
 ·simp only[List.mem_cons,List.not_mem_nil,or_false]at hy;omega
theorem zeg(x:Int):∀y∈qk za 8 x,qk za 8 y=[y]:=by
 cases hs:Zc x with
 |true=>
  rw[VQ hs]
  exact fun y hy=>uj (zjJ hs y hy)
 |false=>
  cases hp:ZE za x with
  |none=>
   have e:qk za 8 x=[x]:=by unfold qk;rw[hs,hp];rfl
   rw[e]
   intro y hy
   obtain rfl:=List.mem_singleton.1 hy
   exact e
  |some p=>
   unfold ZE at hp
   cases hr:rowAt za 2 x with
   |none=>rw[hr]at hp;cases hp
   |some w=>
    unfold rowAt at hr
    split at hr
    ·cases hr
    ·have h1:=List.mem_of_find?_eq_some hr
     have h2:=List.find?_some hr
     simp only[jG,Bool.and_eq_true,decide_eq_true_eq]at h2
     have:=K9 h1 h2.1.1
     have e:x=w.f:=by omega
     rw[e];exact this.2.2.2
theorem zgR {a b c:Int}(h:zS a b=some c):qk za 8 c=qk za 8 a++qk za 8 b:=by
 unfold zS at h
 split at h
 ·rename_i g
  injection h with h
  have hs:Zc c=true:=(Vz c).2 (by omega)
  rw[VQ hs,uj (r:=a) (by omega),uj (r:=b) (by omega)]
  unfold zQ
  rw[if_pos (by omega)]
  have e1:4352+(c-44032)/588=a:=by omega
  have e2:4449+(c-44032)/28%21=b:=by omega
  rw[e1,e2];rfl
 ·split at h
  ·rename_i g
   injection h with h
   have ha:=(Vz a).1 g.1
   have hs:Zc c=true:=(Vz c).2 (by omega)
   rw[VQ hs,VQ g.1,uj (r:=b) (by omega)]
   unfold zQ
   rw[if_neg (by omega),if_pos g.2.1]
   have e1:(c-44032)/588=(a-44032)/588:=by omega
   have e2:(c-44032)/28=(a-44032)/28:=by omega
   have e3:4519+(c-44032)%28=b:=by omega
   rw[e1,e2,e3];rfl
  ·cases h
theorem znc:zk3 (kD za) (qk za 8) (mkD za)where
 pos:=zj0
 whole:=zeg
 start:=zh7
 pair a b c h:=by
  unfold mkD at h
  cases hj:zS a b with
  |some z=>
   rw[hj]at h
   simp only[Option.some_or,Option.some.injEq]at h
   subst h
   exact zgR hj
  |none=>
   rw[hj,Option.none_or,UP]at h
   have hm:=zaE h
   obtain⟨w,hw,hc⟩:=List.mem_filterMap.1 hm
   unfold Wq at hc
   split at hc
   ·rename_i g
    injection hc with hc
    injection hc with h1 h2
    injection h1 with h3 h4
    have:=(K9 hw g.1).2.2.1
    rw[if_neg g.2.1,h2,h3,h4]at this
    exact this
   ·cases hc
theorem Xu(l:List Int):Zu za (Zu za l)=Zu za l:=by
 have h:xv za (Zu za l)=xv za l:=zgl znc l
 have e:∀x,Zu za x=Vm za (xv za x):=fun _=>rfl
 rw[e (Zu za l),h];rfl
end Go.Proofs.YtjefahhmkcfiiaaGreat
end
section
namespace Go.Proofs.YtjefahhmkcfiiaaGreat
open Go.AM
set_option maxHeartbeats 4000000
set_option maxRecDepth 100000
def L5:List (List Int):=[[97],[98],[32],[99],[100]]
theorem aw1:qR za (Zu za [97,98,32,99,100])=L5:=by decide+kernel
theorem aw2:QO L5 5 0 2=(5,true):=by decide+kernel
theorem aw3:vW L5 10 2 0 1=some 1:=by decide+kernel
theorem aw4:Zu za [97,98,32,99,100]=[97,98,32,99,100]:=by decide+kernel
theorem aw5:qR za L5.flatten=L5:=by decide+kernel
attribute [local irreducible] za
def xm(d:Nat):List (Tok×Tok):=[([0],[d,0]),([0,1],[d,0,1]),([0,2],[d,0,2])]
attribute [go_sem] xm zC
theorem U3(l:List Int):(Zu za l).length≤3*l.length:=by
 have h2:=uH (kD za) (mkD za) (xv za l) []
 have h3:(xv za l).length=(QH za l).length:=vF _ _
 have h4:=KH l
 have h5:(Zu za l).length=((xv za l).foldl (kj (kD za) (mkD za)) []).length:=rfl
 simp only[List.length_nil]at h2
 omega
theorem uE [Gi](l:List Int)(n:Nat)(hn:n<2^31):CR Tryz.prog 15 [] [.p (zh l),.p (.int .i64 n)] [] (is (.p (zh (l.take n)))):=zi9 l n hn
theorem jJ [Gi]:CR Tryz.prog 17 [] [.p (zC za)] [] (fun x rs=>rs=[]∧∃e,x=.p e∧ZR e):=UG
theorem Vw [Gi] {e:PV}(hT:ZR e)(l:List Int)(hn:l.length≤1000)(hr:∀x∈l,zL x):CR Tryz.prog 33 [] [.p e,.p (zh (Zu za l))] [] (znE e (qR za (Zu za l))):=by
 have h:=U3 l
 have:=zbL hT (Zu za l) (by omega) (ju.rune l (by omega) hr) (by rw[Xu];omega)
 rwa[Xu]at this
theorem lnC(l:List Int)(hn:l.length≤1000)(hr:∀x∈l,zL x):Ln (Zu za l) (qR za (Zu za l)):=
 ⟨rfl,by have:=U3 l;omega,ju.rune l (by omega) hr⟩
theorem Q8 [Gi]:CR Tryz.prog 38 [] [] [] (is (.p (.bool true))):=by
 refine walk Tryz.func38 9 [] [] [] ?_
 have hr5:∀x∈[97,98,32,99,100],zL x:=by simp[zL]
 simp (maxSteps:=1000000) [go_sem,Tryz.f38]
 refine zn yy ?_
 simp (maxSteps:=1000000) [go_sem]
 refine call [] jJ ?_
 rintro _ _ ⟨rfl,e,rfl,hT⟩
 simp (maxSteps:=1000000) [go_sem]
 have hnew:=zbL hT [97,98,32,99,100] (by decide) hr5 (by rw[aw4];decide)
 rw[aw1]at hnew
 refine⟨by decide,call [] hnew ?_ (ha':=by simp[go_sem,zB])⟩
 rintro _ _ ⟨X,hX,_,rfl,rfl⟩
 have hl:Ln L5.flatten L5:=⟨aw5.symm,by decide,hr5⟩
 have hm:=wW hT hX hl 5 0 2 (by decide)
 have ht:=zfR hT hX hl 10 2 0 1 (by decide)
 have hw:=zfH (e:=e) hX 1
 rw[aw2]at hm
 rw[aw3]at ht
 have e1:yO L5 2 (some 1)=.tup [.p (.agg [.int .i64 1,.int .i64 2,.bool true]),.p (.bool true)]:=rfl
 have e2:Kb L5 1=.tup [.p (.agg [.int .i64 0,.int .i64 2,.bool false]),.p (zh [98,97]),.p (.bool true)]:=rfl
 have e3:plc L5 5=5:=rfl
 rw[e1]at ht
 rw[e2]at hw
 simp only[e3]at hm
 simp (maxSteps:=1000000) [go_sem]
 refine call (xm 12) hm ?_
 rintro _ _ ⟨rfl,rfl⟩
 simp (maxSteps:=1000000) [go_sem]
 refine call (xm 12) ht ?_
 rintro _ _ ⟨rfl,rfl⟩
 simp (maxSteps:=1000000) [go_sem]
 refine call (xm 12) hw ?_
 rintro _ _ ⟨rfl,rfl⟩
 simp (maxSteps:=1000000) [go_sem]
 refine⟨by decide,zn (za5 [98,97] (by decide)) ?_ (ha':=by simp[go_sem,zB])⟩
 simp (maxSteps:=1000000) [go_sem]
 exact ret
def Z8(n:Int):Int:=max (min n 1000) (-1000)
theorem XQ(n:Int): -1000≤Z8 n∧Z8 n≤1000:=by unfold Z8;omega
theorem zaH [Gi](n:Int):CR Tryz.prog 36 [] [.p (.int .i64 n)] [] (is (.p (.int .i64 (Z8 n)))):=by
 refine walk Tryz.func36 3 [] [] [] ?_
 by_cases c1:1000<n
 ·have e:Z8 n=1000:=by unfold Z8;omega
  rw[e]
  simp (maxSteps:=1000000) [go_sem,Tryz.f36,c1]
  exact ret
 ·by_cases c2:n< -1000
  ·have e:Z8 n= -1000:=by unfold Z8;omega
   rw[e]
   simp (maxSteps:=1000000) [go_sem,Tryz.f36,c1,c2]
   exact ret
  ·have e:Z8 n=n:=by unfold Z8;omega
   rw[e]
   simp (maxSteps:=1000000) [go_sem,Tryz.f36,c1,c2]
   exact ret
theorem uK {L:List (List Int)}(hL:L.length≤900) {k:Nat}(hk:k≤L.length)(n:Int):goI L k (Z8 n)=goI L k n∧goI L k (Qa (Z8 n))=goI L k (Qa n):=by
 unfold goI Z8 Qa;omega
theorem y8 {L:List (List Int)}(hL:L.length≤900) {k:Nat}(hk:k≤L.length)(n:Int):Zj L k (Z8 n)=Zj L k n∧Zj L k (Qa (Z8 n))=Zj L k (Qa n):=
 ⟨wZ L hk _ _ (by unfold Z8;omega),wZ L hk _ _ (by unfold Z8 Qa;omega)⟩
theorem zdC {L:List (List Int)}(hL:L.length≤900)(c a n:Int):QO L c a (Z8 n)=QO L c a n:=by
 have hk:=Qx L a
 unfold QO
 rw[(uK hL hk n).1,(uK hL hk n).2,(y8 hL hk n).1,(y8 hL hk n).2]
theorem zc5 {L:List (List Int)}(hL:L.length≤900)(c a k n:Int):vW L c a k (Z8 n)=vW L c a k n:=by
 have hk:=Qx L a
 unfold vW
 rw[(uK hL hk n).1,(uK hL hk n).2,(y8 hL hk n).1,(y8 hL hk n).2]
theorem zim(L:List (List Int))(c a n:Int):(QO L c a n).1≤L.length:=by
 have hk:=Qx L a
 unfold QO
 repeat' split
 ·exact U0 _ _ _
 ·exact U0 _ _ _
 ·exact VH L n hk
 ·exact VH L _ hk
 ·exact Nat.zero_le _
 ·exact Nat.le_refl _
 ·exact hk
theorem zfv(s:List Int)(hn:s.length≤60):(qR za (Zu za s)).length≤180:=by
 have:=JK s
 omega
theorem zjh [Gi](s:List Int)(c a n:Int)(hs:∀x∈s,zL x)(hn: -9223372036854775808≤n∧n≤9223372036854775807):CR Tryz.prog 5 [] [.p (zh s),.p (.int .i64 c),.p (.int .i64 a),.p (.int .i64 n)] [] (is (.p (.bool true))):=by
 refine walk Tryz.func5 16 [] [] [] ?_
 simp (maxSteps:=1000000) [go_sem,Tryz.f5]
 refine zn yy ?_
 simp (maxSteps:=1000000) [go_sem,zC]
 refine zn (uE s 60 (by decide)) ?_
 have hl:(s.take 60).length≤60:=by rw[List.length_take];omega
 have hr:∀x∈s.take 60,zL x:=fun x hx=>hs x (List.mem_of_mem_take hx)
 generalize s.take 60=l at hl hr
 simp (maxSteps:=1000000) [go_sem]
 refine zn (uF za kh l (by omega) hr) ?_
 simp (maxSteps:=1000000) [go_sem]
 refine call [] jJ ?_
 rintro _ _ ⟨rfl,e,rfl,hT⟩
 have hnew:=Vw hT l (by omega) hr
 have hln:=lnC l (by omega) hr
 have hL:=zfv l hl
 generalize Zu za l=t at hnew hln hL
 generalize qR za t=L at hnew hln hL
 simp (maxSteps:=1000000) [go_sem]
 refine call [] hnew ?_
 rintro _ _ ⟨X,hX,_,rfl,rfl⟩
 have hcl:=hX.cl
 have hm:=wW hT hX (by rw[hln.flat];exact hln) c a n hn
 have hd:=ziY hln c a (Z8 n) (XQ n)
 rw[zdC (by omega)]at hd
 have hle:=zim L c a n
 have hb:=kM hln (plc L (QO L c a n).1:Nat)
 rw[xd hcl hle]at hb
 obtain⟨p,q⟩:=QO L c a n
 simp (maxSteps:=1000000) [go_sem]
 refine call (xm 24) hm ?_
 rintro _ _ ⟨rfl,rfl⟩
 simp (maxSteps:=1000000) [go_sem]
 refine zn (zaH n) ?_
 simp (maxSteps:=1000000) [go_sem]
 refine zn hd ?_
 simp (maxSteps:=1000000) [go_sem]
 refine zn hb ?_
 simp (maxSteps:=1000000) [go_sem]
 refine zn Q8 ?_
 simp (maxSteps:=1000000) [go_sem]
 exact ret
end Go.Proofs.YtjefahhmkcfiiaaGreat
end
