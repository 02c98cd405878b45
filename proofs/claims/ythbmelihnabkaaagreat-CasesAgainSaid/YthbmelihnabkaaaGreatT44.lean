/- A part of the proof of this seat's statements, by an abstract machine: what each operation does to values, and what the law's functions compute. Conditions: as each law says. -/
import Derived.Test.YthbmelihnabkaaaGreatT42
import Derived.Test.YthbmelihnabkaaaGreatT43
section
namespace Go.Proofs.YthbmelihnabkaaaGreat
open Go.AM
set_option maxHeartbeats 1000000
set_option maxRecDepth 10000
attribute [local irreducible] za
theorem U6 {k:Int→Int} {x f:Int}(hx:0≤k x)(hf:k f=0):∀Z:List Int,∃W,∀O:List Int,zV k x (Z++f::O)=W++f::O
 | []=>⟨[x],fun O=>by rw[List.nil_append,zV,if_neg (by omega)];rfl⟩
 |z::Z=>by
  obtain⟨W,hW⟩:=U6 hx hf Z
  by_cases c:k x≠0∧k x<k z
  ·exact⟨z::W,fun O=>by rw[List.cons_append,zV,if_pos c,hW O];rfl⟩
  ·exact⟨x::z::Z,fun O=>by rw[List.cons_append,zV,if_neg c];rfl⟩
theorem zhu {k:Int→Int} {x f:Int}(hx:0≤k x)(hf:k f=0)(Z:List Int):∃W,∀O:List Int,Qc k (O++f::Z) x=O++f::W:=by
 obtain⟨W,hW⟩:=U6 hx hf Z.reverse
 refine⟨W.reverse,fun O=>?_⟩
 have e:(O++f::Z).reverse=Z.reverse++f::O.reverse:=by simp
 unfold Qc
 rw[e,hW]
 simp
theorem Jm {k:Int→Int} {f:Int}(hk:∀x,0≤k x)(hf:k f=0):∀(Y Z:List Int),∃W,∀O:List Int,Y.foldl (Qc k) (O++f::Z)=O++f::W
 | [],Z=>⟨Z,fun _=>rfl⟩
 |y::Y,Z=>by
  obtain⟨V,hV⟩:=zhu (hk y) hf Z
  obtain⟨W,hW⟩:=Jm hk hf Y V
  exact⟨W,fun O=>by rw[List.foldl_cons,hV,hW]⟩
theorem zgU {k:Int→Int} {f:Int}(hf:k f=0)(O:List Int):Qc k O f=O++[f]:=by
 unfold Qc
 rw[KO (.inl hf)]
 simp
theorem zd2 {k:Int→Int} {f:Int}(hk:∀x,0≤k x)(hf:k f=0)(Y:List Int):∃W,∀X:List Int,Q4 k (X++f::Y)=Q4 k X++f::W:=by
 obtain⟨W,hW⟩:=Jm hk hf Y []
 refine⟨W,fun X=>?_⟩
 unfold Q4
 rw[List.foldl_append,List.foldl_cons,zgU hf,hW]
theorem Ws {k:Int→Int}(o:List Int):0≤zM k o↔∃y∈o,k y=0:=by
 refine yK (P:=fun o=>0≤zM k o↔∃y∈o,k y=0) ?_ (fun o y ih=>?_) o.length o rfl
 ·simp[zM,we]
 ·rw[qX]
  by_cases c:k y=0
  ·rw[if_pos c]
   exact⟨fun _=>⟨y,by simp,c⟩,fun _=>by omega⟩
  ·rw[if_neg c,ih]
   constructor
   ·rintro⟨z,h1,h2⟩
    exact⟨z,by simp[h1],h2⟩
   ·rintro⟨z,h1,h2⟩
    rcases List.mem_append.1 h1 with h1|h1
    ·exact⟨z,h1,h2⟩
    ·rw[List.mem_singleton.1 h1]at h2;exact absurd h2 c
theorem zeg {k:Int→Int}(C D:List Int):zM k (C++D)=if 0≤zM k D then C.length+zM k D else zM k C:=by
 refine yK (P:=fun D=>zM k (C++D)=if 0≤zM k D then(C.length:Int)+zM k D else zM k C) ?_ (fun D y ih=>?_) D.length D rfl
 ·have:zM k []= -1:=rfl
  rw[this,List.append_nil,if_neg (by decide)]
 ·rw[←List.append_assoc,qX,qX,List.length_append]
  by_cases c:k y=0
  ·rw[if_pos c,if_pos c,if_pos (by omega)];omega
  ·rw[if_neg c,if_neg c];exact ih
theorem zg6 {k:Int→Int} {mk:Int→Int→Option Int} {D:List Int}(h:0≤zM k D)(C:List Int)(x:Int):Z6 k mk (C++D) x=C++Z6 k mk D x:=by
 have hl:=(xQ k D).2
 obtain⟨p,hp⟩:∃p:Nat,zM k D=p:=⟨(zM k D).toNat,by omega⟩
 have e1:zM k (C++D)=((C.length+p:Nat):Int):=by rw[zeg,if_pos h,hp];omega
 have hpl:p<D.length:=by omega
 have e2:wV k (C++D) ((C.length+p:Nat):Int) x=wV k D (p:Int) x:=by
  unfold wV
  have q1:(C++D).length-1=C.length+(D.length-1):=by rw[List.length_append];omega
  have q2:(C++D)[(C++D).length-1]?=D[D.length-1]?:=by
   rw[q1,List.getElem?_append_right (by omega)];congr 1;omega
  rw[q2]
  congr 1
  rw[decide_eq_decide,List.length_append]
  omega
 have e3:(C++D)[C.length+p]?=D[p]?:=by rw[List.getElem?_append_right (by omega)];congr 1;omega
 unfold Z6
 rw[e1,hp,e2]
 simp only[Int.toNat_natCast]
 rw[e3]
 by_cases c:wV k D (p:Int) x=true
 ·rw[if_pos ⟨by omega,c⟩,if_pos ⟨by omega,c⟩]
  cases mk (D[p]?.getD 0) x with
  |none=>simp
  |some r=>
   simp only
   rw[List.set_append_right _ _ (by omega)];congr 2;omega
 ·rw[if_neg (fun q=>c q.2),if_neg (fun q=>c q.2)];simp
theorem zbB {k:Int→Int} {mk:Int→Int→Option Int}(hm:∀a b c,mk a b=some c→k c=0) {D:List Int}(h:0≤zM k D)(x:Int):0≤zM k (Z6 k mk D x):=by
 have hl:=(xQ k D).2
 have hpush:0≤zM k (D++[x]):=by
  rw[Ws]at h⊢
  obtain⟨y,h1,h2⟩:=h
  exact⟨y,by simp[h1],h2⟩
 unfold Z6
 split
 ·cases hz:mk (D[(zM k D).toNat]?.getD 0) x with
  |none=>exact hpush
  |some r=>
   simp only
   rw[Ws]
   exact⟨r,List.mem_set (by omega) _,hm _ _ _ hz⟩
 ·exact hpush
theorem Xc {k:Int→Int} {mk:Int→Int→Option Int}(hm:∀a b c,mk a b=some c→k c=0):∀(Y D C:List Int),0≤zM k D→Y.foldl (Z6 k mk) (C++D)=C++Y.foldl (Z6 k mk) D
 | [],_,_,_=>rfl
 |y::Y,D,C,h=>by
  rw[List.foldl_cons,List.foldl_cons,zg6 h,Xc hm Y _ C (zbB hm h y)]
theorem zcq {k:Int→Int} {mk:Int→Int→Option Int}(hm:∀a b c,mk a b=some c→k c=0) {f:Int}(hf:k f=0)(hn:∀s,mk s f=none)(X Y:List Int):Ze k mk (X++f::Y)=Ze k mk X++Ze k mk (f::Y):=by
 have hs:∀O,Z6 k mk O f=O++[f]:=fun O=>by
  unfold Z6
  split
  ·rw[hn]
  ·rfl
 unfold Ze
 rw[List.foldl_append,List.foldl_cons,List.foldl_cons,hs,hs]
 exact Xc hm Y [f] _ (by rw[Ws];exact⟨f,by simp,hf⟩)
theorem zkH {f:Int}(h:qcD f=0)(s:Int):mkD za s f=none:=by
 unfold qcD at h
 split at h
 ·exact absurd h (by decide)
 ·split at h
  ·exact absurd h (by decide)
  ·rename_i h2
   simp only[Bool.or_eq_true,not_or,Bool.not_eq_true]at h2
   obtain⟨h3,h4⟩:=h2
   have hj:zS s f=none:=by
    unfold zgT at h4
    simp only[Bool.or_eq_false_iff,Bool.and_eq_false_iff,decide_eq_false_iff_not]at h4
    unfold zS
    rw[if_neg (by omega),if_neg (by omega)]
   unfold mkD
   rw[hj,Option.none_or,uq]
   cases hz:mkB (Vu za) ⟨s,f⟩with
   |none=>rfl
   |some r=>
    have:=zc6 (KE hz)
    simp only at this
    rw[h3]at this;cases this
theorem Ux {r:Int}(h:yJ r=true)(A B:List Int):qv za (A++r::B)=qv za A++qv za (r::B):=by
 unfold yJ u9 at h
 simp only[Bool.and_eq_true,decide_eq_true_eq]at h
 obtain⟨⟨⟨h1,h2⟩,h3⟩,h4⟩:=h
 have h0:=Wy r
 obtain⟨f,tl,hf⟩:∃f tl,z5 za 8 r=f::tl:=by
  cases h:z5 za 8 r with
  |nil=>exact absurd h h0
  |cons x l=>exact⟨_,_,rfl⟩
 rw[hf]at h3 h4
 simp only[List.headD_cons]at h3 h4
 have e1:∀X,Zs za (X++r::B)=Zs za X++f::(tl++Zs za B):=fun X=>by
  unfold Zs
  rw[List.flatMap_append,List.flatMap_cons,hf];rfl
 obtain⟨W,hW⟩:=zd2 (k:=kD za) (f:=f) zdO h3 (tl++Zs za B)
 have e2:∀X,jM za (X++r::B)=jM za X++f::W:=fun X=>by
  unfold jM
  rw[e1,hW]
 have e3:jM za (r::B)=f::W:=e2 []
 unfold qv vY
 rw[e2,e3]
 exact zcq zjF.start h3 (zkH h4) _ _
end Go.Proofs.YthbmelihnabkaaaGreat
end
section
namespace Go.Proofs.YthbmelihnabkaaaGreat
open Go.AM
set_option maxHeartbeats 4000000
set_option maxRecDepth 100000
theorem ex1:qv za [101]=[101]∧z8 za [101]=[[101]]:=by decide+kernel
theorem ex2:zR [101] 1 1 [769]=[233]∧z8 za [233]=[[233]]∧Zv [101] 1=0∧onL [101] 1=1∧uy [101] 1 1 [769]=[233]:=by decide+kernel
theorem ex3:zR [233] 0 0 [120]=[120,233]∧z8 za [120,233]=[[120],[233]]∧Zv [233] 0=0∧onL [233] 0=0∧uy [233] 0 0 [120]=[120]:=by decide+kernel
theorem ex4:yr [101] [233] 0 1 1=(0,1,1)∧plc [[233]] (cnt (pl [[233]]) (QO [101] [233] 0 1 1 1:Nat))=1:=by decide+kernel
theorem ex5:yr [233] [120,233] 0 0 1=(0,0,1)∧plc [[120],[233]] (cnt (pl [[120],[233]]) (QO [233] [120,233] 0 0 0 1:Nat))=1:=by decide+kernel
attribute [local irreducible] za
theorem zoa:Jy [101] [233] [[233]] 0 1 1 1=yB 0 [101] [233] 1:=by
 unfold Jy
 rw[ex4.1,ex4.2];rfl
theorem zn7:Jy [233] [120,233] [[120],[233]] 0 0 1 0=yB 0 [] [120] 1:=by
 unfold Jy
 rw[ex5.1,ex5.2];rfl
theorem ye [Gi]:CR Tryz.prog 25 [] [] [] (is (.p (.bool true))):=by
 refine walk Tryz.func25 6 [] [] [] ?_
 have hr1:∀x∈[101],zD x:=by simp[zD]
 have hr2:∀x∈[233],zD x:=by simp[zD]
 have hr3:∀x∈[769],zD x:=by simp[zD]
 have hr4:∀x∈[120],zD x:=by simp[zD]
 have l1:Ln (List.flatten [[101]]) [[101]]:=⟨ex1.2.symm,by decide,hr1⟩
 have l2:Ln (List.flatten [[233]]) [[233]]:=⟨ex2.2.1.symm,by decide,hr2⟩
 simp (maxSteps:=1000000) [go_sem,Tryz.f25]
 refine zn zbg ?_
 simp (maxSteps:=1000000) [go_sem]
 refine call [] Wk ?_
 rintro _ _ ⟨rfl,e,rfl,hT⟩
 have hnew:=zbq hT [101] (by decide) hr1 (by rw[ex1.1];decide)
 rw[ex1.1,ex1.2]at hnew
 simp (maxSteps:=1000000) [go_sem]
 refine call [] hnew ?_ (ha':=by simp[go_sem,zx])
 rintro _ _ ⟨X,hX,_,rfl,rfl⟩
 have g1:=x7 hT hX l1 (by decide) 1 1 (by decide) (by decide) (by decide) (by decide) [769] (by decide) hr3
 have e1:List.flatten [[101]]=([101]:List Int):=rfl
 rw[e1,ex2.1,ex2.2.1,ex2.2.2.1,ex2.2.2.2.1,ex2.2.2.2.2]at g1
 have g1:=g1 (by decide)
 have e2:(0+List.length [(233:Int)])=1:=rfl
 rw[e2,zoa]at g1
 simp (maxSteps:=1000000) [go_sem]
 refine call (xm 9) g1 ?_ (ha':=by simp[go_sem,zx])
 rintro _ _ ⟨⟨Y,hY,rfl⟩,rfl⟩
 have g2:=x7 hT hY l2 (by decide) 0 0 (by decide) (by decide) (by decide) (by decide) [120] (by decide) hr4
 have e3:List.flatten [[233]]=([233]:List Int):=rfl
 rw[e3,ex3.1,ex3.2.1,ex3.2.2.1,ex3.2.2.2.1,ex3.2.2.2.2]at g2
 have g2:=g2 (by decide)
 have e4:(0+List.length [(120:Int)])=1:=rfl
 rw[e4,zn7]at g2
 simp (maxSteps:=1000000) [go_sem,yB]
 refine call (xm 9) g2 ?_ (ha':=by simp[go_sem,zx])
 rintro _ _ ⟨⟨Z,hZ,rfl⟩,rfl⟩
 have g3:=ug e hZ
 have e5:List.flatten [[120],[233]]=([120,233]:List Int):=rfl
 rw[e5]at g3
 simp (maxSteps:=1000000) [go_sem,yB]
 refine call (xm 9) g3 ?_
 rintro _ _ ⟨rfl,rfl⟩
 simp (maxSteps:=1000000) [go_sem]
 refine⟨by decide,zn (zgb [120,233] (by decide)) ?_ (ha':=by simp[go_sem,zx])⟩
 simp (maxSteps:=1000000) [go_sem]
 exact ret
end Go.Proofs.YthbmelihnabkaaaGreat
end
