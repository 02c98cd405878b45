/- A part of this seat's proofs, by an abstract machine. Conditions: each law's. -/
import Derived.Test.YtfjdbbpimklecaaGreatDoorT43
import Derived.Test.YtfjdbbpimklecaaGreatDoorT40
import Derived.Test.YtfjdbbpimklecaaGreatDoorT18
import Derived.Test.YtfjdbbpimklecaaGreatDoorT31
set_option maxHeartbeats 4000000
set_option maxRecDepth 10000
namespace Go.Proofs.YtfjdbbpimklecaaGreatDoor
section
open Go.AM
attribute [local irreducible] za
def dF(a b:zt):Nat→Int
 |0=> -1
 |i+1=>if dF a b i<0∧a.getD i blk≠b.getD i blk then i else dF a b i
def dL(b:zt):Nat→Int
 |0=>0
 |i+1=>if b.getD i blk≠blk then i+1 else dL b i
def dT(b:zt)(f:Nat):Nat→List UInt8
 |0=>[]
 |j+1=>dT b f j++(b.getD (f+j) blk).t
theorem XI(a b:zt)(i:Nat): -1≤dF a b i∧dF a b i<i∨i=0∧dF a b i= -1:=by
 induction i with
 |zero=>exact .inr ⟨rfl,rfl⟩
 |succ i ih=>
  left
  rw[dF]
  split<;>omega
theorem zga(b:zt)(i:Nat):0≤dL b i∧dL b i≤i:=by
 induction i with
 |zero=>exact⟨Int.le_refl _,Int.le_refl _⟩
 |succ i ih=>
  rw[dL]
  split<;>omega
theorem zqS {l:zt} {i:Nat}(h:i<l.length):(l.map clP)[i]?=some (.agg [.str l[i].t,.int .i64 l[i].w]):=by
 rw[List.getElem?_map,List.getElem?_eq_getElem h];rfl
theorem Z7 {l:zt} {i:Nat}(h:i<l.length):elemAt (l.map clP) i=.agg [.str l[i].t,.int .i64 l[i].w]:=by
 rw[elemAt,List.getD_eq_getElem?_getD,zqS h];rfl
def zlB(r:Int)(n:Nat)(a b:zt)(i:Nat)(f l m:Int)(ts:List (Nat×AV)):St:=
 {n:=85,nv:=13,vs:=[(1,.p (.sl 2 (a.map clP))),(2,.p (.sl 2 (b.map clP))),(6,.lp [6] 0),(7,.p (.bool false)),(8,.lp [8] 0),(9,.p (.int .i64 l)),(10,.p (.int .i64 m)),(16,.p (.int .i64 n)),(17,.p (.int .i64 i)),(11,.p (.int .i64 i))],ts:=ts,rs:=[([6],[.p (.int .i64 0),.p (.int .i64 0),.p (.int .i64 0),.p (.str []),.p (.bool false)]),([8],[.p (.int .i64 r),.p (.int .i64 f),.p (.int .i64 0),.p (.str []),.p (.bool false)])],ex:=[16,17]}
def yC(r:Int)(a b:zt)(n:Nat):PV:=
 if dF a b n<0 then .agg [.int .i64 0,.int .i64 0,.int .i64 0,.str [],.bool false]
 else .agg [.int .i64 r,.int .i64 (dF a b n),.int .i64 (max (dL b n) (dF a b n)),.str (dT b (dF a b n).toNat (max (dL b n) (dF a b n)-dF a b n).toNat),.bool (decide (max (dL b n) (dF a b n)<dL a n))]
theorem zjA {b:zt}(hb:∀c∈b,c.t.length≤140737488355328)(f j:Nat):(dT b f j).length≤j*140737488355328:=by
 induction j with
 |zero=>simp[dT]
 |succ j ih=>
  rw[dT,List.length_append]
  have:(b.getD (f+j) blk).t.length≤140737488355328:=by
   rw[List.getD_eq_getElem?_getD]
   rcases h:b[f+j]? with _|c
   ·decide
   ·exact hb c (List.mem_of_getElem? h)
  omega
theorem zlV [Gi](r:Int)(n:Nat)(a b:zt)(h1:a.length=n)(h2:b.length=n)(hb:n≤1000)(ht:0≤dF a b n→∀c∈b,c.t.length≤140737488355328):
  CR Tryz.prog 97 [] [.p (.int .i64 r),.p (qe a),.p (qe b)] [] (is (.tup [.p (yC r a b n),.p (.bool (decide (0≤dF a b n)))])):=by
 refine zK [6,8,10,19] mixed 13 [16,17] Tryz.func97 rfl (by kernel_rfl) rfl (by simp) (by simp) ?_
 simp (maxSteps:=1000000) (disch:=omega) [go_sem,Tryz.f97]
 refine qM (fun i:Nat=>i≤n) (fun i=>{n:=85,nv:=13,vs:=[(1,.p (.sl 2 (a.map clP))),(2,.p (.sl 2 (b.map clP))),(6,.lp [6] 0),(7,.p (.bool false)),(8,.lp [8] 0),(9,.p (.int .i64 (dL b i))),(10,.p (.int .i64 (dL a i))),(16,.p (.int .i64 n)),(17,.p (.int .i64 i))],ts:=[],rs:=[([6],[.p (.int .i64 0),.p (.int .i64 0),.p (.int .i64 0),.p (.str []),.p (.bool false)]),([8],[.p (.int .i64 r),.p (.int .i64 (dF a b i)),.p (.int .i64 0),.p (.str []),.p (.bool false)])],ex:=[16,17]}) (fun i=>n-i) 0 (by simp) (by simp[go_sem,LeS,leV,leR,leA,leL,dF,dL,h2]) ?_
 intro i hi
 simp (maxSteps:=1000000) (disch:=omega) [go_sem]
 refine zh (fun h=>?_) (fun h=>?_)
 ·have hi1:i<a.length:=by omega
  have hi2:i<b.length:=by omega
  have hin:i<n:=by omega
  have ea:=Z7 hi1
  have eb:=Z7 hi2
  have eF:dF a b (i+1)=if dF a b i<0∧a[i]≠b[i]then(i:Int)else dF a b i:=by rw[dF,qp hi1,qp hi2]
  have eL:∀l:zt,∀h:i<l.length,dL l (i+1)=if l[i]≠blk then(i:Int)+1 else dL l i:=fun l h=>by rw[dL,qp h]
  have eA:=eL a hi1
  have eB:=eL b hi2
  clear eL
  simp (maxSteps:=1000000) (disch:=omega) [go_sem,ea,eb,h1,h2,hin]
  refine yP (ι:=List (Nat×AV)) (fun ts=>zlB r n a b i (dF a b (i+1)) (dL b i) (dL a i) ts) (zN (fun h3=>?_) (fun h3=>?_)) ?_
  ·have hc:dF a b i<0∧a[i]≠b[i]:=by
    refine⟨by simp at h3;exact h3.1,fun e=>?_⟩
    rw[e]at h3;simp at h3
   rw[if_pos hc]at eF
   rw[eF]
   simp (maxSteps:=1000000) (disch:=omega) [go_sem]
   exact Q5 _ rfl
  ·have hc:¬(dF a b i<0∧a[i]≠b[i]):=by
    rintro⟨h4,h5⟩
    apply h5
    rw[←YB]
    simpa[h4]using h3
   rw[if_neg hc]at eF
   rw[eF]
   simp (maxSteps:=1000000) (disch:=omega) [go_sem]
   exact Q5 _ rfl
  ·clear eF
   intro ts
   simp (maxSteps:=1000000) (disch:=omega) [go_sem,eb,h2,hin,zlB]
   refine qm (.p (clP blk)) rfl rfl (fun _=>qk 82 jx rfl ⟨rfl,by simp[Tryz.f82]⟩ ⟨by simp[go_sem],by simp[go_sem]⟩) ?_
   simp (maxSteps:=1000000) (disch:=omega) [go_sem,clP,blk]
   refine yP (ι:=List (Nat×AV)) (fun ts=>zlB r n a b i (dF a b (i+1)) (dL b (i+1)) (dL a i) ts) (zN (fun h3=>?_) (fun h3=>?_)) ?_
   ·have hc:b[i]≠blk:=fun e=>by
     rw[e]at h3;simp[blk]at h3
    rw[if_pos hc]at eB
    rw[eB]
    simp (maxSteps:=1000000) (disch:=omega) [go_sem,wrap64]
    exact Q5 _ rfl
   ·have hc:b[i]=blk:=by
     rw[←YB];simpa[blk]using h3
    rw[if_neg (by simp[hc])]at eB
    rw[eB]
    simp (maxSteps:=1000000) (disch:=omega) [go_sem]
    exact Q5 _ rfl
   ·clear eB
    intro ts
    simp (maxSteps:=1000000) (disch:=omega) [go_sem,ea,h1,hin,zlB]
    refine qm (.p (clP blk)) rfl rfl (fun _=>qk 82 jx rfl ⟨rfl,by simp[Tryz.f82]⟩ ⟨by simp[go_sem],by simp[go_sem]⟩) ?_
    simp (maxSteps:=1000000) (disch:=omega) [go_sem,clP,blk]
    refine zN (fun h3=>?_) (fun h3=>?_)
    ·have hc:a[i]≠blk:=fun e=>by
      rw[e]at h3;simp[blk]at h3
     rw[if_pos hc]at eA
     simp (maxSteps:=1000000) (disch:=omega) [go_sem,wrap64]
     refine zi (i+1) (by omega) (by simp[go_sem,LeS,leV,leR,leA,leL,eA]) (by omega)
    ·have hc:a[i]=blk:=by
      rw[←YB];simpa[blk]using h3
     rw[if_neg (by simp[hc])]at eA
     simp (maxSteps:=1000000) (disch:=omega) [go_sem,wrap64]
     refine zi (i+1) (by omega) (by simp[go_sem,LeS,leV,leR,leA,leL,eA]) (by omega)
 ·obtain rfl:i=n:=by omega
  simp (maxSteps:=1000000) (disch:=omega) [go_sem]
  refine zh (fun h3=>?_) (fun h3=>?_)
  ·have h4:¬(0≤dF a b i):=by omega
   simp (maxSteps:=1000000) (disch:=omega) [go_sem]
   exact zg _ rfl (by simp[go_sem,zf,leA,yC,h3,h4]) ⟨rfl,rfl⟩
  ·have h4:0≤dF a b i:=by omega
   have b1:=XI a b i
   have b2:=zga b i
   obtain⟨F,hF⟩:∃F:Nat,dF a b i=F:=⟨(dF a b i).toNat,by omega⟩
   obtain⟨T,hT⟩:∃T:Nat,max (dL b i) (dF a b i)=T:=⟨(max (dL b i) (dF a b i)).toNat,by omega⟩
   have hFT:F≤T∧T≤i:=by omega
   have hd:yC r a b i=.agg [.int .i64 r,.int .i64 F,.int .i64 T,.str (dT b F (T-F)),.bool (decide ((T:Int)<dL a i))]:=by
    have e1:((T:Int)- (F:Int)).toNat=T-F:=by omega
    rw[yC,if_neg h3,hT,hF,e1];rfl
   rw[hd]
   have ht':=ht h4
   have h5:decide (0≤dF a b i)=true:=by simpa using h4
   rw[h5]
   rw[hF]at hT
   clear hd h3 h4 h5 b1 b2
   simp (maxSteps:=1000000) (disch:=omega) [go_sem,hT,hF]
   refine qM (fun j:Nat=>F+j≤T) (fun j=>{n:=85,nv:=13,vs:=[(2,.p (.sl 2 (b.map clP))),(6,.lp [6] 0),(7,.p (.bool false)),(8,.lp [8] 0),(10,.p (.int .i64 (dL a i))),(12,.p (.int .i64 (F+j:Nat)))],ts:=[],rs:=[([6],[.p (.int .i64 0),.p (.int .i64 0),.p (.int .i64 0),.p (.str []),.p (.bool false)]),([8],[.p (.int .i64 r),.p (.int .i64 F),.p (.int .i64 T),.p (.str (dT b F j)),.p (.bool false)])],ex:=[16,17]}) (fun j=>T-F-j) 0 (by omega) (by simp[go_sem,LeS,leV,leR,leA,leL,dT]) ?_
   intro j hj
   simp (maxSteps:=1000000) (disch:=omega) [go_sem]
   refine zh (fun h3=>?_) (fun h3=>?_)
   ·have hj2:F+j<b.length:=by omega
    have eb:=Z7 hj2
    have eT:dT b F (j+1)=dT b F j++b[F+j].t:=by rw[dT,qp hj2]
    have e2:((F:Int)+(j:Int)).toNat=F+j:=by omega
    simp (maxSteps:=1000000) (disch:=omega) [go_sem,wrap64,eb,h2,e2]
    have hk:=zjA ht' F j
    have hk2:=ht' b[F+j] (List.getElem_mem hj2)
    refine⟨by omega,by omega,?_⟩
    refine zi (j+1) (by omega) (by simp[go_sem,LeS,leV,leR,leA,leL,eT];omega) (by omega)
   ·obtain rfl:j=T-F:=by omega
    simp (maxSteps:=1000000) (disch:=omega) [go_sem]
    exact zg _ rfl (by simp[go_sem,zf,leA]) ⟨rfl,rfl⟩
def dRs(C:Nat)(l l':zt):Nat→List PV
 |0=>[]
 |k+1=>if 0≤dF (zm C l k) (zm C l' k) C then dRs C l l' k++[yC k (zm C l k) (zm C l' k) C]else dRs C l l' k
theorem zlN(C:Nat)(l l':zt)(k:Nat):(dRs C l l' k).length≤k:=by
 induction k with
 |zero=>simp[dRs]
 |succ k ih=>
  rw[dRs]
  split
  ·simp;omega
  ·omega
theorem X7 [Gi](R C:Nat)(l l':zt)(hR:R≤500)(hC:1≤C∧C≤1000)(hl:l.length=R*C)(hl':l'.length=R*C)
  (ht:∀k,k<R→0≤dF (zm C l k) (zm C l' k) C→∀c∈zm C l' k,c.t.length≤140737488355328):
  CR Tryz.prog 46 [] [.p (Zj R C l),.p (Zj R C l')] [] (is (.p (.sl 5 (dRs C l l' R)))):=by
 refine walk Tryz.func46 13 [31,32] [] [] ?_
 simp (maxSteps:=1000000) [go_sem,Tryz.f46]
 refine zq (vN R C l) ?_
 simp (maxSteps:=1000000) [go_sem]
 refine zq (vN R C l') ?_
 simp (maxSteps:=1000000) [go_sem]
 refine loop (fun i:Nat=>i≤R) (fun i=>[(9,.os [9] 5 (dRs C l l' i)),(32,.p (.int .i64 i))]) (fun _=>[]) (fun i=>R-i) 0 (Nat.zero_le _) (fun i hi=>?_) (h0:=by simp[go_sem,LeS,leV,leR,leA,dRs])
 by_cases hi':i<R
 ·have hr1:=zaW R C l i hR hC hl hi'
  have hr2:=zaW R C l' i hR hC hl' hi'
  have hd:=zlV i C (zm C l i) (zm C l' i) (ZA hl hi') (ZA hl' hi') (by omega) (ht i hi')
  have hdl:=zlN C l l' i
  have hdS:dRs C l l' (i+1)=if 0≤dF (zm C l i) (zm C l' i) C then dRs C l l' i++[yC i (zm C l i) (zm C l' i) C]else dRs C l l' i:=rfl
  have w1:IntKind.i64.wrap ((i:Int)+1)=((i+1:Nat):Int):=zG (by omega)
  generalize zm C l i=a at*
  generalize zm C l' i=b at*
  simp (maxSteps:=1000000) [go_sem,hi']
  refine zq hr1 ?_
  simp (maxSteps:=1000000) [go_sem]
  refine zq hr2 ?_
  simp (maxSteps:=1000000) [go_sem]
  obtain⟨x0,x1,x2,x3,x4,hx⟩:∃x0 x1 x2 x3 x4,yC i a b C=.agg [x0,x1,x2,x3,x4]:=by
   unfold yC
   split
   ·exact⟨_,_,_,_,_,rfl⟩
   ·exact⟨_,_,_,_,_,rfl⟩
  rw[hx]at hd hdS
  refine zq hd ?_
  by_cases hc:0≤dF a b C
  ·rw[if_pos hc]at hdS
   simp (maxSteps:=1000000) [go_sem,w1,hc]
   refine⟨by omega,?_⟩
   exact next (i+1) hi' (h3:=by show R- (i+1)<R-i;omega) (h2:=by simp[go_sem,LeS,leV,leR,leA,hdS])
  ·rw[if_neg hc]at hdS
   simp (maxSteps:=1000000) [go_sem,w1,hc]
   exact next (i+1) hi' (h3:=by show R- (i+1)<R-i;omega) (h2:=by simp[go_sem,LeS,leV,leR,leA,hdS])
 ·obtain rfl:i=R:=by omega
  simp (maxSteps:=1000000) [go_sem]
  exact ret (hx:=by simp[go_sem,zf,leA,leT])
def dkV(d:Dk):PV:=.agg [.int .i64 d.need,.int .i64 d.hv,.int .u8 d.lo,.int .u8 d.hi,.int .i32 d.v]
theorem zq3:∀b:Fin 256,(IntKind.i32.wrap (IntKind.u8.wrap ((BitVec.ofNat 8 b.1&&& 31#8).toNat:Int))=(b.1:Int)%32)∧(IntKind.i32.wrap (IntKind.u8.wrap ((BitVec.ofNat 8 b.1&&& 15#8).toNat:Int))=(b.1:Int)%16)∧(IntKind.i32.wrap (IntKind.u8.wrap ((BitVec.ofNat 8 b.1&&& 7#8).toNat:Int))=(b.1:Int)%8):=by decide+kernel
theorem wq0:IntKind.i32.wrap (IntKind.u8.wrap 0)=0:=by decide
theorem zc7:IntKind.i32.wrap (IntKind.u8.wrap 13)=13:=by decide
theorem wq4:IntKind.i32.wrap (IntKind.u8.wrap 4)=4:=by decide
theorem zlm [Gi] (b : Nat) (hb : b < 256) : CR Tryz.prog 186 [] [.p (.int .u8 b)] [] (is (.tup [.p (dkV (qL b).1), .p (zE (qL b).2)])) := by
  refine walk Tryz.func186 5 [43] [] [] ?_
  obtain ⟨a1, a2, a3⟩ := zq3 ⟨b, hb⟩
  simp only at a1 a2 a3
  have w1 : IntKind.i32.wrap (b : Int) = b := by have : (b : Int) < 256 := by omega
                                                 exact wrap32 (by omega) (by omega)
  by_cases h1 : b < 128
  · have e : qL b = (dz, [(b : Int)]) := by unfold qL; rw [if_pos h1]
    have h1' : (b : Int) < 128 := by omega
    rw [e]
    simp (maxSteps := 1000000) [go_sem, Tryz.f186, h1', w1]
    exact ret (hx := by simp [go_sem, zf, leA, leT, leP, zP, dkV, dz])
  · have h1' : ¬ (b : Int) < 128 := by omega
    by_cases h2 : b < 194
    · have e : qL b = (dz, [y7]) := by unfold qL; rw [if_neg h1, if_pos (.inl h2)]
      have h2' : (b : Int) < 194 := by omega
      rw [e]
      simp (maxSteps := 1000000) [go_sem, Tryz.f186, h1', h2']
      exact ret (hx := by simp [go_sem, zf, leA, leT, leP, zP, dkV, dz, y7])
    · have h2' : ¬ (b : Int) < 194 := by omega
      by_cases h3 : 244 < b
      · have e : qL b = (dz, [y7]) := by unfold qL; rw [if_neg h1, if_pos (.inr h3)]
        have h3' : 244 < (b : Int) := by omega
        rw [e]
        simp (maxSteps := 1000000) [go_sem, Tryz.f186, h1', h2', h3']
        exact ret (hx := by simp [go_sem, zf, leA, leT, leP, zP, dkV, dz, y7])
      · have h3' : ¬ 244 < (b : Int) := by omega
        have e : qL b = (⟨jB b, 1, loD b, hiD b, uX b⟩, []) := by unfold qL; rw [if_neg h1, if_neg (by omega)]
        rw [e]
        clear e
        by_cases s1 : b = 224
        · subst s1
          simp (maxSteps := 1000000) [go_sem, Tryz.f186]
          exact ret (hx := by simp [go_sem, zf, leA, leT, leP, zP, wq0, dkV, jB, loD, hiD, uX])
        by_cases s2 : b = 237
        · subst s2
          simp (maxSteps := 1000000) [go_sem, Tryz.f186]
          exact ret (hx := by simp [go_sem, zf, leA, leT, leP, zP, zc7, dkV, jB, loD, hiD, uX])
        by_cases s3 : b = 240
        · subst s3
          simp (maxSteps := 1000000) [go_sem, Tryz.f186]
          exact ret (hx := by simp [go_sem, zf, leA, leT, leP, zP, wq0, dkV, jB, loD, hiD, uX])
        by_cases s4 : b = 244
        · subst s4
          simp (maxSteps := 1000000) [go_sem, Tryz.f186]
          exact ret (hx := by simp [go_sem, zf, leA, leT, leP, zP, wq4, dkV, jB, loD, hiD, uX])
        have s1' : ¬ (b : Int) = 224 := by omega
        have s2' : ¬ (b : Int) = 237 := by omega
        have s3' : ¬ (b : Int) = 240 := by omega
        have s4' : ¬ (b : Int) = 244 := by omega
        have hl : loD b = 128 := by unfold loD; rw [if_neg s1, if_neg s3]
        have hh : hiD b = 191 := by unfold hiD; rw [if_neg s2, if_neg s4]
        rw [hl, hh]
        by_cases h4 : b < 224
        · have h4' : (b : Int) < 224 := by omega
          have e1 : jB b = 1 := by unfold jB; rw [if_pos h4]
          have e2 : uX b = b % 32 := by unfold uX; rw [if_pos h4]
          rw [e1, e2]
          simp (maxSteps := 1000000) [go_sem, Tryz.f186, h1', h2', h3', h4', s1', s2', s3', s4']
          exact ret (hx := by simp [go_sem, zf, leA, leT, leP, zP, dkV]; exact a1)
        · have h4' : ¬ (b : Int) < 224 := by omega
          by_cases h5 : b < 240
          · have h5' : (b : Int) < 240 := by omega
            have e1 : jB b = 2 := by unfold jB; rw [if_neg h4, if_pos h5]
            have e2 : uX b = b % 16 := by unfold uX; rw [if_neg h4, if_pos h5]
            rw [e1, e2]
            simp (maxSteps := 1000000) [go_sem, Tryz.f186, h1', h2', h3', h4', h5', s1', s2', s3', s4']
            exact ret (hx := by simp [go_sem, zf, leA, leT, leP, zP, dkV]; exact a2)
          · have h5' : ¬ (b : Int) < 240 := by omega
            have e1 : jB b = 3 := by unfold jB; rw [if_neg h4, if_neg h5]
            have e2 : uX b = b % 8 := by unfold uX; rw [if_neg h4, if_neg h5]
            rw [e1, e2]
            simp (maxSteps := 1000000) [go_sem, Tryz.f186, h1', h2', h3', h4', h5', s1', s2', s3', s4']
            exact ret (hx := by simp [go_sem, zf, leA, leT, leP, zP, dkV]; exact a3)
structure zpV(d:Dk):Prop where
 n:d.need≤3
 h:d.hv≤4
 l:d.lo<256
 u:d.hi<256
 v:d.v<32768
def zbr:OT:=.now 2 1 (.mk [(0,.mk [(1,.mk [(3,.mk [(4,.mk [(5,.mk [])])])])]),(1,.mk [(0,.mk [(3,.mk [(4,.mk [(5,.mk [])])])]),(3,.mk [(0,.mk [(4,.mk [(5,.mk [])])])])])])
def ziH:OT:=.now 1 2 (.mk [(0,.mk [(2,.mk [(3,.mk [(4,.mk [(5,.mk [])])]),(4,.mk [(3,.mk [(5,.mk [])])])]),(4,.mk [(2,.mk [(3,.mk [(5,.mk [])])])])]),(2,.mk [(0,.mk [(3,.mk [(4,.mk [(5,.mk [])])]),(4,.mk [(3,.mk [(5,.mk [])])])]),(3,.mk [(0,.mk [(4,.mk [(5,.mk [])])])])])])
theorem zqg:∀b:Fin 256,IntKind.i32.wrap (IntKind.u8.wrap ((BitVec.ofNat 8 b.1&&& 63#8).toNat:Int))=((b.1%64:Nat):Int):=by decide+kernel
theorem zou(v:Nat)(hv:v<32768)(b:Nat)(hb:b<256):IntKind.i32.wrap ((BitVec.ofInt 32 (IntKind.i32.wrap ((v:Int)*64)) |||BitVec.ofInt 32 (IntKind.i32.wrap (IntKind.u8.wrap ((BitVec.ofNat 8 b&&& 63#8).toNat:Int)))).toNat:Int)=((v*64+b%64:Nat):Int):=by
 rw[zqg ⟨b,hb⟩]
 have e0:((v:Int)*64)=((v*64:Nat):Int):=by rw[Int.natCast_mul];rfl
 have e4:IntKind.i32.wrap ((v*64:Nat):Int)=((v*64:Nat):Int):=wrap32 (by omega) (by omega)
 rw[e0,e4]
 have e1:BitVec.ofInt 32 ((v*64:Nat):Int)=BitVec.ofNat 32 (v*64):=BitVec.ofInt_natCast ..
 have e2:BitVec.ofInt 32 ((b%64:Nat):Int)=BitVec.ofNat 32 (b%64):=BitVec.ofInt_natCast ..
 simp only[e1,e2,BitVec.toNat_or,BitVec.toNat_ofNat]
 rw[Nat.mod_eq_of_lt (show v*64<2^32 by omega),Nat.mod_eq_of_lt (show b%64<2^32 by omega)]
 have e3:v*64 |||b%64=v*64+b%64:=by
  have:=Nat.two_pow_add_eq_or_of_lt (i:=6) (b:=b%64) (by omega) v
  rw[show 2^6*v=v*64 by omega]at this
  exact this.symm
 rw[e3]
 exact wrap32 (by omega) (by omega)
theorem WT(b:Nat):(qL b).2.length≤1:=by unfold qL;split<;>(try split)<;>simp
theorem zl9 [Gi](d:Dk)(hd:zpV d)(b:Nat)(hb:b<256):CR Tryz.prog 133 [] [.p (dkV d),.p (.int .u8 b)] [] (is (.tup [.p (dkV (Z8 d b).1),.p (zE (Z8 d b).2)])):=by
 have fc:=zlm b hb
 refine uA 8 [] Tryz.func133 rfl rfl (by simp) (by simp) ?_
 refine Ql.seq (D:=[]) mixed (by kernel_rfl) ?_
 simp (maxSteps:=1000000) [go_sem,dkV]
 by_cases h0:d.need=0
 ·have e:Z8 d b=qL b:=by unfold Z8;rw[if_pos h0]
  rw[e]
  refine Ql.seq (D:=[]) mixed (by kernel_rfl) ?_
  simp (maxSteps:=1000000) [go_sem,h0]
  generalize qL b=q at fc⊢
  obtain⟨q1,q2⟩:=q
  unfold dkV at fc
  refine zq fc ?_
  simp (maxSteps:=1000000) [go_sem]
  exact ret (hx:=by simp[go_sem,zf,leA,leT,leP])
 ·have h0':¬(d.need:Int)=0:=by omega
  refine Ql.seq (D:=[]) mixed (by kernel_rfl) ?_
  simp (maxSteps:=1000000) [go_sem,h0]
  by_cases h1:b<d.lo∨d.hi<b
  ·have e:Z8 d b=((qL b).1,y7::(qL b).2):=by unfold Z8;rw[if_neg h0,if_pos h1]
   rw[e]
   refine Ql.zew fun E=>zV.jI (D:=[]) mixed (by kernel_rfl) ?_
   by_cases h2:b<d.lo
   ·have h2':(b:Int)<d.lo:=by omega
    simp (maxSteps:=1000000) [go_sem,h2']
    refine zV.zi1 (by simp[go_sem]) ?_
    have hq:=WT b
    generalize qL b=q at fc hq⊢
    obtain⟨q1,q2⟩:=q
    simp only at hq
    unfold dkV at fc
    refine zV.jI (D:=[]) mixed (by kernel_rfl) ?_
    simp (maxSteps:=1000000) [go_sem]
    refine zq fc ?_
    simp (maxSteps:=1000000) [go_sem]
    refine zV.seq (zV.tree mixed zbr (by kernel_rfl) ?_)
    have hb:(1+q2.length)*4≤140737488355328:=by omega
    simp (maxSteps:=1000000) [go_sem,zbr,hb]
    repeat'(first|exact True.intro|apply And.intro)
    all_goals
     refine zV.Qb (D:=[]) mixed (by kernel_rfl) ?_
     simp (maxSteps:=1000000) [go_sem]
     exact ret (hx:=by simp[go_sem,zf,leA,leT,leP,zP,y7])
   ·have h2':¬(b:Int)<d.lo:=by omega
    have h3:d.hi<b:=by omega
    have h3':(d.hi:Int)<b:=by omega
    simp (maxSteps:=1000000) [go_sem,h2',h3']
    refine zV.zi1 (by simp[go_sem]) ?_
    have hq:=WT b
    generalize qL b=q at fc hq⊢
    obtain⟨q1,q2⟩:=q
    simp only at hq
    unfold dkV at fc
    refine zV.jI (D:=[]) mixed (by kernel_rfl) ?_
    simp (maxSteps:=1000000) [go_sem]
    refine zq fc ?_
    simp (maxSteps:=1000000) [go_sem]
    refine zV.seq (zV.tree mixed zbr (by kernel_rfl) ?_)
    have hb:(1+q2.length)*4≤140737488355328:=by omega
    simp (maxSteps:=1000000) [go_sem,zbr,hb]
    repeat'(first|exact True.intro|apply And.intro)
    all_goals
     refine zV.Qb (D:=[]) mixed (by kernel_rfl) ?_
     simp (maxSteps:=1000000) [go_sem]
     exact ret (hx:=by simp[go_sem,zf,leA,leT,leP,zP,y7])
  ·have h2:¬b<d.lo:=by omega
   have h3:¬d.hi<b:=by omega
   have h2':¬(b:Int)<d.lo:=by omega
   have h3':¬(d.hi:Int)<b:=by omega
   refine Ql.zew fun E=>zV.jI (D:=[]) mixed (by kernel_rfl) ?_
   simp (maxSteps:=1000000) [go_sem,h2',h3']
   refine zV.zf3 (by simp[go_sem]) ?_
   refine zV.Qb (D:=[]) mixed (by kernel_rfl) ?_
   simp (maxSteps:=1000000) [go_sem]
   refine Ql.seq (D:=[]) mixed (by kernel_rfl) ?_
   simp (maxSteps:=1000000) [go_sem]
   have ol:=zou d.v hd.v b hb
   conv in (occs:= *) IntKind.i32.wrap (Nat.cast (BitVec.toNat _))=>all_goals tactic'=>exact ol
   have w1:IntKind.i64.wrap ((d.need:Int)-1)=(d.need:Int)-1:=by have:=hd.n;exact wrap64 (by omega) (by omega)
   have w2:IntKind.i64.wrap ((d.hv:Int)+1)=(d.hv:Int)+1:=by have:=hd.h;exact wrap64 (by omega) (by omega)
   generalize hv':d.v*64+b%64=v'
   refine Ql.seq (D:=[]) mixed (by kernel_rfl) ?_
   simp (maxSteps:=1000000) [go_sem,w1,w2]
   by_cases h4:d.need=1
   ·have h4':(d.need:Int)-1=0:=by omega
    have e:Z8 d b=(dz,[(v':Int)]):=by unfold Z8;rw[if_neg h0,if_neg h1,if_pos h4,hv']
    rw[e]
    refine Ql.zew fun E=>zV.jI (D:=[]) mixed (by kernel_rfl) ?_
    simp (maxSteps:=1000000) [go_sem,h4']
    refine zV.zi1 (by simp[go_sem]) ?_
    refine zV.seq (zV.tree mixed ziH (by kernel_rfl) ?_)
    simp (maxSteps:=1000000) [go_sem,ziH]
    repeat'(first|exact True.intro|apply And.intro)
    all_goals
     refine zV.Qb (D:=[]) mixed (by kernel_rfl) ?_
     simp (maxSteps:=1000000) [go_sem]
     exact ret (hx:=by simp[go_sem,zf,leA,leT,leP,zP,dz])
   ·have h4':¬(d.need:Int)-1=0:=by omega
    have e:Z8 d b=(⟨d.need-1,d.hv+1,128,191,v'⟩,[]):=by unfold Z8;rw[if_neg h0,if_neg h1,if_neg h4,hv']
    have e2:((d.need-1:Nat):Int)=(d.need:Int)-1:=by omega
    rw[e]
    refine Ql.zew fun E=>zV.jI (D:=[]) mixed (by kernel_rfl) ?_
    simp (maxSteps:=1000000) [go_sem,h4']
    refine zV.zf3 (by simp[go_sem]) ?_
    refine zV.Qb (D:=[]) mixed (by kernel_rfl) ?_
    simp (maxSteps:=1000000) [go_sem]
    refine Ql.Qb (D:=[]) mixed (by kernel_rfl) ?_
    simp (maxSteps:=1000000) [go_sem]
    exact ret (hx:=by simp[go_sem,zf,leA,leT,leP,zP,e2])
structure DkI(d:Dk):Prop where
 n:d.need≤3
 h:d.hv+d.need≤4
 l:d.lo<256
 u:d.hi<256
 v1:d.v<32768
 v2:d.need=2→d.v<512
 v3:d.need=3→d.v<8
theorem DkI.ok {d:Dk}(h:DkI d):zpV d:=⟨h.n,by have:=h.h;omega,h.l,h.u,h.v1⟩
theorem DkI.z:DkI dz:=⟨by simp[dz],by simp[dz],by simp[dz],by simp[dz],by simp[dz],by simp[dz],by simp[dz]⟩
theorem DkI.first(b:Nat)(_:b<256):DkI (qL b).1:=by
 unfold qL
 split
 ·exact DkI.z
 split
 ·exact DkI.z
 ·refine⟨?_,?_,?_,?_,?_,?_,?_⟩<;>simp only[jB,loD,hiD,uX]<;>(repeat' split)<;>omega
theorem DkI.feed {d:Dk}(h:DkI d)(b:Nat)(hb:b<256):DkI (Z8 d b).1:=by
 have hf:=DkI.first b hb
 obtain⟨a1,a2,a3,a4,a5,a6,a7⟩:=h
 unfold Z8
 split
 ·exact hf
 split
 ·exact hf
 split
 ·exact DkI.z
 ·refine⟨?_,?_,?_,?_,?_,?_,?_⟩<;>simp only<;>omega
theorem zdi(d:Dk)(b:Nat):(Z8 d b).2.length≤2:=by
 have h:=WT b
 unfold Z8
 split
 ·omega
 split
 ·simp;omega
 split<;>simp
def nb(s:List UInt8):List Nat:=s.map UInt8.toNat
theorem zov [Gi](d:Dk):CR Tryz.prog 134 [] [.p (dkV d)] [] (is (.p (zE (QG d [])))):=by
 refine walk Tryz.func134 3 [] [] [] ?_
 by_cases h:d.need=0
 ·have e:QG d []=[]:=by unfold QG;rw[if_pos h]
  rw[e]
  simp (maxSteps:=1000000) [go_sem,Tryz.f134,dkV,h]
  exact ret (hx:=by simp[go_sem,zf,leA,leT,zP])
 ·have e:QG d []=[y7]:=by unfold QG;rw[if_neg h]
  have h':¬(d.need:Int)=0:=by omega
  rw[e]
  simp (maxSteps:=1000000) [go_sem,Tryz.f134,dkV,h]
  exact ret (hx:=by simp[go_sem,zf,leA,leT,zP,y7])
def zjo:OT:=.now 1 0 (.now 2 0 (.mk [(0,.mk [(3,.mk [(4,.mk [(5,.mk [])])])]),(3,.mk [(0,.mk [(4,.mk [(5,.mk [])])])])]))
structure DcI(s:List UInt8)(r:Nat×Dk×List Int):Prop where
 i:r.1≤s.length
 d:DkI r.2.1
 o:r.2.2++QG r.2.1 ((nb s).drop r.1)=QG dz (nb s)
 l:r.2.2.length≤2*r.1
def dkC(d:Dk):List AV:=[.p (.int .i64 d.need),.p (.int .i64 d.hv),.p (.int .u8 d.lo),.p (.int .u8 d.hi),.p (.int .i32 d.v)]
def zmS(s:List UInt8)(r:Nat×Dk×List Int):St:=
 {n:=31,nv:=9,vs:=[(0,.p (.str s)),(2,.os [2] 1 []),(3,.lp [3] 0),(4,.os [4] 1 (zP r.2.2)),(10,.p (.sl 1 (yQ s))),(11,.p (.int .i64 s.length)),(12,.p (.int .i64 r.1))],ts:=[],rs:=[([3],dkC r.2.1)],ex:=[10,11,12]}
theorem zhf [Gi](s:List UInt8)(hs:s.length≤100000):CR Tryz.prog 85 [] [.p (.str s)] [] (is (.p (zE (QG dz (nb s))))):=by
 refine uA 9 [10,11,12] Tryz.func85 rfl rfl (by simp) (by simp) ?_
 refine Ql.seq (D:=[]) mixed (by kernel_rfl) ?_
 simp (maxSteps:=1000000) [go_sem]
 refine Ql.seq (D:=[]) mixed (by kernel_rfl) ?_
 simp (maxSteps:=1000000) [go_sem]
 refine Ql.seq (D:=[]) mixed (by kernel_rfl) ?_
 simp (maxSteps:=1000000) [go_sem]
 have bl:(yQ s).length=s.length:=by simp[yQ]
 refine Ql.zew fun E=>zV.jI (D:=[]) mixed (by kernel_rfl) ?_
 simp (maxSteps:=1000000) [go_sem,bl]
 refine zV.block ?_
 refine zV.loop (DcI s) (zmS s) (fun r=>s.length-r.1) (0,dz,[]) ⟨Nat.zero_le _,DkI.z,by simp,by simp⟩ (by simp[go_sem,LeS,leV,leR,leA,leL,zmS,dkC,dz,zP]) (fun r hr=>?_)
 obtain⟨i,d,out⟩:=r
 obtain⟨p1,p2,p3,p4⟩:=hr
 simp only at p1 p2 p3 p4
 refine zV.jI (D:=[]) mixed (by kernel_rfl) ?_
 simp (maxSteps:=1000000) [go_sem,zmS,dkC]
 by_cases hil:i<s.length
 ·have em:elemAt (yQ s) i=.int .u8 (s[i].toNat:Nat):=by
   unfold yQ
   rw[zp _ s i hil]
  have hb:s[i].toNat<256:=s[i].toNat_lt
  have dr:(nb s).drop i=s[i].toNat::(nb s).drop (i+1):=by
   unfold nb
   rw[List.drop_eq_getElem_cons (by simpa using hil)]
   simp
  rw[dr,Ua]at p3
  generalize s[i].toNat=b at em hb p3
  have fc:=zl9 d p2.ok b hb
  have q1:=p2.feed b hb
  have q2:=zdi d b
  generalize Z8 d b=q at p3 fc q1 q2
  obtain⟨d',l⟩:=q
  simp only at p3 q1 q2
  unfold dkV at fc
  simp only at fc
  have w1:IntKind.i64.wrap ((i:Int)+1)=((i+1:Nat):Int):=zG (by omega)
  refine zV.jI (D:=[]) mixed (by kernel_rfl) ?_
  simp (maxSteps:=1000000) [go_sem,hil]
  refine zV.seq (zV.block ?_)
  refine zV.jI (D:=[]) mixed (by kernel_rfl) ?_
  simp (maxSteps:=1000000) [go_sem,em,bl,hil]
  refine zV.jI (D:=[]) mixed (by kernel_rfl) ?_
  simp (maxSteps:=1000000) [go_sem]
  refine zq fc ?_
  simp (maxSteps:=1000000) [go_sem]
  refine zV.tree mixed zjo (by kernel_rfl) ?_
  have hb4:(out.length+l.length)*4≤140737488355328:=by omega
  have ei:zP out++zP l=zP (out++l):=by simp[zP]
  simp (maxSteps:=1000000) [go_sem,zjo,hb4,ei]
  repeat'(first|exact True.intro|apply And.intro)
  all_goals
   refine zV.Qb (D:=[]) mixed (by kernel_rfl) ?_
   simp (maxSteps:=1000000) [go_sem,w1]
   exact Ww (i+1,d',out++l) ⟨hil,q1,by simpa[List.append_assoc]using p3,by simp only[List.length_append];omega⟩ (by simp[go_sem,LeS,leV,leR,leA,leL,zmS,dkC]) (by show s.length- (i+1)<s.length-i;omega)
 ·obtain rfl:i=s.length:=by omega
  refine zV.jI (D:=[]) mixed (by kernel_rfl) ?_
  simp (maxSteps:=1000000) [go_sem]
  have ed:(nb s).drop s.length=[]:=List.drop_eq_nil_of_le (by simp[nb])
  rw[ed]at p3
  have ec:=zov d
  have el:(QG d []).length≤1:=by unfold QG;split<;>simp
  generalize QG d []=l at p3 ec el
  have ei:zP out++zP l=zP (out++l):=by simp[zP]
  rw[p3]at ei
  refine Ql.Qb (D:=[]) mixed (by kernel_rfl) ?_
  unfold dkV at ec
  simp (maxSteps:=1000000) [go_sem]
  refine zq ec ?_
  simp (maxSteps:=1000000) [go_sem,ei]
  refine⟨by omega,?_⟩
  exact ret (hx:=by simp[go_sem,zf,leA,leT])
theorem xw(s:List UInt8):(nb s).length=s.length:=by simp[nb]
theorem zqr(s:List UInt8):∀b∈nb s,b<256:=fun b hb=>by
 obtain⟨c,_,rfl⟩:=List.mem_map.1 hb
 exact c.toNat_lt
theorem vF(s:List UInt8)(i:Nat):u4 s i=(((nb s).getD i 0:Nat):Int):=by
 unfold u4 nb
 simp only[List.getD_eq_getElem?_getD,List.getElem?_map]
 cases s[i]?<;>rfl
theorem getD_lt(s:List UInt8)(i:Nat):(nb s).getD i 0<256:=by
 rw[List.getD_eq_getElem?_getD]
 cases h:(nb s)[i]? with
 |none=>decide
 |some b=>exact zqr s b (List.mem_of_getElem? h)
theorem zqi(c:Nat):((c:Int)<128)↔c<128:=by omega
theorem zpL(c:Nat):((c:Int)<224)↔c<224:=by omega
theorem zpG(c:Nat):((c:Int)<240)↔c<240:=by omega
theorem zpI(c:Nat):((194:Int)≤c)↔194≤c:=by omega
theorem zpX(c:Nat):((160:Int)≤c)↔160≤c:=by omega
theorem zqv(c:Nat):((128:Int)≤c)↔128≤c:=by omega
theorem zpM(c:Nat):((144:Int)≤c)↔144≤c:=by omega
theorem zp7(c:Nat):((c:Int)≤244)↔c≤244:=by omega
theorem zpS(c:Nat):((c:Int)≤191)↔c≤191:=by omega
theorem zqo(c:Nat):((c:Int)≤159)↔c≤159:=by omega
theorem zqC(c:Nat):((c:Int)≤143)↔c≤143:=by omega
theorem zpE(c:Nat):((c:Int)=224)↔c=224:=by omega
theorem zqk(c:Nat):((c:Int)=237)↔c=237:=by omega
theorem zp2(c:Nat):((c:Int)=240)↔c=240:=by omega
theorem zqj(c:Nat):((c:Int)=244)↔c=244:=by omega
theorem je1(c:Nat):((c:Int)=1)↔c=1:=by omega
theorem je0(c:Nat):((c:Int)=0)↔c=0:=by omega
attribute [local go_sem] zqi zpL zpG zpI zpX zqv zpM zp7 zpS zqo zqC zpE zqk zp2 zqj je1 je0
theorem zmX [Gi](c:Nat):CR Tryz.prog 184 [] [.p (.int .u8 c)] [] (is (.p (.int .i64 (Z2 c:Nat)))):=by
 refine walk Tryz.func184 3 [] [] [] ?_
 unfold Z2
 by_cases h1:c<128
 ·simp (maxSteps:=1000000) [go_sem,Tryz.f184,h1]
  exact ret
 ·by_cases h2:c<224
  ·simp (maxSteps:=1000000) [go_sem,Tryz.f184,h1,h2]
   exact ret
  ·by_cases h3:c<240
   ·simp (maxSteps:=1000000) [go_sem,Tryz.f184,h1,h2,h3]
    exact ret
   ·simp (maxSteps:=1000000) [go_sem,Tryz.f184,h1,h2,h3]
    exact ret
theorem zoT [Gi](s:List UInt8)(i:Nat)(hi:i<s.length):CR Tryz.prog 185 [] [.p (.str s),.p (.int .i64 i)] [] (is (.p (.bool (Xp ((nb s).getD 0 0) ((nb s).getD i 0) i)))):=by
 refine walk Tryz.func185 7 [] [1] [] ?_
 have e0:=vF s 0
 have ei:=vF s i
 generalize (nb s).getD 0 0=c at e0
 generalize (nb s).getD i 0=b at ei
 have h0:0<s.length:=by omega
 unfold Xp
 by_cases i0:i=0
 ·subst i0
  simp (maxSteps:=1000000) [go_sem,Tryz.f185,e0,h0]
  first|exact ret|exact⟨by omega,ret⟩|exact⟨by simp+contextual,ret⟩
 ·by_cases i1:i=1
  ·subst i1
   by_cases c1:c=224
   ·subst c1
    simp (maxSteps:=1000000) [go_sem,Tryz.f185,e0,ei,h0]
    first|exact ret|exact⟨by omega,ret⟩|exact⟨by simp+contextual,ret⟩
   ·by_cases c2:c=237
    ·subst c2
     simp (maxSteps:=1000000) [go_sem,Tryz.f185,e0,ei,h0]
     first|exact ret|exact⟨by omega,ret⟩|exact⟨by simp+contextual,ret⟩
    ·by_cases c3:c=240
     ·subst c3
      simp (maxSteps:=1000000) [go_sem,Tryz.f185,e0,ei,h0]
      first|exact ret|exact⟨by omega,ret⟩|exact⟨by simp+contextual,ret⟩
     ·by_cases c4:c=244
      ·subst c4
       simp (maxSteps:=1000000) [go_sem,Tryz.f185,e0,ei,h0]
       first|exact ret|exact⟨by omega,ret⟩|exact⟨by simp+contextual,ret⟩
      ·have d1:¬(c:Int)=224:=by omega
       have d2:¬(c:Int)=237:=by omega
       have d3:¬(c:Int)=240:=by omega
       have d4:¬(c:Int)=244:=by omega
       simp (maxSteps:=1000000) [go_sem,Tryz.f185,e0,ei,h0,c1,c2,c3,c4,d1,d2,d3,d4]
       first|exact ret|exact⟨by omega,ret⟩|exact⟨by simp+contextual,ret⟩
  ·have j0:¬(i:Int)=0:=by omega
   have j1:¬(i:Int)=1:=by omega
   simp (maxSteps:=1000000) [go_sem,Tryz.f185,e0,ei,h0,hi,i0,i1,j1]
   first|exact ret|exact⟨by omega,ret⟩|exact⟨by simp+contextual,ret⟩
theorem yV(s:List Nat)(n f:Nat):ya s n (f+1)=if n<s.length∧n<Z2 (s.getD 0 0)∧Xp (s.getD 0 0) (s.getD n 0) n=true then ya s (n+1) f else n:=rfl
theorem zkL(c:Nat):Z2 c≤4:=by unfold Z2;split<;>(try split)<;>(try split)<;>omega
theorem zd8:∀(f:Nat) (s:List Nat) (n:Nat),n≤ya s n f∧ya s n f≤n+f
 |0,s,n=>by simp[ya]
 |f+1,s,n=>by
  rw[yV]
  have:=zd8 f s (n+1)
  split<;>omega
theorem Xy:∀(f:Nat) (s:List Nat) (n:Nat),n≤s.length→ya s n f≤s.length
 |0,s,n,h=>by simpa[ya]using h
 |f+1,s,n,h=>by
  rw[yV]
  split
  ·rename_i q;exact Xy f s (n+1) q.1
  ·exact h
theorem zoQ [Gi](s:List UInt8)(h0:0<s.length)(_:s.length<2^47):CR Tryz.prog 130 [] [.p (.str s)] [] (is (.tup [.p (.int .i64 (kW (nb s):Nat)),.p (.bool (Qo (nb s)))])):=by
 refine walk Tryz.func130 5 [] [] [] ?_
 have hlong:=zmX ((nb s).getD 0 0)
 have hl4:=zkL ((nb s).getD 0 0)
 have e0:=vF s 0
 obtain⟨N,hN⟩:∃N,N=kW (nb s):=⟨_,rfl⟩
 unfold Qo
 rw[←hN]
 have hm:=fun n (h:n<s.length)=>zoT s n h
 generalize hcd:(nb s).getD 0 0=c at*
 simp (maxSteps:=1000000) [go_sem,Tryz.f130]
 refine zha 0 (fun n:Nat=>n=N∧n≤4) (fun n=>[(4,.p (.int .i64 n))]) (fun _=>[]) ?_ ?_
 ·refine loop (fun n:Nat=>n≤4∧N=ya (nb s) n (4-n)) (fun n=>[(4,.p (.int .i64 n))]) (fun _=>[]) (fun n=>4-n) 0 ⟨by omega,hN⟩ (fun n hi=>?_)
  obtain⟨h1,h2⟩:=hi
  by_cases c1:n<s.length
  ·have hm:=hm n c1
   by_cases c2:n<Z2 c
   ·obtain⟨f,hf⟩:∃f,4-n=f+1:=⟨4-n-1,by omega⟩
    rw[hf,yV,xw,hcd]at h2
    simp (maxSteps:=1000000) [go_sem,c1,e0,h0]
    refine zq hlong ?_
    simp (maxSteps:=1000000) [go_sem,c2]
    refine zq hm ?_
    cases hv:Xp c ((nb s).getD n 0) n with
    |true=>
     rw[hv,if_pos ⟨c1,c2,rfl⟩]at h2
     have w1:IntKind.i64.wrap ((n:Int)+1)=((n+1:Nat):Int):=zG (by omega)
     simp (maxSteps:=1000000) [go_sem,w1]
     exact next (n+1) ⟨by omega,by rw[h2];congr 1;omega⟩ (h3:=by show 4- (n+1)<4-n;omega)
    |false=>
     rw[hv,if_neg (fun q=>by cases q.2.2)]at h2
     simp (maxSteps:=1000000) [go_sem]
     exact Yf n ⟨h2.symm,h1⟩ (by simp[go_sem])
   ·have h3:N=n:=by
     rw[h2]
     cases hq:4-n with
     |zero=>rfl
     |succ f=>rw[yV,hcd,if_neg (fun q=>c2 q.2.1)]
    simp (maxSteps:=1000000) [go_sem,c1,e0,h0]
    refine zq hlong ?_
    simp (maxSteps:=1000000) [go_sem,c2]
    exact Yf n ⟨h3.symm,h1⟩ (by simp[go_sem])
  ·have h3:N=n:=by
    rw[h2]
    cases hq:4-n with
    |zero=>rfl
    |succ f=>rw[yV,xw,if_neg (fun q=>c1 q.1)]
   simp (maxSteps:=1000000) [go_sem,c1]
   exact Yf n ⟨h3.symm,h1⟩ (by simp[go_sem])
 ·rintro n ts ⟨rfl,h4⟩
  by_cases hp:0<n
  ·simp (maxSteps:=1000000) [go_sem,hp,e0,h0]
   refine zq hlong ?_
   simp (maxSteps:=1000000) [go_sem]
   exact ret (hx:=by simp[go_sem,zf,leA,leT,leP];omega)
  ·obtain rfl:n=0:=by omega
   simp (maxSteps:=1000000) [go_sem]
   exact ret
end
end Go.Proofs.YtfjdbbpimklecaaGreatDoor
