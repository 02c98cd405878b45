/- A part of the proof of this seat's statements, by an abstract machine: what each operation does to values, and what the law's functions compute. Conditions: as each law says. -/
import Derived.Test.YthbmelihnabkaaaGreatW34
import Derived.Test.YthbmelihnabkaaaGreatChecked
import Derived.KernelRfl
import Derived.WalkKit
import Derived.Shelf.Spec.SlicesInsert
import Derived.Lib.AppendZerosOnto
import Derived.Laws.NewBlocks
import Derived.Test.YthbmelihnabkaaaGreatW16
import Derived.Laws.IdiomCopy
import Derived.Test.YthbmelihnabkaaaGreatW18
section
namespace Go.Proofs.YthbmelihnabkaaaGreat
open Go.AM
set_option maxHeartbeats 4000000
set_option maxRecDepth 10000
theorem Ze(a b:List Int):zo (a++b)=zo a++zo b:=by simp[zo]
theorem qD(x:Int):zo [x]=[.p (.int .i32 x)]:=rfl
def mk2(m:List (Zd×Int))(a b:Int):Option Int:=(yz a b).or (if b=0 then none else mkB m ⟨a,b⟩)
def Yc(x:Option Int):AV:=.tup [.p (.int .i32 (qY x)),.p (.bool x.isSome)]
theorem zdu [Gi](c b j f p:PV)(m:List (Zd×Int))(sk sx:List PV)(x y:Int):CR Tryz.prog 161 [] [.p (zF c b j f p (ckP m) (cxP m) sk sx),.p (.int .i32 x),.p (.int .i32 y)] [] (is (Yc (mk2 m x y))):=by
 refine zn mixed 11 [] Tryz.func161 rfl (by kernel_rfl) rfl (by simp) (by simp) ?_
 simp (maxSteps:=1000000) [go_sem,Tryz.f161,zF]
 refine⟨⟨rfl,by simp[Tryz.f191]⟩,zc [] (zkE x y) (by simp[go_sem]) ⟨by simp[go_sem],by simp[go_sem]⟩ (by simp[go_sem]) ?_⟩
 rintro _ rs ⟨rfl,rfl⟩
 cases hj:yz x y with
 |some z=>
  have e:mk2 m x y=some z:=by unfold mk2;rw[hj];rfl
  rw[e]
  simp (maxSteps:=1000000) [go_sem,Jy]
  exact zg (Yc (some z)) rfl (by simp[go_sem,zd,leA,leT,leP,Yc,qY]) ⟨rfl,rfl⟩
 |none=>
  have e:mk2 m x y=if y=0 then none else mkB m ⟨x,y⟩:=by unfold mk2;rw[hj];rfl
  rw[e]
  simp (maxSteps:=1000000) [go_sem,Jy]
  refine⟨⟨rfl,by simp[Tryz.f192]⟩,zc [] (ze3 c b j f p m sk sx x y) (by simp[go_sem]) ⟨by simp[go_sem],by simp[go_sem,zF]⟩ (by simp[go_sem]) ?_⟩
  rintro _ rs ⟨rfl,rfl⟩
  cases (if y=0 then none else mkB m ⟨x,y⟩)with
  |none=>
   simp (maxSteps:=1000000) [go_sem,YG]
   exact zg (Yc none) rfl (by simp[go_sem,zd,leA,leT,leP,Yc,qY]) ⟨rfl,rfl⟩
  |some z=>
   simp (maxSteps:=1000000) [go_sem,YG]
   exact zg (Yc (some z)) rfl (by simp[go_sem,zd,leA,leT,leP,Yc,qY]) ⟨rfl,rfl⟩
structure Cst where
 o:List Int
 s:Int
 l:Int
def ZT(k:Int→Int)(z:Cst)(r:Int):Cst:=⟨z.o++[r],if k r=0 then z.o.length else z.s,k r⟩
def zaB(k:Int→Int)(z:Cst)(r:Int):Prop:=0≤z.s∧(z.s=z.o.length-1∨(z.l≠0∧z.l<k r))
instance (k:Int→Int)(z:Cst)(r:Int):Decidable (zaB k z r):=by unfold zaB;infer_instance
def yx(k:Int→Int)(mk:Int→Int→Option Int)(z:Cst)(r:Int):Cst:=
 if zaB k z r then match mk (z.o[z.s.toNat]?.getD 0) r with
  |some c=>⟨z.o.set z.s.toNat c,z.s,z.l⟩
  |none=>ZT k z r
 else ZT k z r
def ZE(k:Int→Int)(mk:Int→Int→Option Int)(l:List Int):Cst:=l.foldl (yx k mk) ⟨[], -1,0⟩
theorem Yl(k:Int→Int)(mk:Int→Int→Option Int)(l:List Int)(x:Int):ZE k mk (l++[x])=yx k mk (ZE k mk l) x:=by simp[ZE,List.foldl_append]
structure W9(z:Cst)(n:Nat):Prop where
 lo: -1≤z.s
 hi:z.s<z.o.length
 nn:z.o.length≤n
 ne:0<n→z.o≠ []
theorem W9.push {z:Cst} {n:Nat}(h:W9 z n)(k:Int→Int)(r:Int):W9 (ZT k z r) (n+1):=by
 obtain⟨h1,h2,h3,h4⟩:=h
 refine⟨?_,?_,by simp[ZT];omega,by simp[ZT]⟩
 ·unfold ZT;simp only;split<;>omega
 ·unfold ZT;simp only[List.length_append,List.length_singleton];split<;>omega
theorem W9.step {z:Cst} {n:Nat}(h:W9 z n)(k:Int→Int)(mk:Int→Int→Option Int)(r:Int):W9 (yx k mk z r) (n+1):=by
 unfold yx
 split
 ·rename_i hf
  split
  ·obtain⟨h1,h2,h3,h4⟩:=h
   have:=hf.1
   refine⟨h1,by simp;omega,by simp;omega,fun _ e=>?_⟩
   have:=congrArg List.length e
   rw[List.length_set,List.length_nil]at this
   omega
  ·exact h.push k r
 ·exact h.push k r
theorem zde(k:Int→Int)(mk:Int→Int→Option Int)(l:List Int):W9 (ZE k mk l) l.length:=by
 suffices H:∀(l':List Int) (z:Cst) (n:Nat),W9 z n→W9 (l'.foldl (yx k mk) z) (n+l'.length) by
  have:=H l ⟨[], -1,0⟩ 0 ⟨by simp,by simp,by simp,by simp⟩
  simpa[ZE]using this
 intro l'
 induction l' with
 |nil=>intro z n h;simpa using h
 |cons x l' ih=>
  intro z n h
  have:=ih _ _ (h.step k mk x)
  simpa[Nat.add_assoc,Nat.add_comm 1]using this
def zbM(o:List Int):AV:=if o=[]then .p (.opq (.slice none 0 0))else .la [64] 1 0 o.length
def zbR(o:List Int):List (Tok×List AV):=if o=[]then []else [([64],zo o)]
theorem zbp [Gi] {t:zR} {c b j f p:PV}(h:jo t c b j f p)(hz:Qq t)(m:List (Zd×Int))(sk sx:List PV)(l:List Int)(hl0:l≠ [])(hn:l.length<2^31)(hr:∀x∈l,zu x):
  CR Tryz.prog 115 [] [.p (zF c b j f p (ckP m) (cxP m) sk sx),.p (zh l)] [] (fun x rs=>x=.la [64] 1 0 (ZE (zK t) (mk2 m) l).o.length∧rs=[([64],zo (ZE (zK t) (mk2 m) l).o)]):=by
 refine qQ [] mixed 14 [14,15,16] Tryz.func115 rfl (by kernel_rfl) [5,64] rfl (by simp) (by simp) ?_
 simp (maxSteps:=1000000) [go_sem,Tryz.f115,zh,zC,zF]
 refine zm (fun i:Nat=>i≤l.length) (fun i=>[(16,.p (.int .i64 (i:Nat))),(5,zbM (ZE (zK t) (mk2 m) (l.take i)).o),(6,.p (.int .i64 (ZE (zK t) (mk2 m) (l.take i)).s)),(7,.p (.int .i64 (ZE (zK t) (mk2 m) (l.take i)).l)),(9,.zU),(10,.zU),(11,.zU),(12,.zU),(13,.zU)]) (fun i=>zbR (ZE (zK t) (mk2 m) (l.take i)).o) (fun i=>l.length-i) 0 (by omega)
  (by simp[go_sem,LeS,leV,leR,leA,ZE,zbM,zbR]) (fun i hi=>?_)
 have hok:=zde (zK t) (mk2 m) (l.take i)
 have hlt:(l.take i).length=i:=by rw[List.length_take];omega
 rw[hlt]at hok
 by_cases hil:i<l.length
 ·obtain⟨x,hx⟩:∃x,l[i]=x:=⟨_,rfl⟩
  have hxr:zu x:=hr x (by rw[←hx];exact List.getElem_mem _)
  have em:elemAt (zr l) i=.int .i32 x:=by rw[zr,zt (fun r=>PV.int .i32 r) l i hil,hx]
  have htk:l.take (i+1)=l.take i++[x]:=by rw[List.take_add_one,List.getElem?_eq_getElem hil,hx];rfl
  have hnx:ZE (zK t) (mk2 m) (l.take (i+1))=yx (zK t) (mk2 m) (ZE (zK t) (mk2 m) (l.take i)) x:=by rw[htk,Yl]
  have w1:IntKind.i64.wrap ((i:Int)+1)=((i+1:Nat):Int):=zN (by omega)
  have hil':(i:Int)<l.length:=by omega
  have w0:IntKind.i64.wrap 1=1:=wrap64 (by omega) (by omega)
  generalize ZE (zK t) (mk2 m) (l.take i)=z at hok hnx
  obtain⟨o,s,la⟩:=z
  obtain⟨k1,k2,k3,k4⟩:=hok
  simp only at k1 k2 k3 k4
  obtain⟨cl,hcl⟩:∃cl,cl=zK t x:=⟨_,rfl⟩
  have hcl':t.cls (rn x)=cl:=hcl.symm
  by_cases hi0:i=0
  ·subst hi0
   have ho:o=[]:=by cases o with
    |nil=>rfl
    |cons y o=>simp at k3
   subst ho
   have hs:s= -1:=by simp at k2;omega
   subst hs
   have hf:yx (zK t) (mk2 m) ⟨[], -1,la⟩ x=ZT (zK t) ⟨[], -1,la⟩ x:=if_neg (fun hh=>by have:=hh.1;simp at this)
   simp (maxSteps:=1000000) [go_sem,zbM,zbR,hil,em,zC]
   refine⟨⟨rfl,by simp[Tryz.f105]⟩,zc [] (Z4 h (ckP m) (cxP m) sk sx hz hxr) (by simp[go_sem]) ⟨by simp[go_sem],by simp[go_sem,zF]⟩ (by simp[go_sem]) ?_⟩
   rintro _ rs ⟨rfl,rfl⟩
   rw[hcl']
   by_cases hc0:cl=0
   ·have e2:ZE (zK t) (mk2 m) (l.take (0+1))=⟨[x],0,0⟩:=by rw[hnx,hf];simp[ZT,←hcl,hc0]
    simp (maxSteps:=1000000) [go_sem,hc0]
    exact zf 1 (by omega) (by simp[go_sem,LeS,leV,leR,leA,leL,e2,qD,w0]) (by omega)
   ·have e2:ZE (zK t) (mk2 m) (l.take (0+1))=⟨[x], -1,cl⟩:=by rw[hnx,hf];simp[ZT,←hcl,hc0]
    simp (maxSteps:=1000000) [go_sem,hc0]
    exact zf 1 (by omega) (by simp[go_sem,LeS,leV,leR,leA,leL,e2,qD,w0]) (by omega)
  ·have hne:o≠ []:=k4 (by omega)
   have hol:0<o.length:=List.length_pos_iff.2 hne
   obtain⟨n,hno⟩:∃n,n=o.length:=⟨_,rfl⟩
   have wl:IntKind.i64.wrap ((o.length:Int)-1)=(o.length:Int)-1:=wrap64 (by omega) (by omega)
   by_cases hs0:0≤s
   ·by_cases hs1:s=o.length-1
    ·have hs1x:((o.length:Int)-1:Int)=s:=hs1.symm
     have hf:yx (zK t) (mk2 m) ⟨o,s,la⟩ x=match mk2 m (o[s.toNat]?.getD 0) x with|some c=>⟨o.set s.toNat c,s,la⟩|none=>ZT (zK t) ⟨o,s,la⟩ x:=if_pos ⟨hs0,.inl hs1⟩
     have hsl:s.toNat<o.length:=by omega
     have gy:=Zw (List.getElem?_eq_getElem hsl)
     have hgd:o[s.toNat]?.getD 0=o[s.toNat]:=by rw[List.getElem?_eq_getElem hsl];rfl
     rw[hgd]at hf
     have hput:∀v,(zo o).take s.toNat++AV.p (.int .i32 v)::(zo o).drop (s.toNat+1)=zo (o.set s.toNat v):=fun v=>qU v hsl
     generalize o[s.toNat]=y at gy hf
     have gy2:∀hh,(zo o)[s.toNat]'hh=.p (.int .i32 y):=fun hh=>by
      have:=gy
      rw[List.getElem?_eq_getElem hh]at this
      injection this
     have ws:IntKind.i64.wrap s=s:=wrap64 (by omega) (by omega)
     have hsn:s<o.length:=k2
     simp (maxSteps:=1000000) [go_sem,zbM,zbR,hne,hil',em,zC]
     refine⟨⟨rfl,by simp[Tryz.f105]⟩,zc [] (Z4 h (ckP m) (cxP m) sk sx hz hxr) (by simp[go_sem]) ⟨by simp[go_sem],by simp[go_sem,zF]⟩ (by simp[go_sem]) ?_⟩
     rintro _ rs ⟨rfl,rfl⟩
     rw[hcl']
     simp (maxSteps:=1000000) [go_sem,hs1x,hs0,gy2,hsn,ws]
     refine⟨⟨rfl,by simp[Tryz.f161]⟩,zc [] (zdu c b j f p m sk sx y x) (by simp[go_sem]) ⟨by simp[go_sem],by simp[go_sem,zF]⟩ (by simp[go_sem]) ?_⟩
     rintro _ rs ⟨rfl,rfl⟩
     cases hmk:mk2 m y x with
     |some q=>
      have e2:ZE (zK t) (mk2 m) (l.take (i+1))=⟨o.set s.toNat q,s,la⟩:=by rw[hnx,hf,hmk]
      have hp:=hput q
      have hne2:o.set s.toNat q≠ []:=fun e=>by have:=congrArg List.length e;rw[List.length_set,List.length_nil]at this;omega
      simp (maxSteps:=1000000) [go_sem,Yc,qY,hs0,hsn,hp,w1,WQ]
      exact⟨by omega,zf (i+1) (by omega) (by simp[go_sem,LeS,leV,leR,leA,e2,hne2,zj]) (by omega)⟩
     |none=>
      have hf2:yx (zK t) (mk2 m) ⟨o,s,la⟩ x=ZT (zK t) ⟨o,s,la⟩ x:=by rw[hf,hmk]
      simp (maxSteps:=1000000) [go_sem,Yc,qY]
      by_cases hc0:cl=0
      ·have e2:ZE (zK t) (mk2 m) (l.take (i+1))=⟨o++[x],(o.length:Int),0⟩:=by rw[hnx,hf2];simp[ZT,←hcl,hc0]
       simp (maxSteps:=1000000) [go_sem,hc0,w1]
       exact⟨by omega,zf (i+1) (by omega) (by simp[go_sem,LeS,leV,leR,leA,e2,Ze,qD,zj]) (by omega)⟩
      ·have e2:ZE (zK t) (mk2 m) (l.take (i+1))=⟨o++[x],s,cl⟩:=by rw[hnx,hf2];simp[ZT,←hcl,hc0]
       simp (maxSteps:=1000000) [go_sem,hc0,w1]
       exact⟨by omega,zf (i+1) (by omega) (by simp[go_sem,LeS,leV,leR,leA,e2,Ze,qD,zj]) (by omega)⟩
    ·by_cases hl1:la=0
     ·skip
      have hf:yx (zK t) (mk2 m) ⟨o,s,la⟩ x=ZT (zK t) ⟨o,s,la⟩ x:=if_neg (fun hh=>hh.2.elim hs1 (fun h2=>h2.1 hl1))
      simp (maxSteps:=1000000) [go_sem,zbM,zbR,hne,hil',em,zC]
      refine⟨⟨rfl,by simp[Tryz.f105]⟩,zc [] (Z4 h (ckP m) (cxP m) sk sx hz hxr) (by simp[go_sem]) ⟨by simp[go_sem],by simp[go_sem,zF]⟩ (by simp[go_sem]) ?_⟩
      rintro _ rs ⟨rfl,rfl⟩
      rw[hcl']
      simp (maxSteps:=1000000) [go_sem,hs0,hs1,hl1,wl]
      by_cases hc0:cl=0
      ·have e2:ZE (zK t) (mk2 m) (l.take (i+1))=⟨o++[x],(o.length:Int),0⟩:=by rw[hnx,hf];simp[ZT,←hcl,hc0]
       simp (maxSteps:=1000000) [go_sem,hc0,w1]
       exact⟨by omega,zf (i+1) (by omega) (by simp[go_sem,LeS,leV,leR,leA,e2,Ze,qD,zj]) (by omega)⟩
      ·have e2:ZE (zK t) (mk2 m) (l.take (i+1))=⟨o++[x],s,cl⟩:=by rw[hnx,hf];simp[ZT,←hcl,hc0]
       simp (maxSteps:=1000000) [go_sem,hc0,w1]
       exact⟨by omega,zf (i+1) (by omega) (by simp[go_sem,LeS,leV,leR,leA,e2,Ze,qD,zj]) (by omega)⟩
     ·by_cases hl2:la<cl
      ·skip
       have hf:yx (zK t) (mk2 m) ⟨o,s,la⟩ x=match mk2 m (o[s.toNat]?.getD 0) x with|some c=>⟨o.set s.toNat c,s,la⟩|none=>ZT (zK t) ⟨o,s,la⟩ x:=if_pos ⟨hs0,.inr ⟨hl1,by rw[←hcl];exact hl2⟩⟩
       have hsl:s.toNat<o.length:=by omega
       have gy:=Zw (List.getElem?_eq_getElem hsl)
       have hgd:o[s.toNat]?.getD 0=o[s.toNat]:=by rw[List.getElem?_eq_getElem hsl];rfl
       rw[hgd]at hf
       have hput:∀v,(zo o).take s.toNat++AV.p (.int .i32 v)::(zo o).drop (s.toNat+1)=zo (o.set s.toNat v):=fun v=>qU v hsl
       generalize o[s.toNat]=y at gy hf
       have gy2:∀hh,(zo o)[s.toNat]'hh=.p (.int .i32 y):=fun hh=>by
        have:=gy
        rw[List.getElem?_eq_getElem hh]at this
        injection this
       have ws:IntKind.i64.wrap s=s:=wrap64 (by omega) (by omega)
       have hsn:s<o.length:=k2
       simp (maxSteps:=1000000) [go_sem,zbM,zbR,hne,hil',em,zC]
       refine⟨⟨rfl,by simp[Tryz.f105]⟩,zc [] (Z4 h (ckP m) (cxP m) sk sx hz hxr) (by simp[go_sem]) ⟨by simp[go_sem],by simp[go_sem,zF]⟩ (by simp[go_sem]) ?_⟩
       rintro _ rs ⟨rfl,rfl⟩
       rw[hcl']
       simp (maxSteps:=1000000) [go_sem,hs1,hl1,hl2,hs0,gy2,hsn,wl]
       refine⟨⟨rfl,by simp[Tryz.f161]⟩,zc [] (zdu c b j f p m sk sx y x) (by simp[go_sem]) ⟨by simp[go_sem],by simp[go_sem,zF]⟩ (by simp[go_sem]) ?_⟩
       rintro _ rs ⟨rfl,rfl⟩
       cases hmk:mk2 m y x with
       |some q=>
        have e2:ZE (zK t) (mk2 m) (l.take (i+1))=⟨o.set s.toNat q,s,la⟩:=by rw[hnx,hf,hmk]
        have hp:=hput q
        have hne2:o.set s.toNat q≠ []:=fun e=>by have:=congrArg List.length e;rw[List.length_set,List.length_nil]at this;omega
        simp (maxSteps:=1000000) [go_sem,Yc,qY,hs0,hsn,hp,w1,WQ]
        exact⟨by omega,zf (i+1) (by omega) (by simp[go_sem,LeS,leV,leR,leA,e2,hne2,zj]) (by omega)⟩
       |none=>
        have hf2:yx (zK t) (mk2 m) ⟨o,s,la⟩ x=ZT (zK t) ⟨o,s,la⟩ x:=by rw[hf,hmk]
        simp (maxSteps:=1000000) [go_sem,Yc,qY]
        by_cases hc0:cl=0
        ·have e2:ZE (zK t) (mk2 m) (l.take (i+1))=⟨o++[x],(o.length:Int),0⟩:=by rw[hnx,hf2];simp[ZT,←hcl,hc0]
         simp (maxSteps:=1000000) [go_sem,hc0,w1]
         exact⟨by omega,zf (i+1) (by omega) (by simp[go_sem,LeS,leV,leR,leA,e2,Ze,qD,zj]) (by omega)⟩
        ·have e2:ZE (zK t) (mk2 m) (l.take (i+1))=⟨o++[x],s,cl⟩:=by rw[hnx,hf2];simp[ZT,←hcl,hc0]
         simp (maxSteps:=1000000) [go_sem,hc0,w1]
         exact⟨by omega,zf (i+1) (by omega) (by simp[go_sem,LeS,leV,leR,leA,e2,Ze,qD,zj]) (by omega)⟩
      ·skip
       have hf:yx (zK t) (mk2 m) ⟨o,s,la⟩ x=ZT (zK t) ⟨o,s,la⟩ x:=if_neg (fun hh=>hh.2.elim hs1 (fun h2=>hl2 (by rw[hcl];exact h2.2)))
       simp (maxSteps:=1000000) [go_sem,zbM,zbR,hne,hil',em,zC]
       refine⟨⟨rfl,by simp[Tryz.f105]⟩,zc [] (Z4 h (ckP m) (cxP m) sk sx hz hxr) (by simp[go_sem]) ⟨by simp[go_sem],by simp[go_sem,zF]⟩ (by simp[go_sem]) ?_⟩
       rintro _ rs ⟨rfl,rfl⟩
       rw[hcl']
       simp (maxSteps:=1000000) [go_sem,hs0,hs1,hl1,hl2,wl]
       by_cases hc0:cl=0
       ·have e2:ZE (zK t) (mk2 m) (l.take (i+1))=⟨o++[x],(o.length:Int),0⟩:=by rw[hnx,hf];simp[ZT,←hcl,hc0]
        simp (maxSteps:=1000000) [go_sem,hc0,w1]
        exact⟨by omega,zf (i+1) (by omega) (by simp[go_sem,LeS,leV,leR,leA,e2,Ze,qD,zj]) (by omega)⟩
       ·have e2:ZE (zK t) (mk2 m) (l.take (i+1))=⟨o++[x],s,cl⟩:=by rw[hnx,hf];simp[ZT,←hcl,hc0]
        simp (maxSteps:=1000000) [go_sem,hc0,w1]
        exact⟨by omega,zf (i+1) (by omega) (by simp[go_sem,LeS,leV,leR,leA,e2,Ze,qD,zj]) (by omega)⟩
   ·skip
    have hf:yx (zK t) (mk2 m) ⟨o,s,la⟩ x=ZT (zK t) ⟨o,s,la⟩ x:=if_neg (fun hh=>hs0 hh.1)
    simp (maxSteps:=1000000) [go_sem,zbM,zbR,hne,hil',em,zC]
    refine⟨⟨rfl,by simp[Tryz.f105]⟩,zc [] (Z4 h (ckP m) (cxP m) sk sx hz hxr) (by simp[go_sem]) ⟨by simp[go_sem],by simp[go_sem,zF]⟩ (by simp[go_sem]) ?_⟩
    rintro _ rs ⟨rfl,rfl⟩
    rw[hcl']
    simp (maxSteps:=1000000) [go_sem,hs0,wl]
    by_cases hc0:cl=0
    ·have e2:ZE (zK t) (mk2 m) (l.take (i+1))=⟨o++[x],(o.length:Int),0⟩:=by rw[hnx,hf];simp[ZT,←hcl,hc0]
     simp (maxSteps:=1000000) [go_sem,hc0,w1]
     exact⟨by omega,zf (i+1) (by omega) (by simp[go_sem,LeS,leV,leR,leA,e2,Ze,qD,zj]) (by omega)⟩
    ·have e2:ZE (zK t) (mk2 m) (l.take (i+1))=⟨o++[x],s,cl⟩:=by rw[hnx,hf];simp[ZT,←hcl,hc0]
     simp (maxSteps:=1000000) [go_sem,hc0,w1]
     exact⟨by omega,zf (i+1) (by omega) (by simp[go_sem,LeS,leV,leR,leA,e2,Ze,qD,zj]) (by omega)⟩
 ·have hil':¬(i:Int)<l.length:=by omega
  obtain rfl:i=l.length:=by omega
  rw[List.take_length]at hok⊢
  have hne:=hok.ne (List.length_pos_iff.2 hl0)
  generalize ZE (zK t) (mk2 m) l=z at hok hne
  obtain⟨o,s,la⟩:=z
  simp only at hne
  simp (maxSteps:=1000000) [go_sem,zbM,zbR,hne]
  exact zi [[64]] (.la [64] 1 0 o.length) ⟨rfl,by simp⟩ (by simp[go_sem,zd,leA,leT]) ⟨rfl,by simp[go_sem]⟩
def zi6(t:zR)(m:List (Zd×Int))(l:List Int):List Int:=(ZE (zK t) (mk2 m) l).o
theorem zdc [Gi] {t:zR} {c b j f p:PV}(h:jo t c b j f p)(hz:Qq t)(m:List (Zd×Int))(sk sx:List PV)(l:List Int)(hn:l.length<2^31)(hr:∀x∈l,zu x):
  CR Tryz.prog 115 [] [.p (zF c b j f p (ckP m) (cxP m) sk sx),.p (zh l)] [] (is (.p (zh (zi6 t m l)))):=by
 by_cases hl0:l=[]
 ·subst hl0
  refine qQ [] mixed 14 [14,15,16] Tryz.func115 rfl (by kernel_rfl) [5,64] rfl (by simp) (by simp) ?_
  simp (maxSteps:=1000000) [go_sem,Tryz.f115,zh,zC,zF]
  refine zm (fun _:Unit=>True) (fun _=>[]) (fun _=>[]) (fun _=>0) () trivial (by simp[go_sem,LeS,leV,leR,leA]) (fun _ _=>?_)
  simp (maxSteps:=1000000) [go_sem]
  exact zg (.p (.sl 1 [])) rfl (by simp[go_sem,zd,leA,leT]) ⟨rfl,rfl⟩
 ·have hok:=zde (zK t) (mk2 m) l
  exact CR.row (List.length_pos_iff.2 (hok.ne (List.length_pos_iff.2 hl0))) (zbp h hz m sk sx l hl0 hn hr)
def zkw(t:zR)(m:List (Zd×Int))(l:List Int):List Int:=zi6 t m (vM t l)
theorem zi7(t:zR)(l:List Int):(vM t l).length≤768*l.length:=by unfold vM;rw[Vk];exact WJ t l
theorem X1 {t:zR}(hP:VH t) {l:List Int}(hl:∀x∈l,zu x):∀x∈vM t l,zu x:=fun x hx=>by
 rcases UC _ _ hx with hx|hx
 ·simp at hx
 ·exact vX hP hl x hx
theorem zmt [Gi] {t:zR} {c b j f p:PV}(h:jo t c b j f p)(hz:Qq t)(hP:VH t)(m:List (Zd×Int))(sk sx:List PV)(l:List Int)(hn:l.length<2^20)(hr:∀x∈l,zu x):
  CR Tryz.prog 58 [] [.p (zF c b j f p (ckP m) (cxP m) sk sx),.p (zh l)] [] (is (.p (zh (zkw t m l)))):=by
 refine zn mixed 5 [] Tryz.func58 rfl (by kernel_rfl) rfl (by simp) (by simp) ?_
 have hl:=zi7 t l
 simp (maxSteps:=1000000) [go_sem,Tryz.f58,zh,zF]
 refine⟨⟨rfl,by simp[Tryz.f111]⟩,zc [] (zkn h hz hP (ckP m) (cxP m) sk sx l hn hr) (by simp[go_sem]) ⟨by simp[go_sem],by simp[go_sem,zF,zh]⟩ (by simp[go_sem]) ?_⟩
 rintro _ rs ⟨rfl,rfl⟩
 simp (maxSteps:=1000000) [go_sem,zh]
 refine⟨⟨rfl,by simp[Tryz.f115]⟩,zc [] (zdc h hz m sk sx (vM t l) (by omega) (X1 hP hr)) (by simp[go_sem]) ⟨by simp[go_sem],by simp[go_sem,zF,zh]⟩ (by simp[go_sem]) ?_⟩
 rintro _ rs ⟨rfl,rfl⟩
 simp (maxSteps:=1000000) [go_sem,zh]
 exact zg (.p (zh (zkw t m l))) rfl (by simp[go_sem,zd,leA,leT,zh,zkw]) ⟨rfl,rfl⟩
end Go.Proofs.YthbmelihnabkaaaGreat
end
section
namespace Go.Proofs.YthbmelihnabkaaaGreat
open Go.AM
set_option maxHeartbeats 4000000
set_option maxRecDepth 10000
def xb(L:List (List Int)):List PV:=L.map zh
def zbQ(L:List (List Int)):PV:=.sl 1 (xb L)
end Go.Proofs.YthbmelihnabkaaaGreat
end
section
namespace Go.Proofs.YthbmelihnabkaaaGreat
open Go.RowKit Go.Lib
set_option maxRecDepth 100000
set_option maxHeartbeats 4000000
theorem zlq:∃i,Tryz.prog.info? 21=some i∧i.zero=some (.int .i32 0)∧i.size=1∧i.bytes=4:=by
 have h:(Tryz.prog.info? 21).map (fun i=>(i.zero,i.size,i.bytes))=some (some (.int .i32 0),1,4):=by kernel_rfl
 simp only[Option.map_eq_some_iff,Prod.mk.injEq]at h
 obtain⟨i,h0,h1,h2,h3⟩:=h
 exact⟨i,h0,h1,h2,h3⟩
theorem zib(w:World):Calls Tryz.prog 166 #[.slice none 0 0,.int .i64 0] w fun e w'=>e=.returned (.slice none 0 0)∧w'=w:=by
 go_enter Tryz.func166,Tryz.ntmps166
 go_wp2
 go_ret
 exact⟨rfl,rfl⟩
theorem zjA(n:Nat)(w:World)(hn:0<n)(hbig:n*4≤140737488355328):
  ∃G,n≤G∧G≤9223372036854775807∧Calls Tryz.prog 166 #[.slice none 0 0,.int .i64 n] w fun e w'=>e=.returned (.slice (some ⟨w.heap.size,0,none⟩) 0 G)∧
   w'=w.drew.alloc (.cells (Builtin.zeroCells (Value.int .i32 0).cells n++Builtin.zeroCells (Value.int .i32 0).cells (G-n)) 21):=by
 obtain⟨i0,hi0,hz0,hzs,hzb⟩:=zlq
 have hrz:∀ty,(Builtin.append_ #[22,3] ty #[.slice none 0 0,.int .i64 n]).run Tryz.prog w=_:=fun ty=>
  run_append_nil_zeros w 22 3 ty 21 i0 _ .i64 .i64 Tryz.underlying22 Tryz.underlying3 hi0 hz0 n hn (by omega) (by omega) (by rw[hzb];omega)
 obtain⟨G,hG⟩:∃G,G=grownCap w n 0 21:=⟨_,rfl⟩
 have hGn:n≤G:=by rw[hG];exact grownCap_ge w _ _ _
 have hG63:G≤9223372036854775807:=by
  have:=grownCap_le_maxLen w n 0 21 (by unfold maxLen;omega)
  rw[←hG]at this
  unfold maxLen at this
  omega
 rw[←hG]at hrz
 refine⟨G,hGn,hG63,?_⟩
 have h1:¬((n:Int)<0):=by omega
 have h3:IntKind.i64.wrap (n:Int)=n:=by rw[IntKind.wrap_i64];omega
 have h4:(0:Int)< (n:Int):=by omega
 go_enter Tryz.func166,Tryz.ntmps166
 go_wp2_with (at_builtin;refine Lib.wpList_append_run _ rfl _ _ _ _ rfl _ _ rfl rfl _ _ (hrz _) ?_)
 go_ret
 exact⟨rfl,rfl⟩
end Go.Proofs.YthbmelihnabkaaaGreat
end
section
namespace Go.AM
structure Chg(g:Gh)(w w':World)(B:Nat):Prop where
 old:∀d,d<w.heap.size→d≠B→w'.heap[d]?=w.heap[d]?
 fr0:g.fr B=0
 mine:w.heap.size≤B∨g.K B≠ .prot
 lt:B<w'.heap.size
 mono:w.heap.size≤w'.heap.size
 out:w'.os=w.os∧w'.tape=w.tape∧w'.output=w.output
def ngh(g:Gh)(B m:Nat)(k:Kd):Gh:=⟨Z2 g.fr B m,fun d=>if d=B then k else .prot⟩
theorem zm4(g:Gh)(B m:Nat)(k:Kd):(ngh g B m k).fr B=m:=qp _ _ _
theorem zn4(g:Gh)(B m:Nat)(k:Kd):(ngh g B m k).K B=k:=if_pos rfl
theorem Chg.ext [Gi] {g:Gh} {w w':World} {B:Nat} {rs:List (Tok×List AV)}(c:Chg g w w' B)(hG:GS g w rs)(m:Nat)(k:Kd):Ext g.fr w (ngh g B m k).fr w':=fun d o ho=>by
 have hd:d≠B:=fun e=>by subst e;rw[c.fr0]at ho;omega
 have hlt:d<w.heap.size:=by
  rcases Nat.lt_or_ge d w.heap.size with h|h
  ·exact h
  ·have:=hG.frb d h;omega
 exact⟨by show o<Z2 g.fr B m d;rw[qE _ _ _ hd];exact ho,zY (c.old d hlt hd)⟩
theorem Chg.aft [Gi] {g:Gh} {w w':World} {B:Nat} {rs:List (Tok×List AV)}(c:Chg g w w' B)(hG:GS g w rs)(m:Nat)(k:Kd):Aft g w (ngh g B m k) w' []:=
 ⟨fun d hd hk=>by
  have hdB:d≠B:=fun e=>by
   subst e
   rcases c.mine with h|h
   ·omega
   ·exact h hk
  exact⟨c.old d hd hdB,qE _ _ _ hdB,if_neg hdB⟩,c.ext hG m k,c.out,c.mono,fun _ _ _ h=>by cases h⟩
theorem Chg.frb [Gi] {g:Gh} {w w':World} {B:Nat} {rs:List (Tok×List AV)}(c:Chg g w w' B)(hG:GS g w rs)(m:Nat)(k:Kd)(d:Nat)(hd:w'.heap.size≤d):(ngh g B m k).fr d=0:=by
 have:=c.lt
 have:=c.mono
 show Z2 g.fr B m d=0
 rw[qE _ _ _ (by omega)]
 exact hG.frb d (by omega)
theorem KR {g:Gh} {B m:Nat} {k k':Kd}(hk':k'≠ .prot) {d:Nat}(h:(ngh g B m k).K d=k'):d=B∧k=k':=by
 have h':(if d=B then k else .prot)=k':=h
 split at h'
 ·exact⟨by assumption,h'⟩
 ·exact absurd h'.symm hk'
theorem Chg.zlG [Gi] {g:Gh} {w w':World} {B:Nat} {rs:List (Tok×List AV)}(c:Chg g w w' B)(hG:GS g w rs)(m:Nat)(t:Tok)(rs':List (Tok×List AV)):GS (ngh g B m (.tail t)) w' rs':=by
 refine⟨fun b u h=>?_,fun b b' u h h'=>?_,fun b b' u h h'=>?_,fun b h=>?_,c.frb hG m _,hG.gl.aft (c.aft hG m _)⟩
 ·have:=(KR (by simp) h).2;cases this
 ·have:=(KR (by simp) h).2;cases this
 ·rw[(KR (by simp) h).1,(KR (by simp) h').1]
 ·by_cases e:b=B
  ·subst e;exact c.lt
  ·exact absurd (if_neg e) h
def Cel(fr:Nat→Nat)(w:World)(e:PV)(c:Value):Prop:=∃v,zl fr w e v∧v.cells= #[c]∧c.oneCell'=true
theorem Cel.ext {f1 f2:Nat→Nat} {w1 w2:World}(h:Ext f1 w1 f2 w2) {e:PV} {c:Value}:Cel f1 w1 e c→Cel f2 w2 e c:=fun⟨v,r,h1,h2⟩=>⟨v,r.ext h,h1,h2⟩
theorem Cel.one {fr:Nat→Nat} {w:World} {e:PV} {c:Value}(h:e.one=true):Cel fr w e c→zl fr w e c:=fun⟨v,r,h1,_⟩=>by
 have:=zl.one h r
 have h2:v.cells= #[v]:=jf this
 rw[h1]at h2
 have:c=v:=by simpa using h2
 rw[this];exact r
theorem Cel.of {fr:Nat→Nat} {w:World} {e:PV} {v:Value}(h:e.one=true)(r:zl fr w e v):Cel fr w e v:=⟨v,r,jf (zl.one h r),zl.one h r⟩
theorem LeA.ag {xs:List AV} {ys:List PV}(h:zcc xs=some ys):LeA (.ag xs) (.p (.agg ys)):=fun g w v r=>by
 have:=JO (x:=.ag xs) (y:=.agg ys) (by simp[toP,h]) r
 simpa only[zb]using this
theorem uF(w:World):w.drew.heap=w.heap:=rfl
end Go.AM
end
section
namespace Go.Proofs.YthbmelihnabkaaaGreat
open Go.AM
set_option maxHeartbeats 4000000
set_option maxRecDepth 10000
theorem zfp(z:Value)(hz:z.oneCell'=true)(n:Nat):(Builtin.zeroCells z.cells n).size=n:=by
 have:=congrArg List.length (ui z n)
 rw[jf hz]at this⊢
 simpa using this
theorem zkD [Gi](n:Nat)(hn:n*4≤140737488355328):CR Tryz.prog 166 [] [.p (.opq (.slice none 0 0)),.p (.int .i64 n)] [] (is (.os [0] 1 [])):=by
 intro w g vs hargs hG
 simp only[zp,zb,zl]at hargs
 obtain⟨v,vs',rfl,rfl,v2,vs2,rfl,rfl,rfl⟩:=hargs
 rcases Nat.eq_zero_or_pos n with h0|h0
 ·subst h0
  refine(zib w).mono ?_
  rintro e w' ⟨rfl,rfl⟩
  let g2:Gh:=⟨g.fr,fun _=>.prot⟩
  exact⟨_,.os [0] 1 [],[],g2,rfl,⟨rfl,rfl⟩,by simp only[zb,zl];exact⟨.inl ⟨trivial,none,0,rfl⟩,.inl ⟨none,0,rfl⟩⟩,⟨fun b t h=>(by cases h),fun b b' t h=>(by cases h),fun b b' t h=>(by cases h),fun b h=>absurd rfl h,hG.frb,fun b arr e=>⟨rfl,(hG.gl b arr e).2⟩⟩,
   ⟨fun d _ _=>⟨rfl,rfl,rfl⟩,Ext.refl _ _,⟨rfl,rfl,rfl⟩,Nat.le_refl _,fun b t _ ht=>(by cases ht)⟩⟩
 ·obtain⟨G,h1,h2,hc⟩:=zjA n w h0 hn
  refine hc.mono ?_
  rintro e w' ⟨rfl,hw⟩
  have hh:w'.heap[w.heap.size]?=some (.cells (Builtin.zeroCells (Value.int .i32 0).cells n++Builtin.zeroCells (Value.int .i32 0).cells (G-n)) 21 (0,0)):=by rw[hw,heap_alloc,uF,if_pos rfl]
  have c:Chg g w w' w.heap.size:=by
   subst hw
   refine⟨fun d hd hdB=>?_,hG.frb _ (Nat.le_refl _),.inl (Nat.le_refl _),?_,?_,⟨rfl,rfl,rfl⟩⟩
   ·rw[heap_alloc,uF,if_neg hdB]
   ·simp[uF]
   ·simp[uF]
  refine⟨_,.os [0] 1 [],[],ngh g w.heap.size 0 (.tail [0]),rfl,⟨rfl,rfl⟩,?_,c.zlG hG _ _ _,c.aft hG _ _⟩
  simp only[zb,zl]
  refine⟨.inl ⟨trivial,_,G,rfl⟩,.inr ⟨w.heap.size,0,0,G,rfl,zn4 _ _ _ _,by rw[zm4],_,21,hh,?_⟩⟩
  simp only[Array.size_append,zfp _ (show(Value.int .i32 0).oneCell'=true from rfl)]
  omega
def Zz(L:List (List Int)):Nat:=(L.map List.length).sum
theorem yH(L:List (List Int)):L.flatten.length=Zz L:=by simp[Zz,List.length_flatten]
theorem VV {L:List (List Int)} {i:Nat}(h:i<L.length):Zz (L.take (i+1))=Zz (L.take i)+L[i].length:=by
 rw[List.take_succ_eq_append_getElem h]
 simp only[Zz,List.map_append,List.sum_append,List.map_cons,List.map_nil,List.sum_cons,List.sum_nil,Nat.add_zero]
theorem uN(L:List (List Int))(i:Nat):Zz (L.take i)≤Zz L:=by
 have h:L.flatten.length=(L.take i).flatten.length+(L.drop i).flatten.length:=by
  rw[←List.length_append,←List.flatten_append,List.take_append_drop]
 rw[yH,yH]at h
 omega
theorem zea(a b:List Int):zr (a++b)=zr a++zr b:=by simp[zr]
theorem zio {L:List (List Int)} {i:Nat}(h:i<L.length):(L.take (i+1)).flatten=(L.take i).flatten++L[i]:=by
 rw[List.take_succ_eq_append_getElem h]
 simp only[List.flatten_append,List.flatten_cons,List.flatten_nil,List.append_nil]
theorem zaj [Gi](L:List (List Int))(hL:L.length<2^31)(hn:Zz L<2^31):CR Tryz.prog 120 [] [.p (zbQ L)] [] (is (.p (zh L.flatten))):=by
 refine zn mixed 9 [9,10,11,25,26,27] Tryz.func120 rfl (by kernel_rfl) rfl (by simp) (by simp) ?_
 have htl:(xb L).length=L.length:=by simp[xb]
 simp (maxSteps:=1000000) [go_sem,Tryz.f120,zbQ,htl]
 refine zm (fun i:Nat=>i≤L.length) (fun i=>[(3,.p (.int .i64 (Zz (L.take i):Nat))),(11,.p (.int .i64 (i:Nat))),(5,.zU)]) (fun _=>[]) (fun i=>L.length-i) 0 (by omega) (by simp[go_sem,LeS,leV,leR,leA,Zz]) (fun i hi=>?_)
 have hsi:=uN L i
 by_cases hil:i<L.length
 ·have em:elemAt (xb L) i=zh L[i]:=by rw[xb,zt zh L i hil]
  have e1:=VV hil
  have hs2:=uN L (i+1)
  have g1:(i:Int)<L.length:=by omega
  have w1:IntKind.i64.wrap ((i:Int)+1)=((i+1:Nat):Int):=zN (by omega)
  generalize L[i]=x at em e1
  have w2:IntKind.i64.wrap ((Zz (L.take i):Int)+x.length)=((Zz (L.take (i+1)):Nat):Int):=yJ (by omega) e1
  have g2:¬((Zz (L.take (i+1)):Int)<0):=by omega
  simp (maxSteps:=1000000) [go_sem,g1,em,htl,zh,zC,w1,w2,g2]
  exact zf (i+1) (by omega) (by simp[go_sem,LeS,leV,leR,leA]) (by omega)
 ·have g1:¬(i:Int)<L.length:=by omega
  obtain rfl:i=L.length:=by omega
  rw[List.take_length]at hsi⊢
  simp (maxSteps:=1000000) [go_sem,g1]
  refine⟨⟨rfl,by simp[Tryz.f166]⟩,zc [] (zkD (Zz L) (by omega)) (by simp[go_sem]) ⟨by simp[go_sem],by simp[go_sem]⟩ (by simp[go_sem]) ?_⟩
  rintro y rs ⟨rfl,rfl⟩
  simp (maxSteps:=1000000) [go_sem,htl]
  refine zm (fun i:Nat=>i≤L.length) (fun i=>[(6,.os [6] 1 (zr (L.take i).flatten)),(27,.p (.int .i64 (i:Nat))),(8,.zU)]) (fun _=>[]) (fun i=>L.length-i) 0 (by omega) (by simp[go_sem,LeS,leV,leR,leA,zr]) (fun i hi=>?_)
  have hsi:=uN L i
  by_cases hil:i<L.length
  ·have em:elemAt (xb L) i=zh L[i]:=by rw[xb,zt zh L i hil]
   have e1:=VV hil
   have e2:=zio hil
   have hs2:=uN L (i+1)
   have g1:(i:Int)<L.length:=by omega
   have w1:IntKind.i64.wrap ((i:Int)+1)=((i+1:Nat):Int):=zN (by omega)
   have hfl:=yH (L.take i)
   generalize L[i]=x at em e1 e2
   simp (maxSteps:=1000000) [go_sem,g1,em,htl,zh,zC,w1,hfl]
   refine⟨by omega,zf (i+1) (by omega) (by simp[go_sem,LeS,leV,leR,leA,e2,zea]) (by omega)⟩
  ·have g1:¬(i:Int)<L.length:=by omega
   obtain rfl:i=L.length:=by omega
   rw[List.take_length]
   simp (maxSteps:=1000000) [go_sem,g1]
   exact zg (.p (zh L.flatten)) rfl (by simp[go_sem,zd,leA,leT,zh]) ⟨rfl,rfl⟩
end Go.Proofs.YthbmelihnabkaaaGreat
end
section
namespace Go.Proofs.YthbmelihnabkaaaGreat
open Go.AM
set_option maxHeartbeats 4000000
set_option maxRecDepth 10000
def zoQ(L:List (List Int))(a:Int):PV:=.agg [zbQ L,.int .i64 a]
theorem ze4(L:List (List Int)):(xb L).length=L.length:=by simp[xb]
theorem zx(b:List Int)(m:Nat):∃k v,elemAt (zr b) m=.int k v:=by
 by_cases h:m<b.length
 ·exact⟨_,_,by rw[zr,zt (fun r=>PV.int .i32 r) b _ h]⟩
 ·refine⟨default,default,?_⟩
  simp[elemAt,zr,List.getD,List.getElem?_eq_none (by simpa using h)];rfl
def ziN:List Int→List Int→Nat
 |x::a,y::b=>if x=y then ziN a b+1 else 0
 |_,_=>0
def zmv(a b:List Int):Nat:=ziN a.reverse b.reverse
end Go.Proofs.YthbmelihnabkaaaGreat
end
section
namespace Go.Proofs.YthbmelihnabkaaaGreat
open Go.AM
set_option maxHeartbeats 4000000
set_option maxRecDepth 10000
theorem uL {l:List Int} {j:Nat}(h:j<l.length):(l.take (j+1)).reverse=l[j]::(l.take j).reverse:=by
 rw[←List.take_append_getElem h];simp
theorem Qv {l:List Int} {j:Nat}(h:j<l.length):elemAt (zr l) j=.int .i32 l[j]:=by rw[zr,zt (fun r=>PV.int .i32 r) l j h]
def Qw(rows:List Row)(seen:Bool):List Int→Bool
 | []=>false
 |y::ys=>if ZI rows y=2 then seen else if ZI rows y=0 then false else Qw rows (seen || decide (ZI rows y=1)) ys
def We(rows:List Row)(pre:List Int)(x:Int):Bool:=if ZI rows x=2 then Qw rows false pre else false
theorem za2 [Gi] {rows:List Row}(hw:qX rows)(l:List Int)(n:Nat)(h:n<l.length)(hl:l.length<2^31)(hr:∀x∈l,zu x):
  CR Tryz.prog 128 [] [.p (zJ rows),.p (zh l),.p (.int .i64 n)] [] (is (.p (.bool (We rows (l.take n).reverse l[n])))):=by
 refine zn mixed 10 [] Tryz.func128 rfl (by kernel_rfl) rfl (by simp) (by simp) ?_
 have em:=Qv h
 have hx:=hr _ (List.getElem_mem h)
 generalize l[n]=x at em hx
 have h':(n:Int)<l.length:=by omega
 simp (maxSteps:=1000000) [go_sem,Tryz.f128,zh,zC,h',em]
 refine⟨⟨rfl,by simp[Tryz.f170]⟩,zc [] (zgj hw hx) (by simp[go_sem]) ⟨by simp[go_sem],by simp[go_sem]⟩ (by simp[go_sem]) ?_⟩
 rintro _ rs ⟨rfl,rfl⟩
 by_cases c:ZI rows x=2
 ·have w1:IntKind.i64.wrap ((n:Int)-1)=(n:Int)-1:=wrap64 (by omega) (by omega)
  simp (maxSteps:=1000000) [go_sem,c,w1,We]
  refine zm (fun s:Bool×Nat=>s.2≤n∧Qw rows false (l.take n).reverse=Qw rows s.1 (l.take s.2).reverse) (fun s=>[(7,.p (.bool s.1)),(8,.p (.int .i64 ((s.2:Int)-1))),(9,.zU)]) (fun _=>[]) (fun s=>s.2) (false,n) ⟨by simp,rfl⟩ (by simp[go_sem,LeS,leV,leR,leA]) (fun s hs=>?_)
  obtain⟨seen,k⟩:=s
  obtain⟨h1,h2⟩:=hs
  simp only at h1 h2
  cases k with
  |zero=>
   rw[h2]
   simp (maxSteps:=1000000) [go_sem,Qw]
   exact zg (.p (.bool false)) rfl (by simp[go_sem,zd,leA,leT]) ⟨rfl,rfl⟩
  |succ j=>
   have hj:j<l.length:=by omega
   have hj':(j:Int)<l.length:=by omega
   rw[uL hj,Qw]at h2
   have em:=Qv hj
   have hy:=hr _ (List.getElem_mem hj)
   generalize l[j]=y at em hy h2
   have w2:IntKind.i64.wrap ((j:Int)-1)=(j:Int)-1:=wrap64 (by omega) (by omega)
   simp (maxSteps:=1000000) [go_sem,zC,hj',em]
   refine⟨⟨rfl,by simp[Tryz.f170]⟩,zc [] (zgj hw hy) (by simp[go_sem]) ⟨by simp[go_sem],by simp[go_sem]⟩ (by simp[go_sem]) ?_⟩
   rintro _ rs ⟨rfl,rfl⟩
   generalize ZI rows y=v at h2
   by_cases v2:v=2
   ·rw[h2,if_pos v2]
    simp (maxSteps:=1000000) [go_sem,v2]
    exact zg (.p (.bool seen)) rfl (by simp[go_sem,zd,leA,leT]) ⟨rfl,rfl⟩
   rw[if_neg v2]at h2
   by_cases v0:v=0
   ·rw[h2,if_pos v0]
    simp (maxSteps:=1000000) [go_sem,v0]
    exact zg (.p (.bool false)) rfl (by simp[go_sem,zd,leA,leT]) ⟨rfl,rfl⟩
   rw[if_neg v0]at h2
   by_cases v1:v=1
   ·simp (maxSteps:=1000000) [go_sem,v1,w2]
    exact zf (true,j) ⟨by show j≤n;omega,by rw[h2,v1];simp⟩ (by simp[go_sem,LeS,leV,leR,leA]) (by show j<j+1;omega)
   ·simp (maxSteps:=1000000) [go_sem,v0,v1,v2,w2]
    exact zf (seen,j) ⟨by show j≤n;omega,by rw[h2];simp[v1]⟩ (by simp[go_sem,LeS,leV,leR,leA]) (by show j<j+1;omega)
 ·have e:We rows (l.take n).reverse x=false:=by unfold We;rw[if_neg c]
  rw[e]
  simp (maxSteps:=1000000) [go_sem,c]
  exact zg (.p (.bool false)) rfl (by simp[go_sem,zd,leA,leT]) ⟨rfl,rfl⟩
def kI(rows:List Row):List Int→Bool
 | []=>false
 |y::ys=>if aL rows 5 y=1 then true else if zL rows y=4 then kI rows ys else false
def u9(rows:List Row)(p:Int)(pre:List Int)(x:Int):Bool:=if aL rows 5 x=1 then(if zL rows p=5 then kI rows pre else false)else false
theorem zcE [Gi] {rows:List Row}(hw:qX rows)(l:List Int)(n m:Nat)(hm:n=m+1)(h:n<l.length)(hl:l.length<2^31)(hr:∀x∈l,zu x):
  CR Tryz.prog 129 [] [.p (zJ rows),.p (zh l),.p (.int .i64 n)] [] (is (.p (.bool (u9 rows l[m] (l.take m).reverse l[n])))):=by
 refine zn mixed 8 [] Tryz.func129 rfl (by kernel_rfl) rfl (by simp) (by simp) ?_
 have em:=Qv h
 have hx:=hr _ (List.getElem_mem h)
 generalize l[n]=x at em hx
 have g:m<l.length:=by omega
 have em2:=Qv g
 have hp:=hr _ (List.getElem_mem g)
 generalize l[m]=p at em2 hp
 have h':(n:Int)<l.length:=by omega
 have g':(m:Int)<l.length:=by omega
 have w1:IntKind.i64.wrap ((n:Int)-1)=(m:Int):=by rw[wrap64 (by omega) (by omega)];omega
 have w2:IntKind.i64.wrap ((n:Int)-2)=(m:Int)-1:=by rw[wrap64 (by omega) (by omega)];omega
 simp (maxSteps:=1000000) [go_sem,Tryz.f129,zh,zC,h',em]
 refine⟨⟨rfl,by simp[Tryz.f169]⟩,zc [] (xF rows 5 x hw.n hx) (by simp[go_sem]) ⟨by simp[go_sem],by simp[go_sem]⟩ (by simp[go_sem]) ?_⟩
 rintro _ rs ⟨rfl,rfl⟩
 by_cases c:aL rows 5 x=1
 ·simp (maxSteps:=1000000) [go_sem,c,w1,zC,g',em2,u9]
  refine⟨⟨rfl,by simp[Tryz.f125]⟩,zc [] (wz hw hp) (by simp[go_sem]) ⟨by simp[go_sem],by simp[go_sem]⟩ (by simp[go_sem]) ?_⟩
  rintro _ rs ⟨rfl,rfl⟩
  by_cases c5:zL rows p=5
  ·simp (maxSteps:=1000000) [go_sem,c5,w2]
   refine zm (fun k:Nat=>k≤m∧kI rows (l.take m).reverse=kI rows (l.take k).reverse) (fun k=>[(7,.p (.int .i64 ((k:Int)-1)))]) (fun _=>[]) (fun k=>k) m ⟨by omega,rfl⟩ (by simp[go_sem,LeS,leV,leR,leA]) (fun k hs=>?_)
   obtain⟨h1,h2⟩:=hs
   cases k with
   |zero=>
    rw[h2]
    simp (maxSteps:=1000000) [go_sem,kI]
    exact zg (.p (.bool false)) rfl (by simp[go_sem,zd,leA,leT]) ⟨rfl,rfl⟩
   |succ j=>
    have hj:j<l.length:=by omega
    have hj':(j:Int)<l.length:=by omega
    rw[uL hj,kI]at h2
    have em:=Qv hj
    have hy:=hr _ (List.getElem_mem hj)
    generalize l[j]=y at em hy h2
    have w2:IntKind.i64.wrap ((j:Int)-1)=(j:Int)-1:=wrap64 (by omega) (by omega)
    simp (maxSteps:=1000000) [go_sem,zC,hj',em]
    refine⟨⟨rfl,by simp[Tryz.f169]⟩,zc [] (xF rows 5 y hw.n hy) (by simp[go_sem]) ⟨by simp[go_sem],by simp[go_sem]⟩ (by simp[go_sem]) ?_⟩
    rintro _ rs ⟨rfl,rfl⟩
    by_cases v1:aL rows 5 y=1
    ·rw[h2,if_pos v1]
     simp (maxSteps:=1000000) [go_sem,v1]
     exact zg (.p (.bool true)) rfl (by simp[go_sem,zd,leA,leT]) ⟨rfl,rfl⟩
    rw[if_neg v1]at h2
    simp (maxSteps:=1000000) [go_sem,zC,hj',em,v1]
    refine⟨⟨rfl,by simp[Tryz.f125]⟩,zc [] (wz hw hy) (by simp[go_sem]) ⟨by simp[go_sem],by simp[go_sem]⟩ (by simp[go_sem]) ?_⟩
    rintro _ rs ⟨rfl,rfl⟩
    by_cases v4:zL rows y=4
    ·rw[if_pos v4]at h2
     simp (maxSteps:=1000000) [go_sem,v4,w2]
     exact zf j ⟨by show j≤m;omega,h2⟩ (by simp[go_sem,LeS,leV,leR,leA]) (by show j<j+1;omega)
    ·rw[h2,if_neg v4]
     simp (maxSteps:=1000000) [go_sem,v4]
     exact zg (.p (.bool false)) rfl (by simp[go_sem,zd,leA,leT]) ⟨rfl,rfl⟩
  ·simp (maxSteps:=1000000) [go_sem,c5]
   exact zg (.p (.bool false)) rfl (by simp[go_sem,zd,leA,leT]) ⟨rfl,rfl⟩
 ·have e:u9 rows p (l.take m).reverse x=false:=by unfold u9;rw[if_neg c]
  rw[e]
  simp (maxSteps:=1000000) [go_sem,c,w1,zC,g',em2]
  exact zg (.p (.bool false)) rfl (by simp[go_sem,zd,leA,leT]) ⟨rfl,rfl⟩
def QA(rows:List Row):List Int→Nat
 | []=>0
 |y::ys=>if zL rows y=6 then QA rows ys+1 else 0
theorem zgX(rows:List Row)(l:List Int):QA rows l≤l.length:=by
 induction l with
 |nil=>simp[QA]
 |cons y ys ih=>unfold QA;split<;>simp<;>omega
def ue(rows:List Row)(pre:List Int)(x:Int):Bool:=if zL rows x=6 then decide (QA rows pre%2=1)else false
theorem zfJ [Gi] {rows:List Row}(hw:qX rows)(l:List Int)(n:Nat)(h:n<l.length)(hl:l.length<2^31)(hr:∀x∈l,zu x):
  CR Tryz.prog 130 [] [.p (zJ rows),.p (zh l),.p (.int .i64 n)] [] (is (.p (.bool (ue rows (l.take n).reverse l[n])))):=by
 refine zn mixed 9 [] Tryz.func130 rfl (by kernel_rfl) rfl (by simp) (by simp) ?_
 have em:=Qv h
 have hx:=hr _ (List.getElem_mem h)
 generalize l[n]=x at em hx
 have h':(n:Int)<l.length:=by omega
 simp (maxSteps:=1000000) [go_sem,Tryz.f130,zh,zC,h',em]
 refine⟨⟨rfl,by simp[Tryz.f125]⟩,zc [] (wz hw hx) (by simp[go_sem]) ⟨by simp[go_sem],by simp[go_sem]⟩ (by simp[go_sem]) ?_⟩
 rintro _ rs ⟨rfl,rfl⟩
 by_cases c:zL rows x=6
 ·have w1:IntKind.i64.wrap ((n:Int)-1)=(n:Int)-1:=wrap64 (by omega) (by omega)
  have hfl:=zgX rows (l.take n).reverse
  rw[List.length_reverse,List.length_take]at hfl
  have ht:((QA rows (l.take n).reverse:Nat):Int).tmod 2=((QA rows (l.take n).reverse%2:Nat):Int):=by rw[Int.tmod_eq_emod_of_nonneg (by omega)];omega
  simp (maxSteps:=1000000) [go_sem,c,w1,ue]
  generalize hF:QA rows (l.take n).reverse=F at hfl ht
  refine zm (fun s:Nat×Nat=>s.2≤n∧F=s.1+QA rows (l.take s.2).reverse) (fun s=>[(7,.p (.int .i64 (s.1:Nat))),(8,.p (.int .i64 ((s.2:Int)-1)))]) (fun _=>[]) (fun s=>s.2) (0,n) ⟨by simp,by simp[hF]⟩ (by simp[go_sem,LeS,leV,leR,leA]) (fun s hs=>?_)
  obtain⟨q,k⟩:=s
  obtain⟨h1,h2⟩:=hs
  simp only at h1 h2
  cases k with
  |zero=>
   obtain⟨kk,vv,e0⟩:=zx l 0
   simp only[List.take_zero,List.reverse_nil,QA,Nat.add_zero]at h2
   subst h2
   simp (maxSteps:=1000000) [go_sem,e0,ht]
   exact zg (.p (.bool (decide (F%2=1)))) rfl (by simp[go_sem,zd,leA,leT];omega) ⟨rfl,rfl⟩
  |succ j=>
   have hj:j<l.length:=by omega
   have hj':(j:Int)<l.length:=by omega
   rw[uL hj,QA]at h2
   have em:=Qv hj
   have hy:=hr _ (List.getElem_mem hj)
   generalize l[j]=y at em hy h2
   have w2:IntKind.i64.wrap ((j:Int)-1)=(j:Int)-1:=wrap64 (by omega) (by omega)
   simp (maxSteps:=1000000) [go_sem,zC,hj',em]
   refine⟨⟨rfl,by simp[Tryz.f125]⟩,zc [] (wz hw hy) (by simp[go_sem]) ⟨by simp[go_sem],by simp[go_sem]⟩ (by simp[go_sem]) ?_⟩
   rintro _ rs ⟨rfl,rfl⟩
   by_cases v6:zL rows y=6
   ·rw[if_pos v6]at h2
    have w3:IntKind.i64.wrap ((q:Int)+1)=((q+1:Nat):Int):=zN (by omega)
    simp (maxSteps:=1000000) [go_sem,v6,w2,w3]
    exact zf (q+1,j) ⟨by show j≤n;omega,by show F=q+1+QA rows (l.take j).reverse;omega⟩ (by simp[go_sem,LeS,leV,leR,leA]) (by show j<j+1;omega)
   ·rw[if_neg v6,Nat.add_zero]at h2
    subst h2
    simp (maxSteps:=1000000) [go_sem,v6,ht]
    exact zg (.p (.bool (decide (F%2=1)))) rfl (by simp[go_sem,zd,leA,leT];omega) ⟨rfl,rfl⟩
 ·have e:ue rows (l.take n).reverse x=false:=by unfold ue;rw[if_neg c]
  rw[e]
  simp (maxSteps:=1000000) [go_sem,c]
  exact zg (.p (.bool false)) rfl (by simp[go_sem,zd,leA,leT]) ⟨rfl,rfl⟩
end Go.Proofs.YthbmelihnabkaaaGreat
end
