/- A part of the proof of this seat's statements, by an abstract machine: what each operation does to values, and what the law's functions compute. Conditions: as each law says. -/
import Derived.Test.YtjefahhmkcfiiaaGreatT30
import Derived.Test.YtjefahhmkcfiiaaGreatChecked
import Derived.KernelRfl
import Derived.WalkKit
import Derived.Shelf.Spec.SlicesInsert
import Derived.Lib.AppendZerosOnto
import Derived.Laws.NewBlocks
import Derived.Test.YtjefahhmkcfiiaaGreatT16
import Derived.Laws.IdiomCopy
section
namespace Go.Proofs.YtjefahhmkcfiiaaGreat
open Go.AM
set_option maxHeartbeats 4000000
set_option maxRecDepth 10000
theorem Zo(a b:List Int):zx (a++b)=zx a++zx b:=by simp[zx]
theorem qJ(x:Int):zx [x]=[.p (.int .i32 x)]:=rfl
def mk2(m:List (Zh×Int))(a b:Int):Option Int:=(yV a b).or (if b=0 then none else mkB m ⟨a,b⟩)
def Y2(x:Option Int):AV:=.tup [.p (.int .i32 (Zb x)),.p (.bool x.isSome)]
theorem zdl [Gi](c b j f p:PV)(m:List (Zh×Int))(sk sx:List PV)(x y:Int):CR Tryz.prog 172 [] [.p (zF c b j f p (ckP m) (cxP m) sk sx),.p (.int .i32 x),.p (.int .i32 y)] [] (is (Y2 (mk2 m x y))):=by
 refine zm mixed 11 [] Tryz.func172 rfl (by kernel_rfl) rfl (by simp) (by simp) ?_
 simp (maxSteps:=1000000) [go_sem,Tryz.f172,zF]
 refine⟨⟨rfl,by simp[Tryz.f206]⟩,zb [] (zmS x y) (by simp[go_sem]) ⟨by simp[go_sem],by simp[go_sem]⟩ (by simp[go_sem]) ?_⟩
 rintro _ rs ⟨rfl,rfl⟩
 cases hj:yV x y with
 |some z=>
  have e:mk2 m x y=some z:=by unfold mk2;rw[hj];rfl
  rw[e]
  simp (maxSteps:=1000000) [go_sem,Xj]
  exact zh (Y2 (some z)) rfl (by simp[go_sem,zd,leA,leT,leP,Y2,Zb]) ⟨rfl,rfl⟩
 |none=>
  have e:mk2 m x y=if y=0 then none else mkB m ⟨x,y⟩:=by unfold mk2;rw[hj];rfl
  rw[e]
  simp (maxSteps:=1000000) [go_sem,Xj]
  refine⟨⟨rfl,by simp[Tryz.f207]⟩,zb [] (zgD c b j f p m sk sx x y) (by simp[go_sem]) ⟨by simp[go_sem],by simp[go_sem,zF]⟩ (by simp[go_sem]) ?_⟩
  rintro _ rs ⟨rfl,rfl⟩
  cases (if y=0 then none else mkB m ⟨x,y⟩)with
  |none=>
   simp (maxSteps:=1000000) [go_sem,YE]
   exact zh (Y2 none) rfl (by simp[go_sem,zd,leA,leT,leP,Y2,Zb]) ⟨rfl,rfl⟩
  |some z=>
   simp (maxSteps:=1000000) [go_sem,YE]
   exact zh (Y2 (some z)) rfl (by simp[go_sem,zd,leA,leT,leP,Y2,Zb]) ⟨rfl,rfl⟩
structure Cst where
 o:List Int
 s:Int
 l:Int
def ZY(k:Int→Int)(z:Cst)(r:Int):Cst:=⟨z.o++[r],if k r=0 then z.o.length else z.s,k r⟩
def zbI(k:Int→Int)(z:Cst)(r:Int):Prop:=0≤z.s∧(z.s=z.o.length-1∨(z.l≠0∧z.l<k r))
instance (k:Int→Int)(z:Cst)(r:Int):Decidable (zbI k z r):=by unfold zbI;infer_instance
def yU(k:Int→Int)(mk:Int→Int→Option Int)(z:Cst)(r:Int):Cst:=
 if zbI k z r then match mk (z.o[z.s.toNat]?.getD 0) r with
  |some c=>⟨z.o.set z.s.toNat c,z.s,z.l⟩
  |none=>ZY k z r
 else ZY k z r
def ZL(k:Int→Int)(mk:Int→Int→Option Int)(l:List Int):Cst:=l.foldl (yU k mk) ⟨[], -1,0⟩
theorem zaa(k:Int→Int)(mk:Int→Int→Option Int)(l:List Int)(x:Int):ZL k mk (l++[x])=yU k mk (ZL k mk l) x:=by simp[ZL,List.foldl_append]
structure Uu(z:Cst)(n:Nat):Prop where
 lo: -1≤z.s
 hi:z.s<z.o.length
 nn:z.o.length≤n
 ne:0<n→z.o≠ []
theorem Uu.push {z:Cst} {n:Nat}(h:Uu z n)(k:Int→Int)(r:Int):Uu (ZY k z r) (n+1):=by
 obtain⟨h1,h2,h3,h4⟩:=h
 refine⟨?_,?_,by simp[ZY];omega,by simp[ZY]⟩
 ·unfold ZY;simp only;split<;>omega
 ·unfold ZY;simp only[List.length_append,List.length_singleton];split<;>omega
theorem Uu.step {z:Cst} {n:Nat}(h:Uu z n)(k:Int→Int)(mk:Int→Int→Option Int)(r:Int):Uu (yU k mk z r) (n+1):=by
 unfold yU
 split
 ·rename_i hf
  split
  ·obtain⟨h1,h2,h3,h4⟩:=h
   have:=hf.1
   refine⟨h1,by simp;omega,by simp;omega,fun _ e=>?_⟩
   have:=congrArg List.length e
   rw[List.length_set,List.length_nil]at this
   omega
  ·exact h.push k r
 ·exact h.push k r
theorem zeS(k:Int→Int)(mk:Int→Int→Option Int)(l:List Int):Uu (ZL k mk l) l.length:=by
 suffices H:∀(l':List Int) (z:Cst) (n:Nat),Uu z n→Uu (l'.foldl (yU k mk) z) (n+l'.length) by
  have:=H l ⟨[], -1,0⟩ 0 ⟨by simp,by simp,by simp,by simp⟩
  simpa[ZL]using this
 intro l'
 induction l' with
 |nil=>intro z n h;simpa using h
 |cons x l' ih=>
  intro z n h
  have:=ih _ _ (h.step k mk x)
  simpa[Nat.add_assoc,Nat.add_comm 1]using this
def zdd(o:List Int):AV:=if o=[]then .p (.opq (.slice none 0 0))else .la [64] 1 0 o.length
def zcD(o:List Int):List (Tok×List AV):=if o=[]then []else [([64],zx o)]
theorem zcz [Gi] {t:zV} {c b j f p:PV}(h:QS t c b j f p)(hz:Qg t)(m:List (Zh×Int))(sk sx:List PV)(l:List Int)(hl0:l≠ [])(hn:l.length<2^31)(hr:∀x∈l,zB x):
  CR Tryz.prog 127 [] [.p (zF c b j f p (ckP m) (cxP m) sk sx),.p (zg l)] [] (fun x rs=>x=.la [64] 1 0 (ZL (zQ t) (mk2 m) l).o.length∧rs=[([64],zx (ZL (zQ t) (mk2 m) l).o)]):=by
 refine qW [] mixed 14 [14,15,16] Tryz.func127 rfl (by kernel_rfl) [5,64] rfl (by simp) (by simp) ?_
 simp (maxSteps:=1000000) [go_sem,Tryz.f127,zg,zp,zF]
 refine zj (fun i:Nat=>i≤l.length) (fun i=>[(16,.p (.int .i64 (i:Nat))),(5,zdd (ZL (zQ t) (mk2 m) (l.take i)).o),(6,.p (.int .i64 (ZL (zQ t) (mk2 m) (l.take i)).s)),(7,.p (.int .i64 (ZL (zQ t) (mk2 m) (l.take i)).l)),(9,.zW),(10,.zW),(11,.zW),(12,.zW),(13,.zW)]) (fun i=>zcD (ZL (zQ t) (mk2 m) (l.take i)).o) (fun i=>l.length-i) 0 (by omega)
  (by simp[go_sem,LeS,leV,leR,leA,ZL,zdd,zcD]) (fun i hi=>?_)
 have hok:=zeS (zQ t) (mk2 m) (l.take i)
 have hlt:(l.take i).length=i:=by rw[List.length_take];omega
 rw[hlt]at hok
 by_cases hil:i<l.length
 ·obtain⟨x,hx⟩:∃x,l[i]=x:=⟨_,rfl⟩
  have hxr:zB x:=hr x (by rw[←hx];exact List.getElem_mem _)
  have em:elemAt (zu l) i=.int .i32 x:=by rw[zu,zr (fun r=>PV.int .i32 r) l i hil,hx]
  have htk:l.take (i+1)=l.take i++[x]:=by rw[List.take_add_one,List.getElem?_eq_getElem hil,hx];rfl
  have hnx:ZL (zQ t) (mk2 m) (l.take (i+1))=yU (zQ t) (mk2 m) (ZL (zQ t) (mk2 m) (l.take i)) x:=by rw[htk,zaa]
  have w1:IntKind.i64.wrap ((i:Int)+1)=((i+1:Nat):Int):=zI (by omega)
  have hil':(i:Int)<l.length:=by omega
  have w0:IntKind.i64.wrap 1=1:=wrap64 (by omega) (by omega)
  generalize ZL (zQ t) (mk2 m) (l.take i)=z at hok hnx
  obtain⟨o,s,la⟩:=z
  obtain⟨k1,k2,k3,k4⟩:=hok
  simp only at k1 k2 k3 k4
  obtain⟨cl,hcl⟩:∃cl,cl=zQ t x:=⟨_,rfl⟩
  have hcl':t.cls (rn x)=cl:=hcl.symm
  by_cases hi0:i=0
  ·subst hi0
   have ho:o=[]:=by cases o with
    |nil=>rfl
    |cons y o=>simp at k3
   subst ho
   have hs:s= -1:=by simp at k2;omega
   subst hs
   have hf:yU (zQ t) (mk2 m) ⟨[], -1,la⟩ x=ZY (zQ t) ⟨[], -1,la⟩ x:=if_neg (fun hh=>by have:=hh.1;simp at this)
   simp (maxSteps:=1000000) [go_sem,zdd,zcD,hil,em,zp]
   refine⟨⟨rfl,by simp[Tryz.f124]⟩,zb [] (Qb h (ckP m) (cxP m) sk sx hz hxr) (by simp[go_sem]) ⟨by simp[go_sem],by simp[go_sem,zF]⟩ (by simp[go_sem]) ?_⟩
   rintro _ rs ⟨rfl,rfl⟩
   rw[hcl']
   by_cases hc0:cl=0
   ·have e2:ZL (zQ t) (mk2 m) (l.take (0+1))=⟨[x],0,0⟩:=by rw[hnx,hf];simp[ZY,←hcl,hc0]
    simp (maxSteps:=1000000) [go_sem,hc0]
    exact zf 1 (by omega) (by simp[go_sem,LeS,leV,leR,leA,leL,e2,qJ,w0]) (by omega)
   ·have e2:ZL (zQ t) (mk2 m) (l.take (0+1))=⟨[x], -1,cl⟩:=by rw[hnx,hf];simp[ZY,←hcl,hc0]
    simp (maxSteps:=1000000) [go_sem,hc0]
    exact zf 1 (by omega) (by simp[go_sem,LeS,leV,leR,leA,leL,e2,qJ,w0]) (by omega)
  ·have hne:o≠ []:=k4 (by omega)
   have hol:0<o.length:=List.length_pos_iff.2 hne
   obtain⟨n,hno⟩:∃n,n=o.length:=⟨_,rfl⟩
   have wl:IntKind.i64.wrap ((o.length:Int)-1)=(o.length:Int)-1:=wrap64 (by omega) (by omega)
   by_cases hs0:0≤s
   ·by_cases hs1:s=o.length-1
    ·have hs1x:((o.length:Int)-1:Int)=s:=hs1.symm
     have hf:yU (zQ t) (mk2 m) ⟨o,s,la⟩ x=match mk2 m (o[s.toNat]?.getD 0) x with|some c=>⟨o.set s.toNat c,s,la⟩|none=>ZY (zQ t) ⟨o,s,la⟩ x:=if_pos ⟨hs0,.inl hs1⟩
     have hsl:s.toNat<o.length:=by omega
     have gy:=ZG (List.getElem?_eq_getElem hsl)
     have hgd:o[s.toNat]?.getD 0=o[s.toNat]:=by rw[List.getElem?_eq_getElem hsl];rfl
     rw[hgd]at hf
     have hput:∀v,(zx o).take s.toNat++AV.p (.int .i32 v)::(zx o).drop (s.toNat+1)=zx (o.set s.toNat v):=fun v=>ZA v hsl
     generalize o[s.toNat]=y at gy hf
     have gy2:∀hh,(zx o)[s.toNat]'hh=.p (.int .i32 y):=fun hh=>by
      have:=gy
      rw[List.getElem?_eq_getElem hh]at this
      injection this
     have ws:IntKind.i64.wrap s=s:=wrap64 (by omega) (by omega)
     have hsn:s<o.length:=k2
     simp (maxSteps:=1000000) [go_sem,zdd,zcD,hne,hil',em,zp]
     refine⟨⟨rfl,by simp[Tryz.f124]⟩,zb [] (Qb h (ckP m) (cxP m) sk sx hz hxr) (by simp[go_sem]) ⟨by simp[go_sem],by simp[go_sem,zF]⟩ (by simp[go_sem]) ?_⟩
     rintro _ rs ⟨rfl,rfl⟩
     rw[hcl']
     simp (maxSteps:=1000000) [go_sem,hs1x,hs0,gy2,hsn,ws]
     refine⟨⟨rfl,by simp[Tryz.f172]⟩,zb [] (zdl c b j f p m sk sx y x) (by simp[go_sem]) ⟨by simp[go_sem],by simp[go_sem,zF]⟩ (by simp[go_sem]) ?_⟩
     rintro _ rs ⟨rfl,rfl⟩
     cases hmk:mk2 m y x with
     |some q=>
      have e2:ZL (zQ t) (mk2 m) (l.take (i+1))=⟨o.set s.toNat q,s,la⟩:=by rw[hnx,hf,hmk]
      have hp:=hput q
      have hne2:o.set s.toNat q≠ []:=fun e=>by have:=congrArg List.length e;rw[List.length_set,List.length_nil]at this;omega
      simp (maxSteps:=1000000) [go_sem,Y2,Zb,hs0,hsn,hp,w1,Vl]
      exact⟨by omega,zf (i+1) (by omega) (by simp[go_sem,LeS,leV,leR,leA,e2,hne2,zn]) (by omega)⟩
     |none=>
      have hf2:yU (zQ t) (mk2 m) ⟨o,s,la⟩ x=ZY (zQ t) ⟨o,s,la⟩ x:=by rw[hf,hmk]
      simp (maxSteps:=1000000) [go_sem,Y2,Zb]
      by_cases hc0:cl=0
      ·have e2:ZL (zQ t) (mk2 m) (l.take (i+1))=⟨o++[x],(o.length:Int),0⟩:=by rw[hnx,hf2];simp[ZY,←hcl,hc0]
       simp (maxSteps:=1000000) [go_sem,hc0,w1]
       exact⟨by omega,zf (i+1) (by omega) (by simp[go_sem,LeS,leV,leR,leA,e2,Zo,qJ,zn]) (by omega)⟩
      ·have e2:ZL (zQ t) (mk2 m) (l.take (i+1))=⟨o++[x],s,cl⟩:=by rw[hnx,hf2];simp[ZY,←hcl,hc0]
       simp (maxSteps:=1000000) [go_sem,hc0,w1]
       exact⟨by omega,zf (i+1) (by omega) (by simp[go_sem,LeS,leV,leR,leA,e2,Zo,qJ,zn]) (by omega)⟩
    ·by_cases hl1:la=0
     ·skip
      have hf:yU (zQ t) (mk2 m) ⟨o,s,la⟩ x=ZY (zQ t) ⟨o,s,la⟩ x:=if_neg (fun hh=>hh.2.elim hs1 (fun h2=>h2.1 hl1))
      simp (maxSteps:=1000000) [go_sem,zdd,zcD,hne,hil',em,zp]
      refine⟨⟨rfl,by simp[Tryz.f124]⟩,zb [] (Qb h (ckP m) (cxP m) sk sx hz hxr) (by simp[go_sem]) ⟨by simp[go_sem],by simp[go_sem,zF]⟩ (by simp[go_sem]) ?_⟩
      rintro _ rs ⟨rfl,rfl⟩
      rw[hcl']
      simp (maxSteps:=1000000) [go_sem,hs0,hs1,hl1,wl]
      by_cases hc0:cl=0
      ·have e2:ZL (zQ t) (mk2 m) (l.take (i+1))=⟨o++[x],(o.length:Int),0⟩:=by rw[hnx,hf];simp[ZY,←hcl,hc0]
       simp (maxSteps:=1000000) [go_sem,hc0,w1]
       exact⟨by omega,zf (i+1) (by omega) (by simp[go_sem,LeS,leV,leR,leA,e2,Zo,qJ,zn]) (by omega)⟩
      ·have e2:ZL (zQ t) (mk2 m) (l.take (i+1))=⟨o++[x],s,cl⟩:=by rw[hnx,hf];simp[ZY,←hcl,hc0]
       simp (maxSteps:=1000000) [go_sem,hc0,w1]
       exact⟨by omega,zf (i+1) (by omega) (by simp[go_sem,LeS,leV,leR,leA,e2,Zo,qJ,zn]) (by omega)⟩
     ·by_cases hl2:la<cl
      ·skip
       have hf:yU (zQ t) (mk2 m) ⟨o,s,la⟩ x=match mk2 m (o[s.toNat]?.getD 0) x with|some c=>⟨o.set s.toNat c,s,la⟩|none=>ZY (zQ t) ⟨o,s,la⟩ x:=if_pos ⟨hs0,.inr ⟨hl1,by rw[←hcl];exact hl2⟩⟩
       have hsl:s.toNat<o.length:=by omega
       have gy:=ZG (List.getElem?_eq_getElem hsl)
       have hgd:o[s.toNat]?.getD 0=o[s.toNat]:=by rw[List.getElem?_eq_getElem hsl];rfl
       rw[hgd]at hf
       have hput:∀v,(zx o).take s.toNat++AV.p (.int .i32 v)::(zx o).drop (s.toNat+1)=zx (o.set s.toNat v):=fun v=>ZA v hsl
       generalize o[s.toNat]=y at gy hf
       have gy2:∀hh,(zx o)[s.toNat]'hh=.p (.int .i32 y):=fun hh=>by
        have:=gy
        rw[List.getElem?_eq_getElem hh]at this
        injection this
       have ws:IntKind.i64.wrap s=s:=wrap64 (by omega) (by omega)
       have hsn:s<o.length:=k2
       simp (maxSteps:=1000000) [go_sem,zdd,zcD,hne,hil',em,zp]
       refine⟨⟨rfl,by simp[Tryz.f124]⟩,zb [] (Qb h (ckP m) (cxP m) sk sx hz hxr) (by simp[go_sem]) ⟨by simp[go_sem],by simp[go_sem,zF]⟩ (by simp[go_sem]) ?_⟩
       rintro _ rs ⟨rfl,rfl⟩
       rw[hcl']
       simp (maxSteps:=1000000) [go_sem,hs1,hl1,hl2,hs0,gy2,hsn,wl]
       refine⟨⟨rfl,by simp[Tryz.f172]⟩,zb [] (zdl c b j f p m sk sx y x) (by simp[go_sem]) ⟨by simp[go_sem],by simp[go_sem,zF]⟩ (by simp[go_sem]) ?_⟩
       rintro _ rs ⟨rfl,rfl⟩
       cases hmk:mk2 m y x with
       |some q=>
        have e2:ZL (zQ t) (mk2 m) (l.take (i+1))=⟨o.set s.toNat q,s,la⟩:=by rw[hnx,hf,hmk]
        have hp:=hput q
        have hne2:o.set s.toNat q≠ []:=fun e=>by have:=congrArg List.length e;rw[List.length_set,List.length_nil]at this;omega
        simp (maxSteps:=1000000) [go_sem,Y2,Zb,hs0,hsn,hp,w1,Vl]
        exact⟨by omega,zf (i+1) (by omega) (by simp[go_sem,LeS,leV,leR,leA,e2,hne2,zn]) (by omega)⟩
       |none=>
        have hf2:yU (zQ t) (mk2 m) ⟨o,s,la⟩ x=ZY (zQ t) ⟨o,s,la⟩ x:=by rw[hf,hmk]
        simp (maxSteps:=1000000) [go_sem,Y2,Zb]
        by_cases hc0:cl=0
        ·have e2:ZL (zQ t) (mk2 m) (l.take (i+1))=⟨o++[x],(o.length:Int),0⟩:=by rw[hnx,hf2];simp[ZY,←hcl,hc0]
         simp (maxSteps:=1000000) [go_sem,hc0,w1]
         exact⟨by omega,zf (i+1) (by omega) (by simp[go_sem,LeS,leV,leR,leA,e2,Zo,qJ,zn]) (by omega)⟩
        ·have e2:ZL (zQ t) (mk2 m) (l.take (i+1))=⟨o++[x],s,cl⟩:=by rw[hnx,hf2];simp[ZY,←hcl,hc0]
         simp (maxSteps:=1000000) [go_sem,hc0,w1]
         exact⟨by omega,zf (i+1) (by omega) (by simp[go_sem,LeS,leV,leR,leA,e2,Zo,qJ,zn]) (by omega)⟩
      ·skip
       have hf:yU (zQ t) (mk2 m) ⟨o,s,la⟩ x=ZY (zQ t) ⟨o,s,la⟩ x:=if_neg (fun hh=>hh.2.elim hs1 (fun h2=>hl2 (by rw[hcl];exact h2.2)))
       simp (maxSteps:=1000000) [go_sem,zdd,zcD,hne,hil',em,zp]
       refine⟨⟨rfl,by simp[Tryz.f124]⟩,zb [] (Qb h (ckP m) (cxP m) sk sx hz hxr) (by simp[go_sem]) ⟨by simp[go_sem],by simp[go_sem,zF]⟩ (by simp[go_sem]) ?_⟩
       rintro _ rs ⟨rfl,rfl⟩
       rw[hcl']
       simp (maxSteps:=1000000) [go_sem,hs0,hs1,hl1,hl2,wl]
       by_cases hc0:cl=0
       ·have e2:ZL (zQ t) (mk2 m) (l.take (i+1))=⟨o++[x],(o.length:Int),0⟩:=by rw[hnx,hf];simp[ZY,←hcl,hc0]
        simp (maxSteps:=1000000) [go_sem,hc0,w1]
        exact⟨by omega,zf (i+1) (by omega) (by simp[go_sem,LeS,leV,leR,leA,e2,Zo,qJ,zn]) (by omega)⟩
       ·have e2:ZL (zQ t) (mk2 m) (l.take (i+1))=⟨o++[x],s,cl⟩:=by rw[hnx,hf];simp[ZY,←hcl,hc0]
        simp (maxSteps:=1000000) [go_sem,hc0,w1]
        exact⟨by omega,zf (i+1) (by omega) (by simp[go_sem,LeS,leV,leR,leA,e2,Zo,qJ,zn]) (by omega)⟩
   ·skip
    have hf:yU (zQ t) (mk2 m) ⟨o,s,la⟩ x=ZY (zQ t) ⟨o,s,la⟩ x:=if_neg (fun hh=>hs0 hh.1)
    simp (maxSteps:=1000000) [go_sem,zdd,zcD,hne,hil',em,zp]
    refine⟨⟨rfl,by simp[Tryz.f124]⟩,zb [] (Qb h (ckP m) (cxP m) sk sx hz hxr) (by simp[go_sem]) ⟨by simp[go_sem],by simp[go_sem,zF]⟩ (by simp[go_sem]) ?_⟩
    rintro _ rs ⟨rfl,rfl⟩
    rw[hcl']
    simp (maxSteps:=1000000) [go_sem,hs0,wl]
    by_cases hc0:cl=0
    ·have e2:ZL (zQ t) (mk2 m) (l.take (i+1))=⟨o++[x],(o.length:Int),0⟩:=by rw[hnx,hf];simp[ZY,←hcl,hc0]
     simp (maxSteps:=1000000) [go_sem,hc0,w1]
     exact⟨by omega,zf (i+1) (by omega) (by simp[go_sem,LeS,leV,leR,leA,e2,Zo,qJ,zn]) (by omega)⟩
    ·have e2:ZL (zQ t) (mk2 m) (l.take (i+1))=⟨o++[x],s,cl⟩:=by rw[hnx,hf];simp[ZY,←hcl,hc0]
     simp (maxSteps:=1000000) [go_sem,hc0,w1]
     exact⟨by omega,zf (i+1) (by omega) (by simp[go_sem,LeS,leV,leR,leA,e2,Zo,qJ,zn]) (by omega)⟩
 ·have hil':¬(i:Int)<l.length:=by omega
  obtain rfl:i=l.length:=by omega
  rw[List.take_length]at hok⊢
  have hne:=hok.ne (List.length_pos_iff.2 hl0)
  generalize ZL (zQ t) (mk2 m) l=z at hok hne
  obtain⟨o,s,la⟩:=z
  simp only at hne
  simp (maxSteps:=1000000) [go_sem,zdd,zcD,hne]
  exact zi [[64]] (.la [64] 1 0 o.length) ⟨rfl,by simp⟩ (by simp[go_sem,zd,leA,leT]) ⟨rfl,by simp[go_sem]⟩
def zlq(t:zV)(m:List (Zh×Int))(l:List Int):List Int:=(ZL (zQ t) (mk2 m) l).o
theorem zez [Gi] {t:zV} {c b j f p:PV}(h:QS t c b j f p)(hz:Qg t)(m:List (Zh×Int))(sk sx:List PV)(l:List Int)(hn:l.length<2^31)(hr:∀x∈l,zB x):
  CR Tryz.prog 127 [] [.p (zF c b j f p (ckP m) (cxP m) sk sx),.p (zg l)] [] (is (.p (zg (zlq t m l)))):=by
 by_cases hl0:l=[]
 ·subst hl0
  refine qW [] mixed 14 [14,15,16] Tryz.func127 rfl (by kernel_rfl) [5,64] rfl (by simp) (by simp) ?_
  simp (maxSteps:=1000000) [go_sem,Tryz.f127,zg,zp,zF]
  refine zj (fun _:Unit=>True) (fun _=>[]) (fun _=>[]) (fun _=>0) () trivial (by simp[go_sem,LeS,leV,leR,leA]) (fun _ _=>?_)
  simp (maxSteps:=1000000) [go_sem]
  exact zh (.p (.sl 1 [])) rfl (by simp[go_sem,zd,leA,leT]) ⟨rfl,rfl⟩
 ·have hok:=zeS (zQ t) (mk2 m) l
  exact CR.row (List.length_pos_iff.2 (hok.ne (List.length_pos_iff.2 hl0))) (zcz h hz m sk sx l hl0 hn hr)
def vi(t:zV)(m:List (Zh×Int))(l:List Int):List Int:=zlq t m (J3 t l)
theorem zj8(t:zV)(l:List Int):(J3 t l).length≤768*l.length:=by unfold J3;rw[X0];exact X5 t l
theorem ziT {t:zV}(hP:Vb t) {l:List Int}(hl:∀x∈l,zB x):∀x∈J3 t l,zB x:=fun x hx=>by
 rcases Kh _ _ hx with hx|hx
 ·simp at hx
 ·exact JO hP hl x hx
theorem zgX [Gi] {t:zV} {c b j f p:PV}(h:QS t c b j f p)(hz:Qg t)(hP:Vb t)(m:List (Zh×Int))(sk sx:List PV)(l:List Int)(hn:l.length<2^20)(hr:∀x∈l,zB x):
  CR Tryz.prog 72 [] [.p (zF c b j f p (ckP m) (cxP m) sk sx),.p (zg l)] [] (is (.p (zg (vi t m l)))):=by
 refine zm mixed 5 [] Tryz.func72 rfl (by kernel_rfl) rfl (by simp) (by simp) ?_
 have hl:=zj8 t l
 simp (maxSteps:=1000000) [go_sem,Tryz.f72,zg,zF]
 refine⟨⟨rfl,by simp[Tryz.f128]⟩,zb [] (zn9 h hz hP (ckP m) (cxP m) sk sx l hn hr) (by simp[go_sem]) ⟨by simp[go_sem],by simp[go_sem,zF,zg]⟩ (by simp[go_sem]) ?_⟩
 rintro _ rs ⟨rfl,rfl⟩
 simp (maxSteps:=1000000) [go_sem,zg]
 refine⟨⟨rfl,by simp[Tryz.f127]⟩,zb [] (zez h hz m sk sx (J3 t l) (by omega) (ziT hP hr)) (by simp[go_sem]) ⟨by simp[go_sem],by simp[go_sem,zF,zg]⟩ (by simp[go_sem]) ?_⟩
 rintro _ rs ⟨rfl,rfl⟩
 simp (maxSteps:=1000000) [go_sem,zg]
 exact zh (.p (zg (vi t m l))) rfl (by simp[go_sem,zd,leA,leT,zg,vi]) ⟨rfl,rfl⟩
end Go.Proofs.YtjefahhmkcfiiaaGreat
end
section
namespace Go.Proofs.YtjefahhmkcfiiaaGreat
open Go.AM
set_option maxHeartbeats 4000000
set_option maxRecDepth 10000
def qD(L:List (List Int)):List PV:=L.map zg
def zk(L:List (List Int)):PV:=.sl 1 (qD L)
theorem zkV [Gi](l:List Int)(h0:l≠ [])(hn:l.length<2^40):CR Tryz.prog 126 [] [.p (zg l)] [] (is (.p (zg l))):=CR.row (List.length_pos_iff.2 h0) (Y0 l h0 hn)
theorem JI [Gi] {t:zV} {c b j f p:PV}(h:QS t c b j f p)(hz:Qg t)(ck cx sk sx:List PV)(l:List Int)(hn:l.length<2^31)(hr:∀x∈l,zB x):
  CR Tryz.prog 71 [] [.p (zF c b j f p ck cx sk sx),.p (zg l)] [] (is (.p (zk (Zs t l)))):=by
 refine zm mixed 8 [] Tryz.func71 rfl (by kernel_rfl) rfl (by simp) (by simp) ?_
 simp (maxSteps:=1000000) [go_sem,Tryz.f71,zg,zF]
 refine zj (fun r:List (List Int)×Nat=>r.2≤l.length∧r.1.length≤r.2∧Zs t l=r.1++Zs t (l.drop r.2)) (fun r=>[(6,.p (.int .i64 (r.2:Nat))),(5,.os [5] 1 (qD r.1)),(7,.zW)]) (fun _=>[]) (fun r=>l.length-r.2) ([],0) ⟨by simp,by simp,rfl⟩ (by simp[go_sem,LeS,leV,leR,leA,qD]) (fun r hr2=>?_)
 obtain⟨D,a⟩:=r
 obtain⟨p1,p3,p2⟩:=hr2
 simp only at p1 p2 p3
 by_cases hal:a<l.length
 ·obtain⟨x,hx⟩:∃x,l[a]=x:=⟨_,rfl⟩
  have hdr:l.drop a=x::l.drop (a+1):=by rw[←hx];exact List.drop_eq_getElem_cons hal
  have hrun:=J5 t (l.drop (a+1)) (qQ t Z6 x).1
  obtain⟨k,hk⟩:∃k,k=ku t (qQ t Z6 x).1 (l.drop (a+1)):=⟨_,rfl⟩
  have hnx:=zhA h hz ck cx sk sx l hn hr a x (l.drop (a+1)) hdr
  rw[←hk]at hrun hnx
  rw[List.length_drop]at hrun
  obtain⟨e,he⟩:∃e,e=a+1+k:=⟨_,rfl⟩
  rw[←he]at hnx
  have hcl:Zs t (l.drop a)=(l.drop a).take (k+1)::Zs t (l.drop e):=by
   rw[hdr,ya,←hk,List.drop_drop,List.take_succ_cons,he]
  have g1:(a:Int)<l.length:=by omega
  have hcut:(zu l).drop a=zu (l.drop a):=by simp[zu]
  have hcut2:(zu (l.drop a)).take (e-a)=zu ((l.drop a).take (k+1)):=by
   have:e-a=k+1:=by omega
   rw[this];simp[zu]
  have hcl0:(l.drop a).take (k+1)≠ []:=by rw[hdr];simp
  have hclen:((l.drop a).take (k+1)).length<2^40:=by rw[List.length_take,List.length_drop];omega
  obtain⟨C,hC⟩:∃C,C=(l.drop a).take (k+1):=⟨_,rfl⟩
  rw[←hC]at hcl hcut2 hcl0 hclen
  simp (maxSteps:=1000000) [go_sem,zp,g1]
  refine⟨⟨rfl,by simp[Tryz.f125]⟩,zb [] hnx (by simp[go_sem]) ⟨by simp[go_sem],by simp[go_sem,zF,zg]⟩ (by simp[go_sem]) ?_⟩
  rintro _ rs ⟨rfl,rfl⟩
  have g2:(e:Int).toNat-a=e-a:=by omega
  have hcc:cut (zu l) a e=zu C:=by rw[←hcut2,←hcut];simp[cut]
  simp (maxSteps:=1000000) [go_sem,zp,hcc]
  refine⟨⟨by omega,by omega⟩,⟨rfl,by simp[Tryz.f126]⟩,zb [] (zkV C hcl0 hclen) (by simp[go_sem]) ⟨by simp[go_sem],by simp[go_sem,zg]⟩ (by simp[go_sem]) ?_⟩
  rintro _ rs ⟨rfl,rfl⟩
  simp (maxSteps:=1000000) [go_sem,zg]
  refine⟨rfl,by simp[qD];omega,zf (D++[C],e) ⟨by show e≤l.length;omega,by simp;omega,by rw[p2,hcl];simp⟩ (by simp[go_sem,LeS,leV,leR,leA,qD,zg]) (by show l.length-e<l.length-a;omega)⟩
 ·have g1:¬(a:Int)<l.length:=by omega
  have e:Zs t l=D:=by rw[p2,List.drop_eq_nil_of_le (by omega)];simp[Zs,xL]
  rw[e]
  simp (maxSteps:=1000000) [go_sem,zp,g1]
  exact zh (.p (zk D)) rfl (by simp[go_sem,zd,leA,leT,zk]) ⟨rfl,rfl⟩
end Go.Proofs.YtjefahhmkcfiiaaGreat
end
section
namespace Go.Proofs.YtjefahhmkcfiiaaGreat
open Go.RowKit Go.Lib
set_option maxRecDepth 100000
set_option maxHeartbeats 4000000
theorem zmq:∃i,Tryz.prog.info? 21=some i∧i.zero=some (.int .i32 0)∧i.size=1∧i.bytes=4:=by
 have h:(Tryz.prog.info? 21).map (fun i=>(i.zero,i.size,i.bytes))=some (some (.int .i32 0),1,4):=by kernel_rfl
 simp only[Option.map_eq_some_iff,Prod.mk.injEq]at h
 obtain⟨i,h0,h1,h2,h3⟩:=h
 exact⟨i,h0,h1,h2,h3⟩
theorem zi0(w:World):Calls Tryz.prog 130 #[.slice none 0 0,.int .i64 0] w fun e w'=>e=.returned (.slice none 0 0)∧w'=w:=by
 go_enter Tryz.func130,Tryz.ntmps130
 go_wp2
 go_ret
 exact⟨rfl,rfl⟩
theorem zkc(n:Nat)(w:World)(hn:0<n)(hbig:n*4≤140737488355328):
  ∃G,n≤G∧G≤9223372036854775807∧Calls Tryz.prog 130 #[.slice none 0 0,.int .i64 n] w fun e w'=>e=.returned (.slice (some ⟨w.heap.size,0,none⟩) 0 G)∧
   w'=w.drew.alloc (.cells (Builtin.zeroCells (Value.int .i32 0).cells n++Builtin.zeroCells (Value.int .i32 0).cells (G-n)) 21):=by
 obtain⟨i0,hi0,hz0,hzs,hzb⟩:=zmq
 have hrz:∀ty,(Builtin.append_ #[22,3] ty #[.slice none 0 0,.int .i64 n]).run Tryz.prog w=_:=fun ty=>
  run_append_nil_zeros w 22 3 ty 21 i0 _ .i64 .i64 Tryz.underlying22 Tryz.underlying3 hi0 hz0 n hn (by omega) (by omega) (by rw[hzb];omega)
 obtain⟨G,hG⟩:∃G,G=grownCap w n 0 21:=⟨_,rfl⟩
 have hGn:n≤G:=by rw[hG];exact grownCap_ge w _ _ _
 have hG63:G≤9223372036854775807:=by
  have:=grownCap_le_maxLen w n 0 21 (by unfold maxLen;omega)
  rw[←hG]at this
  unfold maxLen at this
  omega
 rw[←hG]at hrz
 refine⟨G,hGn,hG63,?_⟩
 have h1:¬((n:Int)<0):=by omega
 have h3:IntKind.i64.wrap (n:Int)=n:=by rw[IntKind.wrap_i64];omega
 have h4:(0:Int)< (n:Int):=by omega
 go_enter Tryz.func130,Tryz.ntmps130
 go_wp2_with (at_builtin;refine Lib.wpList_append_run _ rfl _ _ _ _ rfl _ _ rfl rfl _ _ (hrz _) ?_)
 go_ret
 exact⟨rfl,rfl⟩
end Go.Proofs.YtjefahhmkcfiiaaGreat
end
section
namespace Go.AM
structure Chg(g:Gh)(w w':World)(B:Nat):Prop where
 old:∀d,d<w.heap.size→d≠B→w'.heap[d]?=w.heap[d]?
 fr0:g.fr B=0
 mine:w.heap.size≤B∨g.K B≠ .prot
 lt:B<w'.heap.size
 mono:w.heap.size≤w'.heap.size
 out:w'.os=w.os∧w'.tape=w.tape∧w'.output=w.output
def ngh(g:Gh)(B m:Nat)(k:Kd):Gh:=⟨Z8 g.fr B m,fun d=>if d=B then k else .prot⟩
theorem zkw(g:Gh)(B m:Nat)(k:Kd):(ngh g B m k).fr B=m:=qz _ _ _
theorem znz(g:Gh)(B m:Nat)(k:Kd):(ngh g B m k).K B=k:=if_pos rfl
theorem Chg.ext [Gi] {g:Gh} {w w':World} {B:Nat} {rs:List (Tok×List AV)}(c:Chg g w w' B)(hG:GS g w rs)(m:Nat)(k:Kd):Ext g.fr w (ngh g B m k).fr w':=fun d o ho=>by
 have hd:d≠B:=fun e=>by subst e;rw[c.fr0]at ho;omega
 have hlt:d<w.heap.size:=by
  rcases Nat.lt_or_ge d w.heap.size with h|h
  ·exact h
  ·have:=hG.frb d h;omega
 exact⟨by show o<Z8 g.fr B m d;rw[qM _ _ _ hd];exact ho,qg (c.old d hlt hd)⟩
theorem Chg.aft [Gi] {g:Gh} {w w':World} {B:Nat} {rs:List (Tok×List AV)}(c:Chg g w w' B)(hG:GS g w rs)(m:Nat)(k:Kd):Aft g w (ngh g B m k) w' []:=
 ⟨fun d hd hk=>by
  have hdB:d≠B:=fun e=>by
   subst e
   rcases c.mine with h|h
   ·omega
   ·exact h hk
  exact⟨c.old d hd hdB,qM _ _ _ hdB,if_neg hdB⟩,c.ext hG m k,c.out,c.mono,fun _ _ _ h=>by cases h⟩
theorem Chg.frb [Gi] {g:Gh} {w w':World} {B:Nat} {rs:List (Tok×List AV)}(c:Chg g w w' B)(hG:GS g w rs)(m:Nat)(k:Kd)(d:Nat)(hd:w'.heap.size≤d):(ngh g B m k).fr d=0:=by
 have:=c.lt
 have:=c.mono
 show Z8 g.fr B m d=0
 rw[qM _ _ _ (by omega)]
 exact hG.frb d (by omega)
theorem Chg.zmu [Gi] {g:Gh} {w w':World} {B:Nat} {rs:List (Tok×List AV)}(c:Chg g w w' B)(hG:GS g w rs)(m:Nat)(rs':List (Tok×List AV)):GS (ngh g B m .prot) w' rs':=by
 have hp:∀d,(ngh g B m .prot).K d=.prot:=fun d=>by show(if d=B then Kd.prot else .prot)=.prot;split<;>rfl
 exact⟨fun b t h=>(by rw[hp]at h;cases h),fun b b' t h=>(by rw[hp]at h;cases h),fun b b' t h=>(by rw[hp]at h;cases h),fun b h=>absurd (hp b) h,c.frb hG m _,hG.gl.aft (c.aft hG m _)⟩
theorem Yc {g:Gh} {B m:Nat} {k k':Kd}(hk':k'≠ .prot) {d:Nat}(h:(ngh g B m k).K d=k'):d=B∧k=k':=by
 have h':(if d=B then k else .prot)=k':=h
 split at h'
 ·exact⟨by assumption,h'⟩
 ·exact absurd h'.symm hk'
theorem Chg.zhR [Gi] {g:Gh} {w w':World} {B:Nat} {rs:List (Tok×List AV)}(c:Chg g w w' B)(hG:GS g w rs)(m:Nat)(t:Tok)(rs':List (Tok×List AV)):GS (ngh g B m (.tail t)) w' rs':=by
 refine⟨fun b u h=>?_,fun b b' u h h'=>?_,fun b b' u h h'=>?_,fun b h=>?_,c.frb hG m _,hG.gl.aft (c.aft hG m _)⟩
 ·have:=(Yc (by simp) h).2;cases this
 ·have:=(Yc (by simp) h).2;cases this
 ·rw[(Yc (by simp) h).1,(Yc (by simp) h').1]
 ·by_cases e:b=B
  ·subst e;exact c.lt
  ·exact absurd (if_neg e) h
def Cel(fr:Nat→Nat)(w:World)(e:PV)(c:Value):Prop:=∃v,zl fr w e v∧v.cells= #[c]∧c.oneCell'=true
theorem Cel.ext {f1 f2:Nat→Nat} {w1 w2:World}(h:Ext f1 w1 f2 w2) {e:PV} {c:Value}:Cel f1 w1 e c→Cel f2 w2 e c:=fun⟨v,r,h1,h2⟩=>⟨v,r.ext h,h1,h2⟩
theorem Cel.one {fr:Nat→Nat} {w:World} {e:PV} {c:Value}(h:e.one=true):Cel fr w e c→zl fr w e c:=fun⟨v,r,h1,_⟩=>by
 have:=zl.one h r
 have h2:v.cells= #[v]:=jx this
 rw[h1]at h2
 have:c=v:=by simpa using h2
 rw[this];exact r
theorem Cel.of {fr:Nat→Nat} {w:World} {e:PV} {v:Value}(h:e.one=true)(r:zl fr w e v):Cel fr w e v:=⟨v,r,jx (zl.one h r),zl.one h r⟩
theorem LeA.ag {xs:List AV} {ys:List PV}(h:zeu xs=some ys):LeA (.ag xs) (.p (.agg ys)):=fun g w v r=>by
 have:=Y5 (x:=.ag xs) (y:=.agg ys) (by simp[toP,h]) r
 simpa only[zc]using this
theorem WI(w:World):w.drew.heap=w.heap:=rfl
end Go.AM
end
section
namespace Go.Proofs.YtjefahhmkcfiiaaGreat
open Go.AM
set_option maxHeartbeats 4000000
set_option maxRecDepth 10000
theorem zfx(z:Value)(hz:z.oneCell'=true)(n:Nat):(Builtin.zeroCells z.cells n).size=n:=by
 have:=congrArg List.length (uW z n)
 rw[jx hz]at this⊢
 simpa using this
theorem zmE [Gi](n:Nat)(hn:n*4≤140737488355328):CR Tryz.prog 130 [] [.p (.opq (.slice none 0 0)),.p (.int .i64 n)] [] (is (.os [0] 1 [])):=by
 intro w g vs hargs hG
 simp only[zt,zc,zl]at hargs
 obtain⟨v,vs',rfl,rfl,v2,vs2,rfl,rfl,rfl⟩:=hargs
 rcases Nat.eq_zero_or_pos n with h0|h0
 ·subst h0
  refine(zi0 w).mono ?_
  rintro e w' ⟨rfl,rfl⟩
  let g2:Gh:=⟨g.fr,fun _=>.prot⟩
  exact⟨_,.os [0] 1 [],[],g2,rfl,⟨rfl,rfl⟩,by simp only[zc,zl];exact⟨.inl ⟨trivial,none,0,rfl⟩,.inl ⟨none,0,rfl⟩⟩,⟨fun b t h=>(by cases h),fun b b' t h=>(by cases h),fun b b' t h=>(by cases h),fun b h=>absurd rfl h,hG.frb,fun b arr e=>⟨rfl,(hG.gl b arr e).2⟩⟩,
   ⟨fun d _ _=>⟨rfl,rfl,rfl⟩,Ext.refl _ _,⟨rfl,rfl,rfl⟩,Nat.le_refl _,fun b t _ ht=>(by cases ht)⟩⟩
 ·obtain⟨G,h1,h2,hc⟩:=zkc n w h0 hn
  refine hc.mono ?_
  rintro e w' ⟨rfl,hw⟩
  have hh:w'.heap[w.heap.size]?=some (.cells (Builtin.zeroCells (Value.int .i32 0).cells n++Builtin.zeroCells (Value.int .i32 0).cells (G-n)) 21 (0,0)):=by rw[hw,heap_alloc,WI,if_pos rfl]
  have c:Chg g w w' w.heap.size:=by
   subst hw
   refine⟨fun d hd hdB=>?_,hG.frb _ (Nat.le_refl _),.inl (Nat.le_refl _),?_,?_,⟨rfl,rfl,rfl⟩⟩
   ·rw[heap_alloc,WI,if_neg hdB]
   ·simp[WI]
   ·simp[WI]
  refine⟨_,.os [0] 1 [],[],ngh g w.heap.size 0 (.tail [0]),rfl,⟨rfl,rfl⟩,?_,c.zhR hG _ _ _,c.aft hG _ _⟩
  simp only[zc,zl]
  refine⟨.inl ⟨trivial,_,G,rfl⟩,.inr ⟨w.heap.size,0,0,G,rfl,znz _ _ _ _,by rw[zkw],_,21,hh,?_⟩⟩
  simp only[Array.size_append,zfx _ (show(Value.int .i32 0).oneCell'=true from rfl)]
  omega
def qd(L:List (List Int)):Nat:=(L.map List.length).sum
theorem z8(L:List (List Int)):L.flatten.length=qd L:=by simp[qd,List.length_flatten]
theorem xh {L:List (List Int)} {i:Nat}(h:i<L.length):qd (L.take (i+1))=qd (L.take i)+L[i].length:=by
 rw[List.take_succ_eq_append_getElem h]
 simp only[qd,List.map_append,List.sum_append,List.map_cons,List.map_nil,List.sum_cons,List.sum_nil,Nat.add_zero]
theorem ZB(L:List (List Int))(i:Nat):qd (L.take i)≤qd L:=by
 have h:L.flatten.length=(L.take i).flatten.length+(L.drop i).flatten.length:=by
  rw[←List.length_append,←List.flatten_append,List.take_append_drop]
 rw[z8,z8]at h
 omega
theorem uS(a b:List Int):zu (a++b)=zu a++zu b:=by simp[zu]
theorem zbs {L:List (List Int)} {i:Nat}(h:i<L.length):(L.take (i+1)).flatten=(L.take i).flatten++L[i]:=by
 rw[List.take_succ_eq_append_getElem h]
 simp only[List.flatten_append,List.flatten_cons,List.flatten_nil,List.append_nil]
theorem ye [Gi](L:List (List Int))(hL:L.length<2^31)(hn:qd L<2^31):CR Tryz.prog 74 [] [.p (zk L)] [] (is (.p (zg L.flatten))):=by
 refine zm mixed 9 [9,10,11,25,26,27] Tryz.func74 rfl (by kernel_rfl) rfl (by simp) (by simp) ?_
 have htl:(qD L).length=L.length:=by simp[qD]
 simp (maxSteps:=1000000) [go_sem,Tryz.f74,zk,htl]
 refine zj (fun i:Nat=>i≤L.length) (fun i=>[(3,.p (.int .i64 (qd (L.take i):Nat))),(11,.p (.int .i64 (i:Nat))),(5,.zW)]) (fun _=>[]) (fun i=>L.length-i) 0 (by omega) (by simp[go_sem,LeS,leV,leR,leA,qd]) (fun i hi=>?_)
 have hsi:=ZB L i
 by_cases hil:i<L.length
 ·have em:elemAt (qD L) i=zg L[i]:=by rw[qD,zr zg L i hil]
  have e1:=xh hil
  have hs2:=ZB L (i+1)
  have g1:(i:Int)<L.length:=by omega
  have w1:IntKind.i64.wrap ((i:Int)+1)=((i+1:Nat):Int):=zI (by omega)
  generalize L[i]=x at em e1
  have w2:IntKind.i64.wrap ((qd (L.take i):Int)+x.length)=((qd (L.take (i+1)):Nat):Int):=xe (by omega) e1
  have g2:¬((qd (L.take (i+1)):Int)<0):=by omega
  simp (maxSteps:=1000000) [go_sem,g1,em,htl,zg,zp,w1,w2,g2]
  exact zf (i+1) (by omega) (by simp[go_sem,LeS,leV,leR,leA]) (by omega)
 ·have g1:¬(i:Int)<L.length:=by omega
  obtain rfl:i=L.length:=by omega
  rw[List.take_length]at hsi⊢
  simp (maxSteps:=1000000) [go_sem,g1]
  refine⟨⟨rfl,by simp[Tryz.f130]⟩,zb [] (zmE (qd L) (by omega)) (by simp[go_sem]) ⟨by simp[go_sem],by simp[go_sem]⟩ (by simp[go_sem]) ?_⟩
  rintro y rs ⟨rfl,rfl⟩
  simp (maxSteps:=1000000) [go_sem,htl]
  refine zj (fun i:Nat=>i≤L.length) (fun i=>[(6,.os [6] 1 (zu (L.take i).flatten)),(27,.p (.int .i64 (i:Nat))),(8,.zW)]) (fun _=>[]) (fun i=>L.length-i) 0 (by omega) (by simp[go_sem,LeS,leV,leR,leA,zu]) (fun i hi=>?_)
  have hsi:=ZB L i
  by_cases hil:i<L.length
  ·have em:elemAt (qD L) i=zg L[i]:=by rw[qD,zr zg L i hil]
   have e1:=xh hil
   have e2:=zbs hil
   have hs2:=ZB L (i+1)
   have g1:(i:Int)<L.length:=by omega
   have w1:IntKind.i64.wrap ((i:Int)+1)=((i+1:Nat):Int):=zI (by omega)
   have hfl:=z8 (L.take i)
   generalize L[i]=x at em e1 e2
   simp (maxSteps:=1000000) [go_sem,g1,em,htl,zg,zp,w1,hfl]
   refine⟨by omega,zf (i+1) (by omega) (by simp[go_sem,LeS,leV,leR,leA,e2,uS]) (by omega)⟩
  ·have g1:¬(i:Int)<L.length:=by omega
   obtain rfl:i=L.length:=by omega
   rw[List.take_length]
   simp (maxSteps:=1000000) [go_sem,g1]
   exact zh (.p (zg L.flatten)) rfl (by simp[go_sem,zd,leA,leT,zg]) ⟨rfl,rfl⟩
end Go.Proofs.YtjefahhmkcfiiaaGreat
end
section
namespace Go.Proofs.YtjefahhmkcfiiaaGreat
open Go.AM
set_option maxHeartbeats 4000000
set_option maxRecDepth 10000
def zG(L:List (List Int))(a:Int):PV:=.agg [zk L,.int .i64 a]
theorem zX(L:List (List Int)):(qD L).length=L.length:=by simp[qD]
def jr(L:List (List Int))(n:Int):Nat:=(max (min n (L.length:Int)) 0).toNat
theorem zb4(L:List (List Int))(n:Int):jr L n≤L.length:=by unfold jr;omega
theorem zlX(L:List (List Int))(n:Int):((jr L n:Nat):Int)=max (min n (L.length:Int)) 0:=by unfold jr;omega
theorem K5 [Gi](L:List (List Int))(a n:Int):CR Tryz.prog 77 [] [.p (zG L a),.p (.int .i64 n)] [] (is (.p (.int .i64 (jr L n:Nat)))):=by
 refine zm mixed 5 [] Tryz.func77 rfl (by kernel_rfl) rfl (by simp) (by simp) ?_
 simp (maxSteps:=1000000) [go_sem,Tryz.f77,zG,zk,zX]
 rw[zlX]
 generalize max (min n (L.length:Int)) 0=v
 exact zh (.p (.int .i64 v)) rfl (by simp[go_sem,zd,leA,leT]) ⟨rfl,rfl⟩
theorem uJ [Gi](L:List (List Int))(a:Int)(hL:L.length<2^31)(hn:qd L<2^31):CR Tryz.prog 24 [] [.p (zG L a)] [] (is (.p (zg L.flatten))):=by
 refine zm mixed 3 [] Tryz.func24 rfl (by kernel_rfl) rfl (by simp) (by simp) ?_
 simp (maxSteps:=1000000) [go_sem,Tryz.f24,zG,zk]
 refine⟨⟨rfl,by simp[Tryz.f74]⟩,zb [] (ye L hL hn) (by simp[go_sem]) ⟨by simp[go_sem],by simp[go_sem,zk]⟩ (by simp[go_sem]) ?_⟩
 rintro _ rs ⟨rfl,rfl⟩
 simp (maxSteps:=1000000) [go_sem,zg]
 exact zh (.p (zg L.flatten)) rfl (by simp[go_sem,zd,leA,leT,zg]) ⟨rfl,rfl⟩
def wy(L:List (List Int))(a:Int):Nat:=qd (L.take (jr L a))
theorem yJ [Gi](L:List (List Int))(a:Int)(hL:L.length<2^31)(hn:qd L<2^31):CR Tryz.prog 26 [] [.p (zG L a)] [] (is (.p (.int .i64 (wy L a:Nat)))):=by
 refine zS [1] mixed 3 [] Tryz.func26 rfl (by kernel_rfl) rfl (by simp) (by simp) ?_
 have h1:=zb4 L a
 have h2:=ZB L (jr L a)
 have hfl:=z8 (L.take (jr L a))
 simp (maxSteps:=1000000) [go_sem,Tryz.f26,zG,zk]
 refine zN (.p (.int .i64 (jr L a:Nat))) rfl rfl (fun _=>zM 77 (K5 L a a) rfl ⟨rfl,by simp[Tryz.f77]⟩ ⟨by simp[go_sem],by simp[go_sem,zG,zk]⟩) ?_
 have hcut:cut (qD L) 0 (jr L a:Nat)=qD (L.take (jr L a)):=by simp[cut,qD]
 unfold wy
 generalize jr L a=k at h1 h2 hfl hcut
 simp (maxSteps:=1000000) [go_sem,zX,hcut]
 refine⟨h1,zN (.p (zg (L.take k).flatten)) rfl rfl (fun _=>zM 74 (ye (L.take k) (by rw[List.length_take];omega) (by omega)) rfl ⟨rfl,by simp[Tryz.f74]⟩ ⟨by simp[go_sem],by simp[go_sem,zk]⟩) ?_⟩
 simp (maxSteps:=1000000) [go_sem,zg,zp,hfl]
 exact zh (.p (.int .i64 (qd (L.take k):Nat))) rfl (by simp[go_sem,zd,leA,leT]) ⟨rfl,rfl⟩
theorem zw(b:List Int)(m:Nat):∃k v,elemAt (zu b) m=.int k v:=by
 by_cases h:m<b.length
 ·exact⟨_,_,by rw[zu,zr (fun r=>PV.int .i32 r) b _ h]⟩
 ·refine⟨default,default,?_⟩
  simp[elemAt,zu,List.getD,List.getElem?_eq_none (by simpa using h)];rfl
def qN:List Int→List Int→Nat
 |x::a,y::b=>if x=y then qN a b+1 else 0
 |_,_=>0
def ZP(a b:List Int):Nat:=qN a.reverse b.reverse
theorem zj3 [Gi](a b:List Int)(ha:a.length<2^31)(hb:b.length<2^31):CR Tryz.prog 75 [] [.p (zg a),.p (zg b)] [] (is (.p (.int .i64 (ZP a b:Nat)))):=by
 refine zm mixed 6 [] Tryz.func75 rfl (by kernel_rfl) rfl (by simp) (by simp) ?_
 simp (maxSteps:=1000000) [go_sem,Tryz.f75,zg]
 refine zj (fun i:Nat=>i≤a.length∧i≤b.length∧ZP a b=i+qN (a.reverse.drop i) (b.reverse.drop i)) (fun i=>[(5,.p (.int .i64 (i:Nat)))]) (fun _=>[]) (fun i=>a.length-i) 0 ⟨by omega,by omega,by simp[ZP]⟩ (by simp[go_sem,LeS,leV,leR,leA]) (fun i hi=>?_)
 obtain⟨h1,h2,h3⟩:=hi
 by_cases c1:i<a.length
 ·by_cases c2:i<b.length
  ·have ea:a.reverse.drop i=a.reverse[i]'(by simpa using c1)::a.reverse.drop (i+1):=List.drop_eq_getElem_cons (by simpa using c1)
   have eb:b.reverse.drop i=b.reverse[i]'(by simpa using c2)::b.reverse.drop (i+1):=List.drop_eq_getElem_cons (by simpa using c2)
   rw[List.getElem_reverse]at ea eb
   have l1:a.length-1-i<a.length:=by omega
   have l2:b.length-1-i<b.length:=by omega
   have m1:elemAt (zu a) (a.length-1-i)=.int .i32 a[a.length-1-i]:=by rw[zu,zr (fun r=>PV.int .i32 r) a _ l1]
   have m2:elemAt (zu b) (b.length-1-i)=.int .i32 b[b.length-1-i]:=by rw[zu,zr (fun r=>PV.int .i32 r) b _ l2]
   generalize a[a.length-1-i]=x at ea m1
   generalize b[b.length-1-i]=y at eb m2
   rw[ea,eb,qN]at h3
   obtain⟨ka,hka⟩:∃ka,ka=a.length-1-i:=⟨_,rfl⟩
   obtain⟨kb,hkb⟩:∃kb,kb=b.length-1-i:=⟨_,rfl⟩
   rw[←hka]at m1 l1
   rw[←hkb]at m2 l2
   have w1:IntKind.i64.wrap ((a.length:Int)-1)=((a.length-1:Nat):Int):=zq (by omega) (by omega)
   have w2:IntKind.i64.wrap (((a.length-1:Nat):Int)-i)=(ka:Int):=QD (by omega) (by omega)
   have w3:IntKind.i64.wrap ((b.length:Int)-1)=((b.length-1:Nat):Int):=zq (by omega) (by omega)
   have w4:IntKind.i64.wrap (((b.length-1:Nat):Int)-i)=(kb:Int):=QD (by omega) (by omega)
   have w5:IntKind.i64.wrap ((i:Int)+1)=((i+1:Nat):Int):=zI (by omega)
   have c1':(i:Int)<a.length:=by omega
   have c2':(i:Int)<b.length:=by omega
   have l1':(ka:Int)<a.length:=by omega
   have l2':(kb:Int)<b.length:=by omega
   by_cases c3:x=y
   ·simp (maxSteps:=1000000) [go_sem,zp,c1',c2',w1,w2,w3,w4,w5,m1,m2,l1',l2',c3]
    exact zf (i+1) ⟨by omega,by omega,by rw[h3,if_pos c3];omega⟩ (by simp[go_sem,LeS,leV,leR,leA]) (by omega)
   ·have e:ZP a b=i:=by rw[h3,if_neg c3];omega
    rw[e]
    simp (maxSteps:=1000000) [go_sem,zp,c1',c2',w1,w2,w3,w4,m1,m2,l1',l2',c3]
    exact zh (.p (.int .i64 (i:Nat))) rfl (by simp[go_sem,zd,leA,leT]) ⟨rfl,rfl⟩
  ·have e:ZP a b=i:=by
    have z:b.reverse.drop i=[]:=List.drop_eq_nil_of_le (by simp;omega)
    rw[h3,z];cases a.reverse.drop i<;>simp[qN]
   rw[e]
   have c1':(i:Int)<a.length:=by omega
   have c2':¬(i:Int)<b.length:=by omega
   obtain⟨k1,v1,e1⟩:=zw a (IntKind.i64.wrap (IntKind.i64.wrap ((a.length:Int)-1)-i)).toNat
   obtain⟨k2,v2,e2⟩:=zw b (IntKind.i64.wrap (IntKind.i64.wrap ((b.length:Int)-1)-i)).toNat
   by_cases ck:k1=k2<;>simp (maxSteps:=1000000) [go_sem,zp,c1',c2',e1,e2,ck]<;>exact zh (.p (.int .i64 (i:Nat))) rfl (by simp[go_sem,zd,leA,leT]) ⟨rfl,rfl⟩
 ·have e:ZP a b=i:=by
   have z:a.reverse.drop i=[]:=List.drop_eq_nil_of_le (by simp;omega)
   rw[h3,z];simp[qN]
  rw[e]
  have c1':¬(i:Int)<a.length:=by omega
  obtain⟨k1,v1,e1⟩:=zw a (IntKind.i64.wrap (IntKind.i64.wrap ((a.length:Int)-1)-i)).toNat
  obtain⟨k2,v2,e2⟩:=zw b (IntKind.i64.wrap (IntKind.i64.wrap ((b.length:Int)-1)-i)).toNat
  by_cases ck:k1=k2<;>simp (maxSteps:=1000000) [go_sem,zp,c1',e1,e2,ck]<;>exact zh (.p (.int .i64 (i:Nat))) rfl (by simp[go_sem,zd,leA,leT]) ⟨rfl,rfl⟩
end Go.Proofs.YtjefahhmkcfiiaaGreat
end
