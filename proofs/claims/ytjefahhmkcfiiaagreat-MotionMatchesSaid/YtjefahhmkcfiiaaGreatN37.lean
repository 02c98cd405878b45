/- A part of the proof of this seat's statements, by an abstract machine: what each operation does to values, and what the law's functions compute. Conditions: as each law says. -/
import Derived.Test.YtjefahhmkcfiiaaGreatN36
import Derived.Test.YtjefahhmkcfiiaaGreatChecked
import Derived.KernelRfl
import Derived.WalkKit
import Derived.Shelf.Spec.SlicesInsert
import Derived.Lib.AppendZerosOnto
import Derived.Laws.NewBlocks
import Derived.Test.YtjefahhmkcfiiaaGreatN19
import Derived.Laws.IdiomCopy
section
namespace Go.Proofs.YtjefahhmkcfiiaaGreat
open Go.AM
set_option maxHeartbeats 4000000
set_option maxRecDepth 10000
theorem Zf(a b:List Int):zu (a++b)=zu a++zu b:=by simp[zu]
theorem qA(x:Int):zu [x]=[.p (.int .i32 x)]:=rfl
def mk2(m:List (Za×Int))(a b:Int):Option Int:=(ym a b).or (if b=0 then none else mkB m ⟨a,b⟩)
def J1(x:Option Int):AV:=.tup [.p (.int .i32 (qW x)),.p (.bool x.isSome)]
theorem zdU [Gi](c b j f p:PV)(m:List (Za×Int))(sk sx:List PV)(x y:Int):CR Tryz.prog 172 [] [.p (zE c b j f p (ckP m) (cxP m) sk sx),.p (.int .i32 x),.p (.int .i32 y)] [] (is (J1 (mk2 m x y))):=by
 refine zm mixed 11 [] Tryz.func172 rfl (by kernel_rfl) rfl (by simp) (by simp) ?_
 simp (maxSteps:=1000000) [go_sem,Tryz.f172,zE]
 refine⟨⟨rfl,by simp[Tryz.f206]⟩,zb [] (zkF x y) (by simp[go_sem]) ⟨by simp[go_sem],by simp[go_sem]⟩ (by simp[go_sem]) ?_⟩
 rintro _ rs ⟨rfl,rfl⟩
 cases hj:ym x y with
 |some z=>
  have e:mk2 m x y=some z:=by unfold mk2;rw[hj];rfl
  rw[e]
  simp (maxSteps:=1000000) [go_sem,JC]
  exact zg (J1 (some z)) rfl (by simp[go_sem,zf,leA,leT,leP,J1,qW]) ⟨rfl,rfl⟩
 |none=>
  have e:mk2 m x y=if y=0 then none else mkB m ⟨x,y⟩:=by unfold mk2;rw[hj];rfl
  rw[e]
  simp (maxSteps:=1000000) [go_sem,JC]
  refine⟨⟨rfl,by simp[Tryz.f207]⟩,zb [] (zeZ c b j f p m sk sx x y) (by simp[go_sem]) ⟨by simp[go_sem],by simp[go_sem,zE]⟩ (by simp[go_sem]) ?_⟩
  rintro _ rs ⟨rfl,rfl⟩
  cases (if y=0 then none else mkB m ⟨x,y⟩)with
  |none=>
   simp (maxSteps:=1000000) [go_sem,Js]
   exact zg (J1 none) rfl (by simp[go_sem,zf,leA,leT,leP,J1,qW]) ⟨rfl,rfl⟩
  |some z=>
   simp (maxSteps:=1000000) [go_sem,Js]
   exact zg (J1 (some z)) rfl (by simp[go_sem,zf,leA,leT,leP,J1,qW]) ⟨rfl,rfl⟩
structure Cst where
 o:List Int
 s:Int
 l:Int
def ZL(k:Int→Int)(z:Cst)(r:Int):Cst:=⟨z.o++[r],if k r=0 then z.o.length else z.s,k r⟩
def Xz(k:Int→Int)(z:Cst)(r:Int):Prop:=0≤z.s∧(z.s=z.o.length-1∨(z.l≠0∧z.l<k r))
instance (k:Int→Int)(z:Cst)(r:Int):Decidable (Xz k z r):=by unfold Xz;infer_instance
def yr(k:Int→Int)(mk:Int→Int→Option Int)(z:Cst)(r:Int):Cst:=
 if Xz k z r then match mk (z.o[z.s.toNat]?.getD 0) r with
  |some c=>⟨z.o.set z.s.toNat c,z.s,z.l⟩
  |none=>ZL k z r
 else ZL k z r
def Zv(k:Int→Int)(mk:Int→Int→Option Int)(l:List Int):Cst:=l.foldl (yr k mk) ⟨[], -1,0⟩
theorem JQ(k:Int→Int)(mk:Int→Int→Option Int)(l:List Int)(x:Int):Zv k mk (l++[x])=yr k mk (Zv k mk l) x:=by simp[Zv,List.foldl_append]
structure W6(z:Cst)(n:Nat):Prop where
 lo: -1≤z.s
 hi:z.s<z.o.length
 nn:z.o.length≤n
 ne:0<n→z.o≠ []
theorem W6.push {z:Cst} {n:Nat}(h:W6 z n)(k:Int→Int)(r:Int):W6 (ZL k z r) (n+1):=by
 obtain⟨h1,h2,h3,h4⟩:=h
 refine⟨?_,?_,by simp[ZL];omega,by simp[ZL]⟩
 ·unfold ZL;simp only;split<;>omega
 ·unfold ZL;simp only[List.length_append,List.length_singleton];split<;>omega
theorem W6.step {z:Cst} {n:Nat}(h:W6 z n)(k:Int→Int)(mk:Int→Int→Option Int)(r:Int):W6 (yr k mk z r) (n+1):=by
 unfold yr
 split
 ·rename_i hf
  split
  ·obtain⟨h1,h2,h3,h4⟩:=h
   have:=hf.1
   refine⟨h1,by simp;omega,by simp;omega,fun _ e=>?_⟩
   have:=congrArg List.length e
   rw[List.length_set,List.length_nil]at this
   omega
  ·exact h.push k r
 ·exact h.push k r
theorem zcd(k:Int→Int)(mk:Int→Int→Option Int)(l:List Int):W6 (Zv k mk l) l.length:=by
 suffices H:∀(l':List Int) (z:Cst) (n:Nat),W6 z n→W6 (l'.foldl (yr k mk) z) (n+l'.length) by
  have:=H l ⟨[], -1,0⟩ 0 ⟨by simp,by simp,by simp,by simp⟩
  simpa[Zv]using this
 intro l'
 induction l' with
 |nil=>intro z n h;simpa using h
 |cons x l' ih=>
  intro z n h
  have:=ih _ _ (h.step k mk x)
  simpa[Nat.add_assoc,Nat.add_comm 1]using this
def zbm(o:List Int):AV:=if o=[]then .p (.opq (.slice none 0 0))else .la [64] 1 0 o.length
def zbM(o:List Int):List (Tok×List AV):=if o=[]then []else [([64],zu o)]
theorem zaP [Gi] {t:zR} {c b j f p:PV}(h:Qp t c b j f p)(hz:Z3 t)(m:List (Za×Int))(sk sx:List PV)(l:List Int)(hl0:l≠ [])(hn:l.length<2^31)(hr:∀x∈l,zL x):
  CR Tryz.prog 127 [] [.p (zE c b j f p (ckP m) (cxP m) sk sx),.p (zh l)] [] (fun x rs=>x=.la [64] 1 0 (Zv (zI t) (mk2 m) l).o.length∧rs=[([64],zu (Zv (zI t) (mk2 m) l).o)]):=by
 refine qK [] mixed 14 [14,15,16] Tryz.func127 rfl (by kernel_rfl) [5,64] rfl (by simp) (by simp) ?_
 simp (maxSteps:=1000000) [go_sem,Tryz.f127,zh,zp,zE]
 refine zi (fun i:Nat=>i≤l.length) (fun i=>[(16,.p (.int .i64 (i:Nat))),(5,zbm (Zv (zI t) (mk2 m) (l.take i)).o),(6,.p (.int .i64 (Zv (zI t) (mk2 m) (l.take i)).s)),(7,.p (.int .i64 (Zv (zI t) (mk2 m) (l.take i)).l)),(9,.zZ),(10,.zZ),(11,.zZ),(12,.zZ),(13,.zZ)]) (fun i=>zbM (Zv (zI t) (mk2 m) (l.take i)).o) (fun i=>l.length-i) 0 (by omega)
  (by simp[go_sem,LeS,leV,leR,leA,Zv,zbm,zbM]) (fun i hi=>?_)
 have hok:=zcd (zI t) (mk2 m) (l.take i)
 have hlt:(l.take i).length=i:=by rw[List.length_take];omega
 rw[hlt]at hok
 by_cases hil:i<l.length
 ·obtain⟨x,hx⟩:∃x,l[i]=x:=⟨_,rfl⟩
  have hxr:zL x:=hr x (by rw[←hx];exact List.getElem_mem _)
  have em:elemAt (zB l) i=.int .i32 x:=by rw[zB,zq (fun r=>PV.int .i32 r) l i hil,hx]
  have htk:l.take (i+1)=l.take i++[x]:=by rw[List.take_add_one,List.getElem?_eq_getElem hil,hx];rfl
  have hnx:Zv (zI t) (mk2 m) (l.take (i+1))=yr (zI t) (mk2 m) (Zv (zI t) (mk2 m) (l.take i)) x:=by rw[htk,JQ]
  have w1:IntKind.i64.wrap ((i:Int)+1)=((i+1:Nat):Int):=zP (by omega)
  have hil':(i:Int)<l.length:=by omega
  have w0:IntKind.i64.wrap 1=1:=wrap64 (by omega) (by omega)
  generalize Zv (zI t) (mk2 m) (l.take i)=z at hok hnx
  obtain⟨o,s,la⟩:=z
  obtain⟨k1,k2,k3,k4⟩:=hok
  simp only at k1 k2 k3 k4
  obtain⟨cl,hcl⟩:∃cl,cl=zI t x:=⟨_,rfl⟩
  have hcl':t.cls (rn x)=cl:=hcl.symm
  by_cases hi0:i=0
  ·subst hi0
   have ho:o=[]:=by cases o with
    |nil=>rfl
    |cons y o=>simp at k3
   subst ho
   have hs:s= -1:=by simp at k2;omega
   subst hs
   have hf:yr (zI t) (mk2 m) ⟨[], -1,la⟩ x=ZL (zI t) ⟨[], -1,la⟩ x:=if_neg (fun hh=>by have:=hh.1;simp at this)
   simp (maxSteps:=1000000) [go_sem,zbm,zbM,hil,em,zp]
   refine⟨⟨rfl,by simp[Tryz.f124]⟩,zb [] (Q9 h (ckP m) (cxP m) sk sx hz hxr) (by simp[go_sem]) ⟨by simp[go_sem],by simp[go_sem,zE]⟩ (by simp[go_sem]) ?_⟩
   rintro _ rs ⟨rfl,rfl⟩
   rw[hcl']
   by_cases hc0:cl=0
   ·have e2:Zv (zI t) (mk2 m) (l.take (0+1))=⟨[x],0,0⟩:=by rw[hnx,hf];simp[ZL,←hcl,hc0]
    simp (maxSteps:=1000000) [go_sem,hc0]
    exact zc 1 (by omega) (by simp[go_sem,LeS,leV,leR,leA,leL,e2,qA,w0]) (by omega)
   ·have e2:Zv (zI t) (mk2 m) (l.take (0+1))=⟨[x], -1,cl⟩:=by rw[hnx,hf];simp[ZL,←hcl,hc0]
    simp (maxSteps:=1000000) [go_sem,hc0]
    exact zc 1 (by omega) (by simp[go_sem,LeS,leV,leR,leA,leL,e2,qA,w0]) (by omega)
  ·have hne:o≠ []:=k4 (by omega)
   have hol:0<o.length:=List.length_pos_iff.2 hne
   obtain⟨n,hno⟩:∃n,n=o.length:=⟨_,rfl⟩
   have wl:IntKind.i64.wrap ((o.length:Int)-1)=(o.length:Int)-1:=wrap64 (by omega) (by omega)
   by_cases hs0:0≤s
   ·by_cases hs1:s=o.length-1
    ·have hs1x:((o.length:Int)-1:Int)=s:=hs1.symm
     have hf:yr (zI t) (mk2 m) ⟨o,s,la⟩ x=match mk2 m (o[s.toNat]?.getD 0) x with|some c=>⟨o.set s.toNat c,s,la⟩|none=>ZL (zI t) ⟨o,s,la⟩ x:=if_pos ⟨hs0,.inl hs1⟩
     have hsl:s.toNat<o.length:=by omega
     have gy:=Zr (List.getElem?_eq_getElem hsl)
     have hgd:o[s.toNat]?.getD 0=o[s.toNat]:=by rw[List.getElem?_eq_getElem hsl];rfl
     rw[hgd]at hf
     have hput:∀v,(zu o).take s.toNat++AV.p (.int .i32 v)::(zu o).drop (s.toNat+1)=zu (o.set s.toNat v):=fun v=>Zn v hsl
     generalize o[s.toNat]=y at gy hf
     have gy2:∀hh,(zu o)[s.toNat]'hh=.p (.int .i32 y):=fun hh=>by
      have:=gy
      rw[List.getElem?_eq_getElem hh]at this
      injection this
     have ws:IntKind.i64.wrap s=s:=wrap64 (by omega) (by omega)
     have hsn:s<o.length:=k2
     simp (maxSteps:=1000000) [go_sem,zbm,zbM,hne,hil',em,zp]
     refine⟨⟨rfl,by simp[Tryz.f124]⟩,zb [] (Q9 h (ckP m) (cxP m) sk sx hz hxr) (by simp[go_sem]) ⟨by simp[go_sem],by simp[go_sem,zE]⟩ (by simp[go_sem]) ?_⟩
     rintro _ rs ⟨rfl,rfl⟩
     rw[hcl']
     simp (maxSteps:=1000000) [go_sem,hs1x,hs0,gy2,hsn,ws]
     refine⟨⟨rfl,by simp[Tryz.f172]⟩,zb [] (zdU c b j f p m sk sx y x) (by simp[go_sem]) ⟨by simp[go_sem],by simp[go_sem,zE]⟩ (by simp[go_sem]) ?_⟩
     rintro _ rs ⟨rfl,rfl⟩
     cases hmk:mk2 m y x with
     |some q=>
      have e2:Zv (zI t) (mk2 m) (l.take (i+1))=⟨o.set s.toNat q,s,la⟩:=by rw[hnx,hf,hmk]
      have hp:=hput q
      have hne2:o.set s.toNat q≠ []:=fun e=>by have:=congrArg List.length e;rw[List.length_set,List.length_nil]at this;omega
      simp (maxSteps:=1000000) [go_sem,J1,qW,hs0,hsn,hp,w1,WH]
      exact⟨by omega,zc (i+1) (by omega) (by simp[go_sem,LeS,leV,leR,leA,e2,hne2,zj]) (by omega)⟩
     |none=>
      have hf2:yr (zI t) (mk2 m) ⟨o,s,la⟩ x=ZL (zI t) ⟨o,s,la⟩ x:=by rw[hf,hmk]
      simp (maxSteps:=1000000) [go_sem,J1,qW]
      by_cases hc0:cl=0
      ·have e2:Zv (zI t) (mk2 m) (l.take (i+1))=⟨o++[x],(o.length:Int),0⟩:=by rw[hnx,hf2];simp[ZL,←hcl,hc0]
       simp (maxSteps:=1000000) [go_sem,hc0,w1]
       exact⟨by omega,zc (i+1) (by omega) (by simp[go_sem,LeS,leV,leR,leA,e2,Zf,qA,zj]) (by omega)⟩
      ·have e2:Zv (zI t) (mk2 m) (l.take (i+1))=⟨o++[x],s,cl⟩:=by rw[hnx,hf2];simp[ZL,←hcl,hc0]
       simp (maxSteps:=1000000) [go_sem,hc0,w1]
       exact⟨by omega,zc (i+1) (by omega) (by simp[go_sem,LeS,leV,leR,leA,e2,Zf,qA,zj]) (by omega)⟩
    ·by_cases hl1:la=0
     ·skip
      have hf:yr (zI t) (mk2 m) ⟨o,s,la⟩ x=ZL (zI t) ⟨o,s,la⟩ x:=if_neg (fun hh=>hh.2.elim hs1 (fun h2=>h2.1 hl1))
      simp (maxSteps:=1000000) [go_sem,zbm,zbM,hne,hil',em,zp]
      refine⟨⟨rfl,by simp[Tryz.f124]⟩,zb [] (Q9 h (ckP m) (cxP m) sk sx hz hxr) (by simp[go_sem]) ⟨by simp[go_sem],by simp[go_sem,zE]⟩ (by simp[go_sem]) ?_⟩
      rintro _ rs ⟨rfl,rfl⟩
      rw[hcl']
      simp (maxSteps:=1000000) [go_sem,hs0,hs1,hl1,wl]
      by_cases hc0:cl=0
      ·have e2:Zv (zI t) (mk2 m) (l.take (i+1))=⟨o++[x],(o.length:Int),0⟩:=by rw[hnx,hf];simp[ZL,←hcl,hc0]
       simp (maxSteps:=1000000) [go_sem,hc0,w1]
       exact⟨by omega,zc (i+1) (by omega) (by simp[go_sem,LeS,leV,leR,leA,e2,Zf,qA,zj]) (by omega)⟩
      ·have e2:Zv (zI t) (mk2 m) (l.take (i+1))=⟨o++[x],s,cl⟩:=by rw[hnx,hf];simp[ZL,←hcl,hc0]
       simp (maxSteps:=1000000) [go_sem,hc0,w1]
       exact⟨by omega,zc (i+1) (by omega) (by simp[go_sem,LeS,leV,leR,leA,e2,Zf,qA,zj]) (by omega)⟩
     ·by_cases hl2:la<cl
      ·skip
       have hf:yr (zI t) (mk2 m) ⟨o,s,la⟩ x=match mk2 m (o[s.toNat]?.getD 0) x with|some c=>⟨o.set s.toNat c,s,la⟩|none=>ZL (zI t) ⟨o,s,la⟩ x:=if_pos ⟨hs0,.inr ⟨hl1,by rw[←hcl];exact hl2⟩⟩
       have hsl:s.toNat<o.length:=by omega
       have gy:=Zr (List.getElem?_eq_getElem hsl)
       have hgd:o[s.toNat]?.getD 0=o[s.toNat]:=by rw[List.getElem?_eq_getElem hsl];rfl
       rw[hgd]at hf
       have hput:∀v,(zu o).take s.toNat++AV.p (.int .i32 v)::(zu o).drop (s.toNat+1)=zu (o.set s.toNat v):=fun v=>Zn v hsl
       generalize o[s.toNat]=y at gy hf
       have gy2:∀hh,(zu o)[s.toNat]'hh=.p (.int .i32 y):=fun hh=>by
        have:=gy
        rw[List.getElem?_eq_getElem hh]at this
        injection this
       have ws:IntKind.i64.wrap s=s:=wrap64 (by omega) (by omega)
       have hsn:s<o.length:=k2
       simp (maxSteps:=1000000) [go_sem,zbm,zbM,hne,hil',em,zp]
       refine⟨⟨rfl,by simp[Tryz.f124]⟩,zb [] (Q9 h (ckP m) (cxP m) sk sx hz hxr) (by simp[go_sem]) ⟨by simp[go_sem],by simp[go_sem,zE]⟩ (by simp[go_sem]) ?_⟩
       rintro _ rs ⟨rfl,rfl⟩
       rw[hcl']
       simp (maxSteps:=1000000) [go_sem,hs1,hl1,hl2,hs0,gy2,hsn,wl]
       refine⟨⟨rfl,by simp[Tryz.f172]⟩,zb [] (zdU c b j f p m sk sx y x) (by simp[go_sem]) ⟨by simp[go_sem],by simp[go_sem,zE]⟩ (by simp[go_sem]) ?_⟩
       rintro _ rs ⟨rfl,rfl⟩
       cases hmk:mk2 m y x with
       |some q=>
        have e2:Zv (zI t) (mk2 m) (l.take (i+1))=⟨o.set s.toNat q,s,la⟩:=by rw[hnx,hf,hmk]
        have hp:=hput q
        have hne2:o.set s.toNat q≠ []:=fun e=>by have:=congrArg List.length e;rw[List.length_set,List.length_nil]at this;omega
        simp (maxSteps:=1000000) [go_sem,J1,qW,hs0,hsn,hp,w1,WH]
        exact⟨by omega,zc (i+1) (by omega) (by simp[go_sem,LeS,leV,leR,leA,e2,hne2,zj]) (by omega)⟩
       |none=>
        have hf2:yr (zI t) (mk2 m) ⟨o,s,la⟩ x=ZL (zI t) ⟨o,s,la⟩ x:=by rw[hf,hmk]
        simp (maxSteps:=1000000) [go_sem,J1,qW]
        by_cases hc0:cl=0
        ·have e2:Zv (zI t) (mk2 m) (l.take (i+1))=⟨o++[x],(o.length:Int),0⟩:=by rw[hnx,hf2];simp[ZL,←hcl,hc0]
         simp (maxSteps:=1000000) [go_sem,hc0,w1]
         exact⟨by omega,zc (i+1) (by omega) (by simp[go_sem,LeS,leV,leR,leA,e2,Zf,qA,zj]) (by omega)⟩
        ·have e2:Zv (zI t) (mk2 m) (l.take (i+1))=⟨o++[x],s,cl⟩:=by rw[hnx,hf2];simp[ZL,←hcl,hc0]
         simp (maxSteps:=1000000) [go_sem,hc0,w1]
         exact⟨by omega,zc (i+1) (by omega) (by simp[go_sem,LeS,leV,leR,leA,e2,Zf,qA,zj]) (by omega)⟩
      ·skip
       have hf:yr (zI t) (mk2 m) ⟨o,s,la⟩ x=ZL (zI t) ⟨o,s,la⟩ x:=if_neg (fun hh=>hh.2.elim hs1 (fun h2=>hl2 (by rw[hcl];exact h2.2)))
       simp (maxSteps:=1000000) [go_sem,zbm,zbM,hne,hil',em,zp]
       refine⟨⟨rfl,by simp[Tryz.f124]⟩,zb [] (Q9 h (ckP m) (cxP m) sk sx hz hxr) (by simp[go_sem]) ⟨by simp[go_sem],by simp[go_sem,zE]⟩ (by simp[go_sem]) ?_⟩
       rintro _ rs ⟨rfl,rfl⟩
       rw[hcl']
       simp (maxSteps:=1000000) [go_sem,hs0,hs1,hl1,hl2,wl]
       by_cases hc0:cl=0
       ·have e2:Zv (zI t) (mk2 m) (l.take (i+1))=⟨o++[x],(o.length:Int),0⟩:=by rw[hnx,hf];simp[ZL,←hcl,hc0]
        simp (maxSteps:=1000000) [go_sem,hc0,w1]
        exact⟨by omega,zc (i+1) (by omega) (by simp[go_sem,LeS,leV,leR,leA,e2,Zf,qA,zj]) (by omega)⟩
       ·have e2:Zv (zI t) (mk2 m) (l.take (i+1))=⟨o++[x],s,cl⟩:=by rw[hnx,hf];simp[ZL,←hcl,hc0]
        simp (maxSteps:=1000000) [go_sem,hc0,w1]
        exact⟨by omega,zc (i+1) (by omega) (by simp[go_sem,LeS,leV,leR,leA,e2,Zf,qA,zj]) (by omega)⟩
   ·skip
    have hf:yr (zI t) (mk2 m) ⟨o,s,la⟩ x=ZL (zI t) ⟨o,s,la⟩ x:=if_neg (fun hh=>hs0 hh.1)
    simp (maxSteps:=1000000) [go_sem,zbm,zbM,hne,hil',em,zp]
    refine⟨⟨rfl,by simp[Tryz.f124]⟩,zb [] (Q9 h (ckP m) (cxP m) sk sx hz hxr) (by simp[go_sem]) ⟨by simp[go_sem],by simp[go_sem,zE]⟩ (by simp[go_sem]) ?_⟩
    rintro _ rs ⟨rfl,rfl⟩
    rw[hcl']
    simp (maxSteps:=1000000) [go_sem,hs0,wl]
    by_cases hc0:cl=0
    ·have e2:Zv (zI t) (mk2 m) (l.take (i+1))=⟨o++[x],(o.length:Int),0⟩:=by rw[hnx,hf];simp[ZL,←hcl,hc0]
     simp (maxSteps:=1000000) [go_sem,hc0,w1]
     exact⟨by omega,zc (i+1) (by omega) (by simp[go_sem,LeS,leV,leR,leA,e2,Zf,qA,zj]) (by omega)⟩
    ·have e2:Zv (zI t) (mk2 m) (l.take (i+1))=⟨o++[x],s,cl⟩:=by rw[hnx,hf];simp[ZL,←hcl,hc0]
     simp (maxSteps:=1000000) [go_sem,hc0,w1]
     exact⟨by omega,zc (i+1) (by omega) (by simp[go_sem,LeS,leV,leR,leA,e2,Zf,qA,zj]) (by omega)⟩
 ·have hil':¬(i:Int)<l.length:=by omega
  obtain rfl:i=l.length:=by omega
  rw[List.take_length]at hok⊢
  have hne:=hok.ne (List.length_pos_iff.2 hl0)
  generalize Zv (zI t) (mk2 m) l=z at hok hne
  obtain⟨o,s,la⟩:=z
  simp only at hne
  simp (maxSteps:=1000000) [go_sem,zbm,zbM,hne]
  exact zl [[64]] (.la [64] 1 0 o.length) ⟨rfl,by simp⟩ (by simp[go_sem,zf,leA,leT]) ⟨rfl,by simp[go_sem]⟩
def zjQ(t:zR)(m:List (Za×Int))(l:List Int):List Int:=(Zv (zI t) (mk2 m) l).o
theorem zcE [Gi] {t:zR} {c b j f p:PV}(h:Qp t c b j f p)(hz:Z3 t)(m:List (Za×Int))(sk sx:List PV)(l:List Int)(hn:l.length<2^31)(hr:∀x∈l,zL x):
  CR Tryz.prog 127 [] [.p (zE c b j f p (ckP m) (cxP m) sk sx),.p (zh l)] [] (is (.p (zh (zjQ t m l)))):=by
 by_cases hl0:l=[]
 ·subst hl0
  refine qK [] mixed 14 [14,15,16] Tryz.func127 rfl (by kernel_rfl) [5,64] rfl (by simp) (by simp) ?_
  simp (maxSteps:=1000000) [go_sem,Tryz.f127,zh,zp,zE]
  refine zi (fun _:Unit=>True) (fun _=>[]) (fun _=>[]) (fun _=>0) () trivial (by simp[go_sem,LeS,leV,leR,leA]) (fun _ _=>?_)
  simp (maxSteps:=1000000) [go_sem]
  exact zg (.p (.sl 1 [])) rfl (by simp[go_sem,zf,leA,leT]) ⟨rfl,rfl⟩
 ·have hok:=zcd (zI t) (mk2 m) l
  exact CR.row (List.length_pos_iff.2 (hok.ne (List.length_pos_iff.2 hl0))) (zaP h hz m sk sx l hl0 hn hr)
def xJ(t:zR)(m:List (Za×Int))(l:List Int):List Int:=zjQ t m (KO t l)
theorem zjF(t:zR)(l:List Int):(KO t l).length≤768*l.length:=by unfold KO;rw[J3];exact Jr t l
theorem zgG {t:zR}(hP:Wi t) {l:List Int}(hl:∀x∈l,zL x):∀x∈KO t l,zL x:=fun x hx=>by
 rcases UM _ _ hx with hx|hx
 ·simp at hx
 ·exact Kn hP hl x hx
theorem zea [Gi] {t:zR} {c b j f p:PV}(h:Qp t c b j f p)(hz:Z3 t)(hP:Wi t)(m:List (Za×Int))(sk sx:List PV)(l:List Int)(hn:l.length<2^20)(hr:∀x∈l,zL x):
  CR Tryz.prog 72 [] [.p (zE c b j f p (ckP m) (cxP m) sk sx),.p (zh l)] [] (is (.p (zh (xJ t m l)))):=by
 refine zm mixed 5 [] Tryz.func72 rfl (by kernel_rfl) rfl (by simp) (by simp) ?_
 have hl:=zjF t l
 simp (maxSteps:=1000000) [go_sem,Tryz.f72,zh,zE]
 refine⟨⟨rfl,by simp[Tryz.f128]⟩,zb [] (zml h hz hP (ckP m) (cxP m) sk sx l hn hr) (by simp[go_sem]) ⟨by simp[go_sem],by simp[go_sem,zE,zh]⟩ (by simp[go_sem]) ?_⟩
 rintro _ rs ⟨rfl,rfl⟩
 simp (maxSteps:=1000000) [go_sem,zh]
 refine⟨⟨rfl,by simp[Tryz.f127]⟩,zb [] (zcE h hz m sk sx (KO t l) (by omega) (zgG hP hr)) (by simp[go_sem]) ⟨by simp[go_sem],by simp[go_sem,zE,zh]⟩ (by simp[go_sem]) ?_⟩
 rintro _ rs ⟨rfl,rfl⟩
 simp (maxSteps:=1000000) [go_sem,zh]
 exact zg (.p (zh (xJ t m l))) rfl (by simp[go_sem,zf,leA,leT,zh,xJ]) ⟨rfl,rfl⟩
end Go.Proofs.YtjefahhmkcfiiaaGreat
end
section
namespace Go.Proofs.YtjefahhmkcfiiaaGreat
open Go.AM
set_option maxHeartbeats 4000000
set_option maxRecDepth 10000
def zW(L:List (List Int)):List PV:=L.map zh
def zr(L:List (List Int)):PV:=.sl 1 (zW L)
theorem zh8 [Gi](l:List Int)(h0:l≠ [])(hn:l.length<2^40):CR Tryz.prog 126 [] [.p (zh l)] [] (is (.p (zh l))):=CR.row (List.length_pos_iff.2 h0) (JN l h0 hn)
theorem Ki [Gi] {t:zR} {c b j f p:PV}(h:Qp t c b j f p)(hz:Z3 t)(ck cx sk sx:List PV)(l:List Int)(hn:l.length<2^31)(hr:∀x∈l,zL x):
  CR Tryz.prog 71 [] [.p (zE c b j f p ck cx sk sx),.p (zh l)] [] (is (.p (zr (QN t l)))):=by
 refine zm mixed 8 [] Tryz.func71 rfl (by kernel_rfl) rfl (by simp) (by simp) ?_
 simp (maxSteps:=1000000) [go_sem,Tryz.f71,zh,zE]
 refine zi (fun r:List (List Int)×Nat=>r.2≤l.length∧r.1.length≤r.2∧QN t l=r.1++QN t (l.drop r.2)) (fun r=>[(6,.p (.int .i64 (r.2:Nat))),(5,.os [5] 1 (zW r.1)),(7,.zZ)]) (fun _=>[]) (fun r=>l.length-r.2) ([],0) ⟨by simp,by simp,rfl⟩ (by simp[go_sem,LeS,leV,leR,leA,zW]) (fun r hr2=>?_)
 obtain⟨D,a⟩:=r
 obtain⟨p1,p3,p2⟩:=hr2
 simp only at p1 p2 p3
 by_cases hal:a<l.length
 ·obtain⟨x,hx⟩:∃x,l[a]=x:=⟨_,rfl⟩
  have hdr:l.drop a=x::l.drop (a+1):=by rw[←hx];exact List.drop_eq_getElem_cons hal
  have hrun:=zf9 t (l.drop (a+1)) (Zo t QV x).1
  obtain⟨k,hk⟩:∃k,k=wJ t (Zo t QV x).1 (l.drop (a+1)):=⟨_,rfl⟩
  have hnx:=zfC h hz ck cx sk sx l hn hr a x (l.drop (a+1)) hdr
  rw[←hk]at hrun hnx
  rw[List.length_drop]at hrun
  obtain⟨e,he⟩:∃e,e=a+1+k:=⟨_,rfl⟩
  rw[←he]at hnx
  have hcl:QN t (l.drop a)=(l.drop a).take (k+1)::QN t (l.drop e):=by
   rw[hdr,zeG,←hk,List.drop_drop,List.take_succ_cons,he]
  have g1:(a:Int)<l.length:=by omega
  have hcut:(zB l).drop a=zB (l.drop a):=by simp[zB]
  have hcut2:(zB (l.drop a)).take (e-a)=zB ((l.drop a).take (k+1)):=by
   have:e-a=k+1:=by omega
   rw[this];simp[zB]
  have hcl0:(l.drop a).take (k+1)≠ []:=by rw[hdr];simp
  have hclen:((l.drop a).take (k+1)).length<2^40:=by rw[List.length_take,List.length_drop];omega
  obtain⟨C,hC⟩:∃C,C=(l.drop a).take (k+1):=⟨_,rfl⟩
  rw[←hC]at hcl hcut2 hcl0 hclen
  simp (maxSteps:=1000000) [go_sem,zp,g1]
  refine⟨⟨rfl,by simp[Tryz.f125]⟩,zb [] hnx (by simp[go_sem]) ⟨by simp[go_sem],by simp[go_sem,zE,zh]⟩ (by simp[go_sem]) ?_⟩
  rintro _ rs ⟨rfl,rfl⟩
  have g2:(e:Int).toNat-a=e-a:=by omega
  have hcc:cut (zB l) a e=zB C:=by rw[←hcut2,←hcut];simp[cut]
  simp (maxSteps:=1000000) [go_sem,zp,hcc]
  refine⟨⟨by omega,by omega⟩,⟨rfl,by simp[Tryz.f126]⟩,zb [] (zh8 C hcl0 hclen) (by simp[go_sem]) ⟨by simp[go_sem],by simp[go_sem,zh]⟩ (by simp[go_sem]) ?_⟩
  rintro _ rs ⟨rfl,rfl⟩
  simp (maxSteps:=1000000) [go_sem,zh]
  refine⟨rfl,by simp[zW];omega,zc (D++[C],e) ⟨by show e≤l.length;omega,by simp;omega,by rw[p2,hcl];simp⟩ (by simp[go_sem,LeS,leV,leR,leA,zW,zh]) (by show l.length-e<l.length-a;omega)⟩
 ·have g1:¬(a:Int)<l.length:=by omega
  have e:QN t l=D:=by rw[p2,List.drop_eq_nil_of_le (by omega)];simp[QN,wc]
  rw[e]
  simp (maxSteps:=1000000) [go_sem,zp,g1]
  exact zg (.p (zr D)) rfl (by simp[go_sem,zf,leA,leT,zr]) ⟨rfl,rfl⟩
end Go.Proofs.YtjefahhmkcfiiaaGreat
end
section
namespace Go.Proofs.YtjefahhmkcfiiaaGreat
open Go.RowKit Go.Lib
set_option maxRecDepth 100000
set_option maxHeartbeats 4000000
theorem zkm:∃i,Tryz.prog.info? 21=some i∧i.zero=some (.int .i32 0)∧i.size=1∧i.bytes=4:=by
 have h:(Tryz.prog.info? 21).map (fun i=>(i.zero,i.size,i.bytes))=some (some (.int .i32 0),1,4):=by kernel_rfl
 simp only[Option.map_eq_some_iff,Prod.mk.injEq]at h
 obtain⟨i,h0,h1,h2,h3⟩:=h
 exact⟨i,h0,h1,h2,h3⟩
theorem zhk(w:World):Calls Tryz.prog 130 #[.slice none 0 0,.int .i64 0] w fun e w'=>e=.returned (.slice none 0 0)∧w'=w:=by
 go_enter Tryz.func130,Tryz.ntmps130
 go_wp2
 go_ret
 exact⟨rfl,rfl⟩
theorem zjA(n:Nat)(w:World)(hn:0<n)(hbig:n*4≤140737488355328):
  ∃G,n≤G∧G≤9223372036854775807∧Calls Tryz.prog 130 #[.slice none 0 0,.int .i64 n] w fun e w'=>e=.returned (.slice (some ⟨w.heap.size,0,none⟩) 0 G)∧
   w'=w.drew.alloc (.cells (Builtin.zeroCells (Value.int .i32 0).cells n++Builtin.zeroCells (Value.int .i32 0).cells (G-n)) 21):=by
 obtain⟨i0,hi0,hz0,hzs,hzb⟩:=zkm
 have hrz:∀ty,(Builtin.append_ #[22,3] ty #[.slice none 0 0,.int .i64 n]).run Tryz.prog w=_:=fun ty=>
  run_append_nil_zeros w 22 3 ty 21 i0 _ .i64 .i64 Tryz.underlying22 Tryz.underlying3 hi0 hz0 n hn (by omega) (by omega) (by rw[hzb];omega)
 obtain⟨G,hG⟩:∃G,G=grownCap w n 0 21:=⟨_,rfl⟩
 have hGn:n≤G:=by rw[hG];exact grownCap_ge w _ _ _
 have hG63:G≤9223372036854775807:=by
  have:=grownCap_le_maxLen w n 0 21 (by unfold maxLen;omega)
  rw[←hG]at this
  unfold maxLen at this
  omega
 rw[←hG]at hrz
 refine⟨G,hGn,hG63,?_⟩
 have h1:¬((n:Int)<0):=by omega
 have h3:IntKind.i64.wrap (n:Int)=n:=by rw[IntKind.wrap_i64];omega
 have h4:(0:Int)< (n:Int):=by omega
 go_enter Tryz.func130,Tryz.ntmps130
 go_wp2_with (at_builtin;refine Lib.wpList_append_run _ rfl _ _ _ _ rfl _ _ rfl rfl _ _ (hrz _) ?_)
 go_ret
 exact⟨rfl,rfl⟩
end Go.Proofs.YtjefahhmkcfiiaaGreat
end
section
namespace Go.AM
structure Chg(g:Gh)(w w':World)(B:Nat):Prop where
 old:∀d,d<w.heap.size→d≠B→w'.heap[d]?=w.heap[d]?
 fr0:g.fr B=0
 mine:w.heap.size≤B∨g.K B≠ .prot
 lt:B<w'.heap.size
 mono:w.heap.size≤w'.heap.size
 out:w'.os=w.os∧w'.tape=w.tape∧w'.output=w.output
def ngh(g:Gh)(B m:Nat)(k:Kd):Gh:=⟨ZS g.fr B m,fun d=>if d=B then k else .prot⟩
theorem zlH(g:Gh)(B m:Nat)(k:Kd):(ngh g B m k).fr B=m:=qp _ _ _
theorem znW(g:Gh)(B m:Nat)(k:Kd):(ngh g B m k).K B=k:=if_pos rfl
theorem Chg.ext [Gi] {g:Gh} {w w':World} {B:Nat} {rs:List (Tok×List AV)}(c:Chg g w w' B)(hG:GS g w rs)(m:Nat)(k:Kd):Ext g.fr w (ngh g B m k).fr w':=fun d o ho=>by
 have hd:d≠B:=fun e=>by subst e;rw[c.fr0]at ho;omega
 have hlt:d<w.heap.size:=by
  rcases Nat.lt_or_ge d w.heap.size with h|h
  ·exact h
  ·have:=hG.frb d h;omega
 exact⟨by show o<ZS g.fr B m d;rw[qF _ _ _ hd];exact ho,zV (c.old d hlt hd)⟩
theorem Chg.aft [Gi] {g:Gh} {w w':World} {B:Nat} {rs:List (Tok×List AV)}(c:Chg g w w' B)(hG:GS g w rs)(m:Nat)(k:Kd):Aft g w (ngh g B m k) w' []:=
 ⟨fun d hd hk=>by
  have hdB:d≠B:=fun e=>by
   subst e
   rcases c.mine with h|h
   ·omega
   ·exact h hk
  exact⟨c.old d hd hdB,qF _ _ _ hdB,if_neg hdB⟩,c.ext hG m k,c.out,c.mono,fun _ _ _ h=>by cases h⟩
theorem Chg.frb [Gi] {g:Gh} {w w':World} {B:Nat} {rs:List (Tok×List AV)}(c:Chg g w w' B)(hG:GS g w rs)(m:Nat)(k:Kd)(d:Nat)(hd:w'.heap.size≤d):(ngh g B m k).fr d=0:=by
 have:=c.lt
 have:=c.mono
 show ZS g.fr B m d=0
 rw[qF _ _ _ (by omega)]
 exact hG.frb d (by omega)
theorem KQ {g:Gh} {B m:Nat} {k k':Kd}(hk':k'≠ .prot) {d:Nat}(h:(ngh g B m k).K d=k'):d=B∧k=k':=by
 have h':(if d=B then k else .prot)=k':=h
 split at h'
 ·exact⟨by assumption,h'⟩
 ·exact absurd h'.symm hk'
theorem Chg.zkO [Gi] {g:Gh} {w w':World} {B:Nat} {rs:List (Tok×List AV)}(c:Chg g w w' B)(hG:GS g w rs)(m:Nat)(t:Tok)(rs':List (Tok×List AV)):GS (ngh g B m (.tail t)) w' rs':=by
 refine⟨fun b u h=>?_,fun b b' u h h'=>?_,fun b b' u h h'=>?_,fun b h=>?_,c.frb hG m _,hG.gl.aft (c.aft hG m _)⟩
 ·have:=(KQ (by simp) h).2;cases this
 ·have:=(KQ (by simp) h).2;cases this
 ·rw[(KQ (by simp) h).1,(KQ (by simp) h').1]
 ·by_cases e:b=B
  ·subst e;exact c.lt
  ·exact absurd (if_neg e) h
def Cel(fr:Nat→Nat)(w:World)(e:PV)(c:Value):Prop:=∃v,zk fr w e v∧v.cells= #[c]∧c.oneCell'=true
theorem Cel.ext {f1 f2:Nat→Nat} {w1 w2:World}(h:Ext f1 w1 f2 w2) {e:PV} {c:Value}:Cel f1 w1 e c→Cel f2 w2 e c:=fun⟨v,r,h1,h2⟩=>⟨v,r.ext h,h1,h2⟩
theorem Cel.one {fr:Nat→Nat} {w:World} {e:PV} {c:Value}(h:e.one=true):Cel fr w e c→zk fr w e c:=fun⟨v,r,h1,_⟩=>by
 have:=zk.one h r
 have h2:v.cells= #[v]:=jc this
 rw[h1]at h2
 have:c=v:=by simpa using h2
 rw[this];exact r
theorem Cel.of {fr:Nat→Nat} {w:World} {e:PV} {v:Value}(h:e.one=true)(r:zk fr w e v):Cel fr w e v:=⟨v,r,jc (zk.one h r),zk.one h r⟩
theorem LeA.ag {xs:List AV} {ys:List PV}(h:zcZ xs=some ys):LeA (.ag xs) (.p (.agg ys)):=fun g w v r=>by
 have:=JR (x:=.ag xs) (y:=.agg ys) (by simp[toP,h]) r
 simpa only[zd]using this
theorem ux(w:World):w.drew.heap=w.heap:=rfl
end Go.AM
end
section
namespace Go.Proofs.YtjefahhmkcfiiaaGreat
open Go.AM
set_option maxHeartbeats 4000000
set_option maxRecDepth 10000
theorem zeQ(z:Value)(hz:z.oneCell'=true)(n:Nat):(Builtin.zeroCells z.cells n).size=n:=by
 have:=congrArg List.length (vV z n)
 rw[jc hz]at this⊢
 simpa using this
theorem zk2 [Gi](n:Nat)(hn:n*4≤140737488355328):CR Tryz.prog 130 [] [.p (.opq (.slice none 0 0)),.p (.int .i64 n)] [] (is (.os [0] 1 [])):=by
 intro w g vs hargs hG
 simp only[zt,zd,zk]at hargs
 obtain⟨v,vs',rfl,rfl,v2,vs2,rfl,rfl,rfl⟩:=hargs
 rcases Nat.eq_zero_or_pos n with h0|h0
 ·subst h0
  refine(zhk w).mono ?_
  rintro e w' ⟨rfl,rfl⟩
  let g2:Gh:=⟨g.fr,fun _=>.prot⟩
  exact⟨_,.os [0] 1 [],[],g2,rfl,⟨rfl,rfl⟩,by simp only[zd,zk];exact⟨.inl ⟨trivial,none,0,rfl⟩,.inl ⟨none,0,rfl⟩⟩,⟨fun b t h=>(by cases h),fun b b' t h=>(by cases h),fun b b' t h=>(by cases h),fun b h=>absurd rfl h,hG.frb,fun b arr e=>⟨rfl,(hG.gl b arr e).2⟩⟩,
   ⟨fun d _ _=>⟨rfl,rfl,rfl⟩,Ext.refl _ _,⟨rfl,rfl,rfl⟩,Nat.le_refl _,fun b t _ ht=>(by cases ht)⟩⟩
 ·obtain⟨G,h1,h2,hc⟩:=zjA n w h0 hn
  refine hc.mono ?_
  rintro e w' ⟨rfl,hw⟩
  have hh:w'.heap[w.heap.size]?=some (.cells (Builtin.zeroCells (Value.int .i32 0).cells n++Builtin.zeroCells (Value.int .i32 0).cells (G-n)) 21 (0,0)):=by rw[hw,heap_alloc,ux,if_pos rfl]
  have c:Chg g w w' w.heap.size:=by
   subst hw
   refine⟨fun d hd hdB=>?_,hG.frb _ (Nat.le_refl _),.inl (Nat.le_refl _),?_,?_,⟨rfl,rfl,rfl⟩⟩
   ·rw[heap_alloc,ux,if_neg hdB]
   ·simp[ux]
   ·simp[ux]
  refine⟨_,.os [0] 1 [],[],ngh g w.heap.size 0 (.tail [0]),rfl,⟨rfl,rfl⟩,?_,c.zkO hG _ _ _,c.aft hG _ _⟩
  simp only[zd,zk]
  refine⟨.inl ⟨trivial,_,G,rfl⟩,.inr ⟨w.heap.size,0,0,G,rfl,znW _ _ _ _,by rw[zlH],_,21,hh,?_⟩⟩
  simp only[Array.size_append,zeQ _ (show(Value.int .i32 0).oneCell'=true from rfl)]
  omega
def qi(L:List (List Int)):Nat:=(L.map List.length).sum
theorem Zm(L:List (List Int)):L.flatten.length=qi L:=by simp[qi,List.length_flatten]
theorem jM {L:List (List Int)} {i:Nat}(h:i<L.length):qi (L.take (i+1))=qi (L.take i)+L[i].length:=by
 rw[List.take_succ_eq_append_getElem h]
 simp only[qi,List.map_append,List.sum_append,List.map_cons,List.map_nil,List.sum_cons,List.sum_nil,Nat.add_zero]
theorem QF(L:List (List Int))(i:Nat):qi (L.take i)≤qi L:=by
 have h:L.flatten.length=(L.take i).flatten.length+(L.drop i).flatten.length:=by
  rw[←List.length_append,←List.flatten_append,List.take_append_drop]
 rw[Zm,Zm]at h
 omega
theorem zb5(a b:List Int):zB (a++b)=zB a++zB b:=by simp[zB]
theorem zgr {L:List (List Int)} {i:Nat}(h:i<L.length):(L.take (i+1)).flatten=(L.take i).flatten++L[i]:=by
 rw[List.take_succ_eq_append_getElem h]
 simp only[List.flatten_append,List.flatten_cons,List.flatten_nil,List.append_nil]
theorem um [Gi](L:List (List Int))(hL:L.length<2^31)(hn:qi L<2^31):CR Tryz.prog 74 [] [.p (zr L)] [] (is (.p (zh L.flatten))):=by
 refine zm mixed 9 [9,10,11,25,26,27] Tryz.func74 rfl (by kernel_rfl) rfl (by simp) (by simp) ?_
 have htl:(zW L).length=L.length:=by simp[zW]
 simp (maxSteps:=1000000) [go_sem,Tryz.f74,zr,htl]
 refine zi (fun i:Nat=>i≤L.length) (fun i=>[(3,.p (.int .i64 (qi (L.take i):Nat))),(11,.p (.int .i64 (i:Nat))),(5,.zZ)]) (fun _=>[]) (fun i=>L.length-i) 0 (by omega) (by simp[go_sem,LeS,leV,leR,leA,qi]) (fun i hi=>?_)
 have hsi:=QF L i
 by_cases hil:i<L.length
 ·have em:elemAt (zW L) i=zh L[i]:=by rw[zW,zq zh L i hil]
  have e1:=jM hil
  have hs2:=QF L (i+1)
  have g1:(i:Int)<L.length:=by omega
  have w1:IntKind.i64.wrap ((i:Int)+1)=((i+1:Nat):Int):=zP (by omega)
  generalize L[i]=x at em e1
  have w2:IntKind.i64.wrap ((qi (L.take i):Int)+x.length)=((qi (L.take (i+1)):Nat):Int):=yE (by omega) e1
  have g2:¬((qi (L.take (i+1)):Int)<0):=by omega
  simp (maxSteps:=1000000) [go_sem,g1,em,htl,zh,zp,w1,w2,g2]
  exact zc (i+1) (by omega) (by simp[go_sem,LeS,leV,leR,leA]) (by omega)
 ·have g1:¬(i:Int)<L.length:=by omega
  obtain rfl:i=L.length:=by omega
  rw[List.take_length]at hsi⊢
  simp (maxSteps:=1000000) [go_sem,g1]
  refine⟨⟨rfl,by simp[Tryz.f130]⟩,zb [] (zk2 (qi L) (by omega)) (by simp[go_sem]) ⟨by simp[go_sem],by simp[go_sem]⟩ (by simp[go_sem]) ?_⟩
  rintro y rs ⟨rfl,rfl⟩
  simp (maxSteps:=1000000) [go_sem,htl]
  refine zi (fun i:Nat=>i≤L.length) (fun i=>[(6,.os [6] 1 (zB (L.take i).flatten)),(27,.p (.int .i64 (i:Nat))),(8,.zZ)]) (fun _=>[]) (fun i=>L.length-i) 0 (by omega) (by simp[go_sem,LeS,leV,leR,leA,zB]) (fun i hi=>?_)
  have hsi:=QF L i
  by_cases hil:i<L.length
  ·have em:elemAt (zW L) i=zh L[i]:=by rw[zW,zq zh L i hil]
   have e1:=jM hil
   have e2:=zgr hil
   have hs2:=QF L (i+1)
   have g1:(i:Int)<L.length:=by omega
   have w1:IntKind.i64.wrap ((i:Int)+1)=((i+1:Nat):Int):=zP (by omega)
   have hfl:=Zm (L.take i)
   generalize L[i]=x at em e1 e2
   simp (maxSteps:=1000000) [go_sem,g1,em,htl,zh,zp,w1,hfl]
   refine⟨by omega,zc (i+1) (by omega) (by simp[go_sem,LeS,leV,leR,leA,e2,zb5]) (by omega)⟩
  ·have g1:¬(i:Int)<L.length:=by omega
   obtain rfl:i=L.length:=by omega
   rw[List.take_length]
   simp (maxSteps:=1000000) [go_sem,g1]
   exact zg (.p (zh L.flatten)) rfl (by simp[go_sem,zf,leA,leT,zh]) ⟨rfl,rfl⟩
end Go.Proofs.YtjefahhmkcfiiaaGreat
end
