/- A part of the proof of this seat's statements, by an abstract machine: what each operation does to values, and what the law's functions compute. Conditions: as each law says. -/
import Derived.Test.YtjefahhmkcfiiaaGreatT33
import Derived.Test.YtjefahhmkcfiiaaGreatT32
section
namespace Go.Proofs.YtjefahhmkcfiiaaGreat
open Go.AM
set_option maxHeartbeats 4000000
set_option maxRecDepth 10000
def vH(k:Int→Int)(o:List Int):Int×Int:=o.foldl (fun(p:Int×Int) y=>(p.1+1,if k y=0 then p.1 else p.2)) (0, -1)
def zY(k:Int→Int)(o:List Int):Int:=(vH k o).2
theorem Jw(k:Int→Int)(o:List Int)(y:Int):vH k (o++[y])=((vH k o).1+1,if k y=0 then(vH k o).1 else(vH k o).2):=by simp[vH,List.foldl_append]
theorem xE {P:List Int→Prop}(h0:P [])(h1:∀o y,P o→P (o++[y])):∀(n:Nat) (o:List Int),o.length=n→P o
 |0,o,h=>by rw[List.eq_nil_of_length_eq_zero h];exact h0
 |n+1,o,h=>by
  obtain⟨o',y,rfl⟩:=vX (A:=o) (fun e=>by rw[e]at h;simp at h)
  exact h1 o' y (xE h0 h1 n o' (by simpa using h))
theorem zgu(k:Int→Int):∀o:List Int,(vH k o).1=o.length:=by
 exact fun o=>xE (P:=fun o=>(vH k o).1=o.length) rfl (fun o y ih=>by rw[Jw];simp[ih]) o.length o rfl
theorem Zg(k:Int→Int)(o:List Int)(y:Int):zY k (o++[y])=if k y=0 then(o.length:Int)else zY k o:=by
 unfold zY;rw[Jw,zgu]
theorem xn(k:Int→Int):zY k []= -1:=rfl
theorem wQ(k:Int→Int):∀o:List Int, -1≤zY k o∧zY k o<o.length:=by
 exact fun o=>xE (P:=fun o=> -1≤zY k o∧zY k o<o.length) (by simp[xn]) (fun o y ih=>by rw[Zg];simp only[List.length_append,List.length_singleton];split<;>omega) o.length o rfl
theorem zjr {o:List Int} {i:Nat}(h:i<o.length):o.take (i+1)=o.take i++[o[i]]:=by
 rw[List.take_add_one,List.getElem?_eq_getElem h];rfl
theorem zjT [Gi](rows:List Row)(hrw:qS rows)(o:List Int)(hn:o.length<2^31)(hr:∀x∈o,zB x):CR Tryz.prog 133 [[0]] [.p (zK rows),.la [0] 1 0 o.length] [([0],zx o)] (fun x rs=>x=.p (.int .i64 (zY (kD rows) o))∧rs=[([0],zx o)]):=by
 refine zm mixed 6 [] Tryz.func133 rfl (by kernel_rfl) rfl (by simp) (by simp) ?_
 have w1:IntKind.i64.wrap ((o.length:Int)-1)=(o.length:Int)-1:=wrap64 (by omega) (by omega)
 simp (maxSteps:=1000000) [go_sem,Tryz.f133,w1]
 refine zj (fun i:Nat=>i≤o.length∧zY (kD rows) o=zY (kD rows) (o.take i)) (fun i=>[(5,.p (.int .i64 ((i:Int)-1)))]) (fun _=>[]) (fun i=>i) o.length ⟨Nat.le_refl _,by rw[List.take_length]⟩ (by simp[go_sem,LeS,leV,leR,leA,zn]) (fun i hi=>?_)
 obtain⟨h1,h2⟩:=hi
 by_cases hi0:i=0
 ·subst hi0
  simp (maxSteps:=1000000) [go_sem]
  exact zi [[0]] (.p (.int .i64 (zY (kD rows) o))) ⟨rfl,by simp⟩ (by simp[go_sem,zd,leA,leT,h2,xn]) ⟨rfl,by simp[go_sem]⟩
 ·obtain⟨j,rfl⟩:∃j,i=j+1:=⟨i-1,by omega⟩
  have hj:j<o.length:=by omega
  have hxr:zB o[j]:=hr _ (List.getElem_mem _)
  rw[zjr hj,Zg,List.length_take]at h2
  have hm:min j o.length=j:=by omega
  rw[hm]at h2
  have gx:=ZG (List.getElem?_eq_getElem hj)
  have gx2:∀hh,(zx o)[j]'hh=.p (.int .i32 o[j]):=fun hh=>by have:=gx;rw[List.getElem?_eq_getElem hh]at this;injection this
  generalize o[j]=x at hxr h2 gx gx2
  have ej:((j+1:Nat):Int)-1=(j:Int):=by omega
  have w2:IntKind.i64.wrap ((j:Int)-1)=(j:Int)-1:=wrap64 (by omega) (by omega)
  have hj':(j:Int)<o.length:=by omega
  have hj0:(0:Int)≤(j:Int):=by omega
  simp only[ej]
  simp (maxSteps:=1000000) [go_sem,hj,hj',hj0,gx2]
  refine⟨⟨rfl,by simp[Tryz.f176]⟩,zb [] (k8 rows x hrw.n hxr) (by simp[go_sem,zH]) ⟨by simp[go_sem],by simp[go_sem]⟩ (by simp[go_sem]) ?_⟩
  rintro _ rs ⟨rfl,rfl⟩
  by_cases hc:kD rows x=0
  ·have e:zY (kD rows) o=j:=by rw[h2,if_pos hc]
   have hc':aL rows 1 x=0:=hc
   simp (maxSteps:=1000000) [go_sem,hc']
   exact zi [[0]] (.p (.int .i64 (zY (kD rows) o))) ⟨rfl,by simp⟩ (by simp[go_sem,zd,leA,leT,e]) ⟨rfl,by simp[go_sem]⟩
  ·have hc':¬aL rows 1 x=0:=hc
   simp (maxSteps:=1000000) [go_sem,hc',w2]
   refine zf j ⟨by omega,by rw[h2,if_neg hc]⟩ (by simp[go_sem,LeS,leV,leR,leA,zn]) (by omega)
theorem zjP [Gi](rows:List Row):CR Tryz.prog 133 [] [.p (zK rows),.p (.opq (.slice none 0 0))] [] (is (.p (.int .i64 (-1)))):=by
 refine zm mixed 6 [] Tryz.func133 rfl (by kernel_rfl) rfl (by simp) (by simp) ?_
 have w1:IntKind.i64.wrap (-1)= -1:=wrap64 (by omega) (by omega)
 simp (maxSteps:=1000000) [go_sem,Tryz.f133,w1]
 refine zj (fun _:Unit=>True) (fun _=>[]) (fun _=>[]) (fun _=>0) () trivial (by simp[go_sem,LeS,leV,leR,leA]) (fun _ _=>?_)
 simp (maxSteps:=1000000) [go_sem]
 exact zh (.p (.int .i64 (-1))) rfl (by simp[go_sem,zd,leA,leT]) ⟨rfl,rfl⟩
def uh(k:Int→Int)(o:List Int)(a x:Int):Bool:=decide (a=o.length-1) || decide (k (o[o.length-1]?.getD 0)<k x)
theorem zkv [Gi](rows:List Row)(hrw:qS rows)(o:List Int)(h0:o≠ [])(a x:Int)(hx:zB x)(hn:o.length<2^31)(hr:∀x∈o,zB x):CR Tryz.prog 134 [[0]] [.p (zK rows),.la [0] 1 0 o.length,.p (.int .i64 a),.p (.int .i32 x)] [([0],zx o)] (fun y rs=>y=.p (.bool (uh (kD rows) o a x))∧rs=[([0],zx o)]):=by
 refine zm mixed 9 [] Tryz.func134 rfl (by kernel_rfl) rfl (by simp) (by simp) ?_
 have hol:0<o.length:=List.length_pos_iff.2 h0
 obtain⟨n,hno⟩:∃n,o.length=n+1:=⟨o.length-1,by omega⟩
 have hj:n<o.length:=by omega
 have w1:IntKind.i64.wrap (((n+1:Nat):Int)-1)=(n:Int):=zq (by omega) rfl
 have w1':IntKind.i64.wrap ((n:Int)+1-1)=(n:Int):=zq (x:=n+1) (by omega) rfl
 have w1'':IntKind.i64.wrap (n:Int)=(n:Int):=zdk (by omega)
 have hxr:zB o[n]:=hr _ (List.getElem_mem _)
 have gx:=ZG (List.getElem?_eq_getElem hj)
 have gx2:∀hh,(zx o)[n]'hh=.p (.int .i32 o[n]):=fun hh=>by have:=gx;rw[List.getElem?_eq_getElem hh]at this;injection this
 have el:o[o.length-1]?.getD 0=o[n]:=by rw[hno,Nat.add_sub_cancel,List.getElem?_eq_getElem hj];rfl
 have e1:((o.length:Int)-1)=(n:Int):=by omega
 unfold uh
 rw[el,e1]
 generalize o[n]=y at hxr gx gx2
 by_cases c1:a=(n:Int)
 ·subst c1
  simp (maxSteps:=1000000) [go_sem,Tryz.f134,hno,w1'']
  exact zi [[0]] (.p (.bool true)) ⟨rfl,by simp⟩ (by simp[go_sem,zd,leA,leT]) ⟨rfl,by simp[go_sem]⟩
 ·simp (maxSteps:=1000000) [go_sem,Tryz.f134,hno,w1'',c1,gx2]
  refine⟨by omega,⟨rfl,by simp[Tryz.f176]⟩,zb [] (k8 rows y hrw.n hxr) (by simp[go_sem,zH]) ⟨by simp[go_sem],by simp[go_sem]⟩ (by simp[go_sem]) ?_⟩
  rintro _ rs ⟨rfl,rfl⟩
  simp (maxSteps:=1000000) [go_sem]
  refine⟨⟨rfl,by simp[Tryz.f176]⟩,zb [] (k8 rows x hrw.n hx) (by simp[go_sem,zH]) ⟨by simp[go_sem],by simp[go_sem]⟩ (by simp[go_sem]) ?_⟩
  rintro _ rs ⟨rfl,rfl⟩
  simp (maxSteps:=1000000) [go_sem]
  exact zi [[0]] (.p (.bool (decide (aL rows 1 y<aL rows 1 x)))) ⟨rfl,by simp⟩ (by simp[go_sem,zd,leA,leT]) ⟨congrArg (fun b=>AV.p (.bool b)) (decide_eq_decide.2 Iff.rfl),by simp[go_sem]⟩
def mkD(rows:List Row)(a b:Int):Option Int:=(z7 a b).or (wY rows a b)
def QG(k:Int→Int)(mk:Int→Int→Option Int)(O:List Int)(x:Int):List Int:=
 if 0≤zY k O∧uh k O (zY k O) x=true then match mk (O[(zY k O).toNat]?.getD 0) x with
  |some r=>O.set (zY k O).toNat r
  |none=>O++[x]
 else O++[x]
def Zp(k:Int→Int)(mk:Int→Int→Option Int)(l:List Int):List Int:=l.foldl (QG k mk) []
theorem Wf(k:Int→Int)(mk:Int→Int→Option Int)(l:List Int)(x:Int):Zp k mk (l++[x])=QG k mk (Zp k mk l) x:=by simp[Zp,List.foldl_append]
theorem zgK {rows:List Row}(hrw:qS rows)(x y:Int):∀z,wY rows x y=some z→zB z:=by
 suffices H:∀(l:List Row) (a:Option Int),(∀w∈l,w∈rows)→(∀z,a=some z→zB z)→∀z,l.foldl (Z0 rows x y) a=some z→zB z by
  exact H rows none (fun _ h=>h) (fun z h=>by cases h)
 intro l
 induction l with
 |nil=>intro a _ ha z hz;exact ha z hz
 |cons w l ih=>
  intro a hw ha z hz
  refine ih _ (fun v hv=>hw v (by simp[hv])) (fun u hu=>?_) z hz
  unfold Z0 at hu
  split at hu
  ·rename_i hc
   injection hu with hu;subst hu
   have:=hrw.p w (hw w (by simp)) hc.1
   exact⟨by omega,by omega⟩
  ·exact ha u hu
theorem zkQ {rows:List Row}(hrw:qS rows) {x y z:Int}(h:mkD rows x y=some z):zB z:=by
 unfold mkD at h
 cases hj:z7 x y with
 |none=>rw[hj]at h;exact zgK hrw x y z h
 |some q=>
  rw[hj]at h
  simp only[Option.some_or,Option.some.injEq]at h
  subst h
  unfold z7 at hj
  split at hj
  ·injection hj with hj;exact⟨by omega,by omega⟩
  ·split at hj
   ·rename_i hc
    have hs':44032≤x∧x<55204:=by simpa[Zm]using hc.1
    injection hj with hj;exact⟨by omega,by omega⟩
   ·cases hj
structure Wg(o:List Int)(n:Nat):Prop where
 nn:o.length≤n
 ne:0<n→o≠ []
 r:∀x∈o,zB x
theorem Wg.push {o:List Int} {n:Nat}(h:Wg o n) {x:Int}(hx:zB x):Wg (o++[x]) (n+1):=
 ⟨by simp;exact h.nn,by simp,fun y hy=>by rcases List.mem_append.1 hy with hy|hy;exact h.r y hy;rw[List.mem_singleton.1 hy];exact hx⟩
theorem Wg.set {o:List Int} {n:Nat}(h:Wg o n)(h0:o≠ []) {j:Nat} {x:Int}(hx:zB x):Wg (o.set j x) (n+1):=
 ⟨by simp;have:=h.nn;omega,fun _ e=>h0 (by have:=congrArg List.length e;rw[List.length_set,List.length_nil]at this;exact List.eq_nil_of_length_eq_zero this),fun y hy=>by rcases List.mem_or_eq_of_mem_set hy with hy|rfl;exact h.r y hy;exact hx⟩
theorem zjW {rows:List Row}(hrw:qS rows) {o:List Int} {n:Nat}(h:Wg o n) {x:Int}(hx:zB x):Wg (QG (kD rows) (mkD rows) o x) (n+1):=by
 unfold QG
 split
 ·rename_i hf
  split
  ·rename_i r hr
   refine h.set (fun e=>?_) (zkQ hrw hr)
   rw[e,xn]at hf
   have:=hf.1
   simp at this
  ·exact h.push hx
 ·exact h.push hx
theorem Kv {rows:List Row}(hrw:qS rows)(l:List Int)(hl:∀x∈l,zB x):Wg (Zp (kD rows) (mkD rows) l) l.length:=by
 suffices H:∀(l':List Int) (o:List Int) (n:Nat),(∀x∈l',zB x)→Wg o n→Wg (l'.foldl (QG (kD rows) (mkD rows)) o) (n+l'.length) by
  have:=H l [] 0 hl ⟨by simp,by simp,by simp⟩
  simpa[Zp]using this
 intro l'
 induction l' with
 |nil=>intro o n _ h;simpa using h
 |cons x l' ih=>
  intro o n hl h
  have:=ih _ _ (fun y hy=>hl y (by simp[hy])) (zjW hrw h (hl x (by simp)))
  simpa[Nat.add_assoc,Nat.add_comm 1]using this
def oV1(o:List Int):AV:=if o=[]then .p (.opq (.slice none 0 0))else .la [55] 1 0 o.length
def oR1(o:List Int):List (Tok×List AV):=if o=[]then []else [([55],zx o)]
theorem zaw [Gi](rows:List Row)(hrw:qS rows)(l:List Int)(hl0:l≠ [])(hn:l.length<2^31)(hr:∀x∈l,zB x):
  CR Tryz.prog 81 [] [.p (zK rows),.p (zg l)] [] (fun x rs=>x=.la [55] 1 0 (Zp (kD rows) (mkD rows) l).length∧rs=[([55],zx (Zp (kD rows) (mkD rows) l))]):=by
 refine qW [7] mixed 10 [] Tryz.func81 rfl (by kernel_rfl) [5,55] rfl (by simp) (by simp) ?_
 simp (maxSteps:=1000000) [go_sem,Tryz.f81,zg]
 refine zj (fun i:Nat=>i≤l.length) (fun i=>[(6,.p (.int .i64 (i:Nat))),(5,oV1 (Zp (kD rows) (mkD rows) (l.take i))),(7,.zW),(8,.zW),(9,.zW)]) (fun i=>oR1 (Zp (kD rows) (mkD rows) (l.take i))) (fun i=>l.length-i) 0 (by omega)
  (by simp[go_sem,LeS,leV,leR,leA,Zp,oV1,oR1]) (fun i hi=>?_)
 have hok:=Kv hrw (l.take i) (fun x hx=>hr x (List.mem_of_mem_take hx))
 have hlt:(l.take i).length=i:=by rw[List.length_take];omega
 rw[hlt]at hok
 by_cases hil:i<l.length
 ·obtain⟨x,hx⟩:∃x,l[i]=x:=⟨_,rfl⟩
  have hxr:zB x:=hr x (by rw[←hx];exact List.getElem_mem _)
  have em:elemAt (zu l) i=.int .i32 x:=by rw[zu,zr (fun r=>PV.int .i32 r) l i hil,hx]
  have htk:l.take (i+1)=l.take i++[x]:=by rw[List.take_add_one,List.getElem?_eq_getElem hil,hx];rfl
  have hnx:Zp (kD rows) (mkD rows) (l.take (i+1))=QG (kD rows) (mkD rows) (Zp (kD rows) (mkD rows) (l.take i)) x:=by rw[htk,Wf]
  have w1:IntKind.i64.wrap ((i:Int)+1)=((i+1:Nat):Int):=zI (by omega)
  have hil':(i:Int)<l.length:=by omega
  have w0:IntKind.i64.wrap 1=1:=wrap64 (by omega) (by omega)
  generalize Zp (kD rows) (mkD rows) (l.take i)=o at hok hnx
  obtain⟨k1,k2,k3⟩:=hok
  by_cases hi0:i=0
  ·subst hi0
   obtain rfl:o=[]:=List.eq_nil_of_length_eq_zero (by omega)
   have e2:Zp (kD rows) (mkD rows) (l.take (0+1))=[x]:=by rw[hnx];rfl
   simp (maxSteps:=1000000) [go_sem,oV1,oR1,hil,zp]
   refine⟨⟨rfl,by simp[Tryz.f133]⟩,zb [] (zjP rows) (by simp[go_sem]) ⟨by simp[go_sem],by simp[go_sem]⟩ (by simp[go_sem]) ?_⟩
   rintro _ rs ⟨rfl,rfl⟩
   simp (maxSteps:=1000000) [go_sem,hil,em,zp]
   exact zf 1 (by omega) (by simp[go_sem,LeS,leV,leR,leA,leL,e2,qJ,w0]) (by omega)
  ·have hne:o≠ []:=k2 (by omega)
   have hol:0<o.length:=List.length_pos_iff.2 hne
   obtain⟨s1,s2⟩:=wQ (kD rows) o
   have hst:QG (kD rows) (mkD rows) o x=if 0≤zY (kD rows) o∧uh (kD rows) o (zY (kD rows) o) x=true then match mkD rows (o[(zY (kD rows) o).toNat]?.getD 0) x with
    |some r=>o.set (zY (kD rows) o).toNat r
    |none=>o++[x]
    else o++[x]:=rfl
   have hpush:QG (kD rows) (mkD rows) o x=o++[x]→Zp (kD rows) (mkD rows) (l.take (i+1))=o++[x]:=fun e=>by rw[hnx,e]
   simp (maxSteps:=1000000) [go_sem,oV1,oR1,hne,hil',zp]
   refine⟨⟨rfl,by simp[Tryz.f133]⟩,zb [([0],[55])] (zjT rows hrw o (by omega) k3) (by simp[go_sem,zH]) ⟨by simp[go_sem],by simp[go_sem]⟩ (by simp[go_sem]) ?_⟩
   rintro _ rs ⟨rfl,rfl⟩
   generalize zY (kD rows) o=s at s1 s2 hst
   by_cases hs0:0≤s
   ·have hsl:s.toNat<o.length:=by omega
    have hyr:zB o[s.toNat]:=k3 _ (List.getElem_mem _)
    have gy:=ZG (List.getElem?_eq_getElem hsl)
    have gy2:∀hh,(zx o)[s.toNat]'hh=.p (.int .i32 o[s.toNat]):=fun hh=>by have:=gy;rw[List.getElem?_eq_getElem hh]at this;injection this
    have hput:∀v,(zx o).take s.toNat++AV.p (.int .i32 v)::(zx o).drop (s.toNat+1)=zx (o.set s.toNat v):=fun v=>ZA v hsl
    have hgd:o[s.toNat]?.getD 0=o[s.toNat]:=by rw[List.getElem?_eq_getElem hsl];rfl
    rw[hgd]at hst
    generalize o[s.toNat]=y at gy gy2 hst hyr
    simp (maxSteps:=1000000) [go_sem,hs0,hil',em,zp]
    refine⟨⟨rfl,by simp[Tryz.f134]⟩,zb [([0],[55])] (zkv rows hrw o hne s x hxr (by omega) k3) (by simp[go_sem,zH]) ⟨by simp[go_sem],by simp[go_sem]⟩ (by simp[go_sem]) ?_⟩
    rintro _ rs ⟨rfl,rfl⟩
    cases hf:uh (kD rows) o s x with
    |true=>
     rw[if_pos ⟨hs0,hf⟩]at hst
     simp (maxSteps:=1000000) [go_sem,hs0,gy2,s2,hil',em,zp]
     refine zN (.tup [.p (.int .i32 (Zb (mkD rows y x))),.p (.bool (mkD rows y x).isSome)]) rfl rfl (fun _=>zM 135 (zjd rows y x hrw hyr hxr) rfl ⟨rfl,by simp[Tryz.f135]⟩ ⟨by simp[go_sem],by simp[go_sem]⟩) ?_
     simp (maxSteps:=1000000) [go_sem]
     cases hmk:mkD rows y x with
     |some q=>
      have e2:Zp (kD rows) (mkD rows) (l.take (i+1))=o.set s.toNat q:=by rw[hnx,hst,hmk]
      have hp:=hput q
      have hne2:o.set s.toNat q≠ []:=fun e=>by have:=congrArg List.length e;rw[List.length_set,List.length_nil]at this;omega
      simp (maxSteps:=1000000) [go_sem,Zb,hs0,s2,hp,w1,Vl]
      exact⟨by omega,zf (i+1) (by omega) (by simp[go_sem,LeS,leV,leR,leA,e2,hne2,zn]) (by omega)⟩
     |none=>
      have e2:=hpush (by rw[hst,hmk])
      simp (maxSteps:=1000000) [go_sem,Zb,w1,hil',em,zp,hol]
      exact⟨by omega,zf (i+1) (by omega) (by simp[go_sem,LeS,leV,leR,leA,e2,hne,Zo,qJ,zn]) (by omega)⟩
    |false=>
     have e2:=hpush (by rw[hst,if_neg (fun h=>by rw[hf]at h;simp at h)])
     simp (maxSteps:=1000000) [go_sem,w1,hil',em,zp,hol]
     exact⟨by omega,zf (i+1) (by omega) (by simp[go_sem,LeS,leV,leR,leA,e2,hne,Zo,qJ,zn]) (by omega)⟩
   ·have e2:=hpush (by rw[hst,if_neg (fun h=>hs0 h.1)])
    simp (maxSteps:=1000000) [go_sem,hs0,w1,hil',em,zp,hol]
    exact⟨by omega,zf (i+1) (by omega) (by simp[go_sem,LeS,leV,leR,leA,e2,hne,Zo,qJ,zn]) (by omega)⟩
 ·have hil':¬(i:Int)<l.length:=by omega
  obtain rfl:i=l.length:=by omega
  rw[List.take_length]at hok⊢
  have hne:=hok.ne (List.length_pos_iff.2 hl0)
  generalize Zp (kD rows) (mkD rows) l=o at hok hne
  simp (maxSteps:=1000000) [go_sem,oV1,oR1,hne,zp]
  exact zi [[55]] (.la [55] 1 0 o.length) ⟨rfl,by simp⟩ (by simp[go_sem,zd,leA,leT]) ⟨rfl,by simp[go_sem]⟩
def vO(rows:List Row)(l:List Int):List Int:=Zp (kD rows) (mkD rows) l
theorem zdo [Gi](rows:List Row)(hrw:qS rows)(l:List Int)(hn:l.length<2^31)(hr:∀x∈l,zB x):CR Tryz.prog 81 [] [.p (zK rows),.p (zg l)] [] (is (.p (zg (vO rows l)))):=by
 by_cases hl0:l=[]
 ·subst hl0
  refine qW [7] mixed 10 [] Tryz.func81 rfl (by kernel_rfl) [5,55] rfl (by simp) (by simp) ?_
  simp (maxSteps:=1000000) [go_sem,Tryz.f81,zg]
  refine zj (fun _:Unit=>True) (fun _=>[]) (fun _=>[]) (fun _=>0) () trivial (by simp[go_sem,LeS,leV,leR,leA]) (fun _ _=>?_)
  simp (maxSteps:=1000000) [go_sem,zu]
  exact zh (.p (.sl 1 [])) rfl (by simp[go_sem,zd,leA,leT]) ⟨rfl,rfl⟩
 ·have hok:=Kv hrw l hr
  exact CR.row (List.length_pos_iff.2 (hok.ne (List.length_pos_iff.2 hl0))) (zaw rows hrw l hl0 hn hr)
def zZ(rows:List Row)(l:List Int):List Int:=vO rows (ky rows l)
theorem X8 {k:Int→Int} {x z:Int}:∀l,z∈qf k x l→z=x∨z∈l
 | [],h=>by simp[qf]at h;exact .inl h
 |y::l,h=>by
  unfold qf at h
  split at h
  ·rcases List.mem_cons.1 h with h|h
   ·exact .inr (by simp[h])
   ·rcases X8 l h with h|h
    ·exact .inl h
    ·exact .inr (by simp[h])
  ·rcases List.mem_cons.1 h with h|h
   ·exact .inl h
   ·exact .inr h
theorem zdu {k:Int→Int} {z:Int}(l:List Int)(h:z∈jK k l):z∈l:=by
 suffices H:∀(l O:List Int),z∈l.foldl (QK k) O→z∈O∨z∈l by
  rcases H l [] h with h|h
  ·simp at h
  ·exact h
 intro l
 induction l with
 |nil=>intro O h;exact .inl h
 |cons x l ih=>
  intro O h
  rcases ih _ h with h|h
  ·have h2:z∈qf k x O.reverse:=by simpa[QK]using h
   rcases X8 _ h2 with h3|h3
   ·exact .inr (by simp[h3])
   ·exact .inl (by simpa using h3)
  ·exact .inr (by simp[h])
theorem Xz(rows:List Row)(l:List Int):(ky rows l).length≤768*l.length:=by unfold ky;rw[xC];exact XU rows l
theorem zbq {rows:List Row}(hrw:qS rows) {l:List Int}(hl:∀x∈l,zB x):∀x∈ky rows l,zB x:=fun x hx=>Jo hrw hl x (zdu _ hx)
theorem Wx [Gi](rows:List Row)(hrw:qS rows)(l:List Int)(hn:l.length<2^20)(hr:∀x∈l,zB x):CR Tryz.prog 32 [] [.p (zK rows),.p (zg l)] [] (is (.p (zg (zZ rows l)))):=by
 refine zm mixed 5 [] Tryz.func32 rfl (by kernel_rfl) rfl (by simp) (by simp) ?_
 have hl:=Xz rows l
 simp (maxSteps:=1000000) [go_sem,Tryz.f32,zg]
 refine⟨⟨rfl,by simp[Tryz.f82]⟩,zb [] (zmU rows hrw l hn hr) (by simp[go_sem]) ⟨by simp[go_sem],by simp[go_sem,zg]⟩ (by simp[go_sem]) ?_⟩
 rintro _ rs ⟨rfl,rfl⟩
 simp (maxSteps:=1000000) [go_sem,zg]
 refine⟨⟨rfl,by simp[Tryz.f81]⟩,zb [] (zdo rows hrw (ky rows l) (by omega) (zbq hrw hr)) (by simp[go_sem]) ⟨by simp[go_sem],by simp[go_sem,zg]⟩ (by simp[go_sem]) ?_⟩
 rintro _ rs ⟨rfl,rfl⟩
 simp (maxSteps:=1000000) [go_sem,zg]
 exact zh (.p (zg (zZ rows l))) rfl (by simp[go_sem,zd,leA,leT,zg,zZ]) ⟨rfl,rfl⟩
end Go.Proofs.YtjefahhmkcfiiaaGreat
end
section
namespace Go.Proofs.YtjefahhmkcfiiaaGreat
open Go.AM
set_option maxHeartbeats 4000000
set_option maxRecDepth 10000
def Qe(need:Int):List (List Int)→Nat
 | []=>0
 |c::C=>if need≤0 then 0 else Qe (need-c.length) C+1
theorem Xr:∀(C:List (List Int)) (need:Int),Qe need C≤C.length
 | [],_=>by simp[Qe]
 |c::C,need=>by
  unfold Qe
  split
  ·omega
  ·have:=Xr C (need-c.length)
   simp only[List.length_cons];omega
theorem WG:∀a b:List Int,qN a b≤a.length∧qN a b≤b.length
 | [],b=>by simp[qN]
 |a::l,[]=>by simp[qN]
 |a::l,b::m=>by
  have:=WG l m
  unfold qN
  split<;>simp only[List.length_cons]<;>omega
theorem K0(a b:List Int):ZP a b≤a.length∧ZP a b≤b.length:=by
 have:=WG a.reverse b.reverse
 simp only[List.length_reverse]at this
 exact this
def Qt(nfc:List Int→List Int)(clus:List Int→List (List Int))(L:List (List Int))(a f e:Int)(s:List Int):List (List Int)×Int×Bool:=
 if f<0∨e<f∨(L.length:Int)<e then(L,a,false)
 else
  let rest:=(L.drop e.toNat).flatten
  let x:=nfc ((L.take f.toNat).flatten++(s++rest))
  if 65536<x.length then(L,a,false)
  else(clus x,(Qe ((x.length:Int)-ZP x rest) (clus x):Nat),true)
def jS(L:List (List Int))(a:Int):List AV:=[.p (zk L),.p (.int .i64 a)]
def jt(r:List (List Int)×Int×Bool):AV:=.tup [.p (zG r.1 r.2.1),.p (.bool r.2.2)]
theorem zoI [Gi] {t:zV} {c b j f p:PV}(h:QS t c b j f p)(hz:Qg t)(hP:Vb t)(m:List (Zh×Int))(sk sx:List PV)(l:List Int)(hn:l.length<2^20)(hr:∀x∈l,zB x)
  (hn2:(vi t m l).length<2^31) (hr2:∀x∈vi t m l,zB x):
  CR Tryz.prog 18 [] [.p (zF c b j f p (ckP m) (cxP m) sk sx),.p (zg l)] [] (is (.p (zG (Zs t (vi t m l)) 0))):=by
 refine zm mixed 5 [] Tryz.func18 rfl (by kernel_rfl) rfl (by simp) (by simp) ?_
 simp (maxSteps:=1000000) [go_sem,Tryz.f18,zg,zF]
 refine⟨rfl,⟨rfl,by simp[Tryz.f72]⟩,zb [] (zgX h hz hP m sk sx l hn hr) (by simp[go_sem]) ⟨by simp[go_sem],by simp[go_sem,zg,zF]⟩ (by simp[go_sem]) ?_⟩
 rintro _ rs ⟨rfl,rfl⟩
 simp (maxSteps:=1000000) [go_sem]
 refine⟨⟨rfl,by simp[Tryz.f71]⟩,zb [] (JI h hz (ckP m) (cxP m) sk sx (vi t m l) hn2 hr2) (by simp[go_sem]) ⟨by simp[go_sem],by simp[go_sem,zg,zF]⟩ (by simp[go_sem]) ?_⟩
 rintro _ rs ⟨rfl,rfl⟩
 simp (maxSteps:=1000000) [go_sem,zk]
 refine⟨rfl,?_⟩
 exact zh (.p (zG (Zs t (vi t m l)) 0)) rfl (by simp[go_sem,zd,leA,leT,zG,zk]) ⟨rfl,rfl⟩
theorem zj4 [Gi] {rows:List Row}(hw:qS rows)(l:List Int)(hn:l.length<2^20)(hr:∀x∈l,zB x)
  (hn2:(zZ rows l).length<2^31) (hr2:∀x∈zZ rows l,zB x):
  CR Tryz.prog 19 [] [.p (zK rows),.p (zg l)] [] (is (.p (zG (zL rows (zZ rows l)) 0))):=by
 refine zm mixed 5 [] Tryz.func19 rfl (by kernel_rfl) rfl (by simp) (by simp) ?_
 simp (maxSteps:=1000000) [go_sem,Tryz.f19,zg]
 refine⟨rfl,⟨rfl,by simp[Tryz.f32]⟩,zb [] (Wx rows hw l hn hr) (by simp[go_sem]) ⟨by simp[go_sem],by simp[go_sem,zg]⟩ (by simp[go_sem]) ?_⟩
 rintro _ rs ⟨rfl,rfl⟩
 simp (maxSteps:=1000000) [go_sem]
 refine⟨⟨rfl,by simp[Tryz.f73]⟩,zb [] (Uw hw (zZ rows l) hn2 hr2) (by simp[go_sem]) ⟨by simp[go_sem],by simp[go_sem,zg]⟩ (by simp[go_sem]) ?_⟩
 rintro _ rs ⟨rfl,rfl⟩
 simp (maxSteps:=1000000) [go_sem,zk]
 refine⟨rfl,?_⟩
 exact zh (.p (zG (zL rows (zZ rows l)) 0)) rfl (by simp[go_sem,zd,leA,leT,zG,zk]) ⟨rfl,rfl⟩
end Go.Proofs.YtjefahhmkcfiiaaGreat
end
section
namespace Go.Proofs.YtjefahhmkcfiiaaGreat
open Go.AM
set_option maxHeartbeats 4000000
set_option maxRecDepth 10000
structure Vr(nfc:List Int→List Int)(clus:List Int→List (List Int)):Prop where
 len:∀l:List Int,l.length<2^20→(nfc l).length<2^31
 rune:∀l:List Int,l.length<2^20→(∀x∈l,zB x)→∀x∈nfc l,zB x
 flat:∀l,(clus l).flatten=l
 num:∀l,(clus l).length≤l.length
structure xv(L:List (List Int)):Prop where
 num:L.length≤qd L
 len:qd L≤65536
 rune:∀x∈L.flatten,zB x
theorem Vr.sum {nfc clus}(h:Vr nfc clus)(x:List Int):qd (clus x)=x.length:=by rw[←z8,h.flat]
theorem UO {nfc clus}(h:Vr nfc clus) {L:List (List Int)}(hL:xv L)(a f e:Int) {s:List Int}(hs:s.length≤1000)(hr:∀x∈s,zB x):xv (Qt nfc clus L a f e s).1:=by
 unfold Qt
 split
 ·exact hL
 ·simp only
  split
  ·exact hL
  ·rename_i h1
   have hd:(L.drop e.toNat).flatten.length≤qd L:=by
    rw[←z8 L]
    have:L.flatten=(L.take e.toNat).flatten++(L.drop e.toNat).flatten:=by rw[←List.flatten_append,List.take_append_drop]
    rw[this,List.length_append];omega
   have ht:(L.take f.toNat).flatten.length≤qd L:=by
    rw[z8];exact ZB L f.toNat
   have hl:=hL.len
   have hlen:((L.take f.toNat).flatten++(s++(L.drop e.toNat).flatten)).length<2^20:=by
    simp only[List.length_append];omega
   refine⟨?_,?_,?_⟩
   ·simp only;rw[h.sum];exact h.num _
   ·simp only;rw[h.sum];omega
   ·simp only;rw[h.flat]
    refine h.rune _ hlen (fun x hx=>?_)
    rcases List.mem_append.1 hx with hx|hx
    ·exact hL.rune x (List.mem_flatten.2 (by
      obtain⟨y,hy,hxy⟩:=List.mem_flatten.1 hx
      exact⟨y,List.mem_of_mem_take hy,hxy⟩))
    ·rcases List.mem_append.1 hx with hx|hx
     ·exact hr x hx
     ·exact hL.rune x (List.mem_flatten.2 (by
       obtain⟨y,hy,hxy⟩:=List.mem_flatten.1 hx
       exact⟨y,List.mem_of_mem_drop hy,hxy⟩))
theorem ZX(L:List (List Int))(k:Nat):cut (qD L) 0 k=qD (L.take k):=by simp[cut,qD]
theorem xK(L:List (List Int))(k:Nat):cut (qD L) k L.length=qD (L.drop k):=by simp[cut,qD,List.take_of_length_le]
theorem va(L:List (List Int))(k:Nat):qd (L.take k)+qd (L.drop k)=qd L:=by
 rw[←z8,←z8,←z8,←List.length_append,←List.flatten_append,List.take_append_drop]
theorem y5 {C:List (List Int)} {i:Nat}(h:i<C.length)(need:Int):Qe (need-qd (C.take i)) (C.drop i)=if need≤qd (C.take i)then 0 else Qe (need-qd (C.take (i+1))) (C.drop (i+1))+1:=by
 rw[List.drop_eq_getElem_cons h,Qe,xh h]
 by_cases q:need≤qd (C.take i)
 ·rw[if_pos (by omega),if_pos q]
 ·rw[if_neg (by omega),if_neg q]
  congr 2;omega
theorem UT [Gi] {rows:List Row}(hw:qS rows)(hF:Vr (zZ rows) (zL rows))(L:List (List Int))(hL:xv L)(a f e:Int)(s:List Int)(hs:s.length≤1000)(hr:∀x∈s,zB x):
  CR Tryz.prog 21 [] [.p (zK rows),.p (zG L a),.p (.int .i64 f),.p (.int .i64 e),.p (zg s)] [] (is (jt (Qt (zZ rows) (zL rows) L a f e s))):=by
 refine zm mixed 17 [] Tryz.func21 rfl (by kernel_rfl) rfl (by simp) (by simp) ?_
 have hl1:=hL.num
 have hl2:=hL.len
 by_cases c1:f<0
 ·have ev:Qt (zZ rows) (zL rows) L a f e s=(L,a,false):=by unfold Qt;rw[if_pos (Or.inl c1)]
  rw[ev]
  simp (maxSteps:=1000000) [go_sem,Tryz.f21,zG,zk,zX,c1]
  refine⟨rfl,?_⟩
  exact zh (jt (L,a,false)) rfl (by simp[go_sem,zd,leA,leT,leP,jt,zG,zk]) ⟨rfl,rfl⟩
 by_cases c2:e<f
 ·have ev:Qt (zZ rows) (zL rows) L a f e s=(L,a,false):=by unfold Qt;rw[if_pos (Or.inr (Or.inl c2))]
  rw[ev]
  simp (maxSteps:=1000000) [go_sem,Tryz.f21,zG,zk,zX,c1,c2]
  refine⟨rfl,?_⟩
  exact zh (jt (L,a,false)) rfl (by simp[go_sem,zd,leA,leT,leP,jt,zG,zk]) ⟨rfl,rfl⟩
 by_cases c3:(L.length:Int)<e
 ·have ev:Qt (zZ rows) (zL rows) L a f e s=(L,a,false):=by unfold Qt;rw[if_pos (Or.inr (Or.inr c3))]
  rw[ev]
  simp (maxSteps:=1000000) [go_sem,Tryz.f21,zG,zk,zX,c1,c2,c3]
  refine⟨rfl,?_⟩
  exact zh (jt (L,a,false)) rfl (by simp[go_sem,zd,leA,leT,leP,jt,zG,zk]) ⟨rfl,rfl⟩
 obtain⟨nf,rfl⟩:∃nf:Nat,f=nf:=⟨f.toNat,by omega⟩
 obtain⟨ne,rfl⟩:∃ne:Nat,e=ne:=⟨e.toNat,by omega⟩
 have ev:∀R P X:List Int,R=(L.drop ne).flatten→P=(L.take nf).flatten→X=zZ rows (P++(s++R))→Qt (zZ rows) (zL rows) L a nf ne s=if 65536<X.length then(L,a,false)else(zL rows X,(Qe ((X.length:Int)-ZP X R) (zL rows X):Nat),true):=by
  rintro R P X rfl rfl rfl
  unfold Qt
  rw[if_neg (by omega)]
  simp only[Int.toNat_natCast]
 have g1:ne≤L.length:=by omega
 have g2:nf≤L.length:=by omega
 have q1:=va L ne
 have q2:=va L nf
 have jR:=ZC (L.drop ne) (by rw[List.length_drop];omega) (by omega)
 have jP:=ZC (L.take nf) (by rw[List.length_take];omega) (by omega)
 have lR:(L.drop ne).flatten.length=qd (L.drop ne):=z8 _
 have lP:(L.take nf).flatten.length=qd (L.take nf):=z8 _
 have rR:∀x∈(L.drop ne).flatten,zB x:=fun x hx=>hL.rune x (List.mem_flatten.2 (by
  obtain⟨y,hy,hxy⟩:=List.mem_flatten.1 hx
  exact⟨y,List.mem_of_mem_drop hy,hxy⟩))
 have rP:∀x∈(L.take nf).flatten,zB x:=fun x hx=>hL.rune x (List.mem_flatten.2 (by
  obtain⟨y,hy,hxy⟩:=List.mem_flatten.1 hx
  exact⟨y,List.mem_of_mem_take hy,hxy⟩))
 obtain⟨R,hR⟩:∃R,R=(L.drop ne).flatten:=⟨_,rfl⟩
 obtain⟨P,hP⟩:∃P,P=(L.take nf).flatten:=⟨_,rfl⟩
 obtain⟨X,hX⟩:∃X,X=zZ rows (P++(s++R)):=⟨_,rfl⟩
 have e1:=ev R P X hR hP hX
 rw[e1]
 rw[←hR]at jR lR rR
 rw[←hP]at jP lP rP
 have hal:=(K0 X R).1
 have rPR:∀x∈P++(s++R),zB x:=fun x hx=>by
  rcases List.mem_append.1 hx with hx|hx
  ·exact rP x hx
  ·rcases List.mem_append.1 hx with hx|hx
   ·exact hr x hx
   ·exact rR x hx
 have j3:=VQ P s R (by omega)
 have lPR:(P++(s++R)).length<2^20:=by simp only[List.length_append];omega
 have jN:=Wx rows hw _ lPR rPR
 have lX:=hF.len _ lPR
 have rX:=hF.rune _ lPR rPR
 rw[←hX]at jN lX rX
 have jA:=zjG X R lX (by omega)
 clear ev e1
 simp (maxSteps:=1000000) [go_sem,Tryz.f21,zG,zk,zX,c1,c2,c3,xK]
 refine⟨rfl,g1,⟨rfl,by simp[Tryz.f25]⟩,zb [] jR (by simp[go_sem]) ⟨by simp[go_sem],by simp[go_sem,zk]⟩ (by simp[go_sem]) ?_⟩
 rintro _ rs ⟨rfl,rfl⟩
 simp (maxSteps:=1000000) [go_sem,zX,ZX,zg]
 refine⟨g2,⟨rfl,by simp[Tryz.f25]⟩,zb [] jP (by simp[go_sem]) ⟨by simp[go_sem],by simp[go_sem,zk]⟩ (by simp[go_sem]) ?_⟩
 rintro _ rs ⟨rfl,rfl⟩
 simp (maxSteps:=1000000) [go_sem,zg]
 refine⟨⟨rfl,by simp[Tryz.f43]⟩,zb [] j3 (by simp[go_sem]) ⟨by simp[go_sem],by simp[go_sem,zg]⟩ (by simp[go_sem]) ?_⟩
 rintro _ rs ⟨rfl,rfl⟩
 simp (maxSteps:=1000000) [go_sem,zg]
 refine⟨⟨rfl,by simp[Tryz.f32]⟩,zb [] jN (by simp[go_sem]) ⟨by simp[go_sem],by simp[go_sem,zg]⟩ (by simp[go_sem]) ?_⟩
 rintro _ rs ⟨rfl,rfl⟩
 by_cases c4:65536<X.length
 ·have c4':(65536:Int)<X.length:=by omega
  rw[if_pos c4]
  simp (maxSteps:=1000000) [go_sem,zg,zp,c4']
  exact zh (jt (L,a,false)) rfl (by simp[go_sem,zd,leA,leT,leP,jt,zG,zk]) ⟨rfl,rfl⟩
 have c4':¬(65536:Int)<X.length:=by omega
 rw[if_neg c4]
 have jC:=Uw hw X lX rX
 have sC:=hF.sum X
 have nC:=hF.num X
 generalize zL rows X=C at jC sC nC⊢
 simp (maxSteps:=1000000) [go_sem,zg,zp,c4']
 refine⟨⟨rfl,by simp[Tryz.f73]⟩,zb [] jC (by simp[go_sem]) ⟨by simp[go_sem],by simp[go_sem,zg]⟩ (by simp[go_sem]) ?_⟩
 rintro _ rs ⟨rfl,rfl⟩
 simp (maxSteps:=1000000) [go_sem,zk]
 refine⟨⟨rfl,by simp[Tryz.f76]⟩,zb [] jA (by simp[go_sem]) ⟨by simp[go_sem],by simp[go_sem,zg]⟩ (by simp[go_sem]) ?_⟩
 rintro _ rs ⟨rfl,rfl⟩
 obtain⟨k,hk⟩:∃k,k=ZP X R:=⟨_,rfl⟩
 rw[←hk]at hal⊢
 obtain⟨K,hK⟩:∃K,K=Qe ((X.length:Int)-k) C:=⟨_,rfl⟩
 rw[←hK]
 simp (maxSteps:=1000000) [go_sem]
 refine zj (fun i:Nat=>i≤C.length∧K=i+Qe ((X.length:Int)-k-qd (C.take i)) (C.drop i)) (fun i=>[(16,.p (.int .i64 (i:Nat)))]) (fun _=>[]) (fun i=>C.length-i) 0 ⟨by omega,by simp[hK,qd]⟩ (by simp[go_sem,LeS,leV,leR,leA,leL]) (fun i hi=>?_)
 obtain⟨i1,i2⟩:=hi
 have sd:=va C i
 have jD:=ZC (C.drop i) (by rw[List.length_drop];omega) (by omega)
 have lD:(C.drop i).flatten.length=qd (C.drop i):=z8 _
 simp (maxSteps:=1000000) [go_sem,zX,xK]
 refine⟨i1,⟨rfl,by simp[Tryz.f25]⟩,zb [] jD (by simp[go_sem]) ⟨by simp[go_sem],by simp[go_sem,zk]⟩ (by simp[go_sem]) ?_⟩
 rintro _ rs ⟨rfl,rfl⟩
 by_cases c5:k<qd (C.drop i)
 ·have hil:i<C.length:=by
   refine Nat.lt_of_not_le (fun h=>?_)
   rw[List.drop_eq_nil_of_le h]at c5
   simp[qd]at c5
  have c5':(k:Int)<qd (C.drop i):=by omega
  have w1:IntKind.i64.wrap ((i:Int)+1)=((i+1:Nat):Int):=zI (by omega)
  rw[y5 hil,if_neg (by omega)]at i2
  simp (maxSteps:=1000000) [go_sem,zg,zp,lD,c5',w1]
  exact zf (i+1) ⟨by omega,by omega⟩ (by simp[go_sem,LeS,leV,leR,leA,leL]) (by omega)
 ·have c5':¬(k:Int)<qd (C.drop i):=by omega
  have e2:K=i:=by
   rw[i2]
   by_cases hil:i<C.length
   ·rw[y5 hil,if_pos (by omega)];rfl
   ·rw[List.drop_eq_nil_of_le (by omega)];rfl
  rw[e2]
  simp (maxSteps:=1000000) [go_sem,zg,zp,lD,c5']
  refine⟨rfl,?_⟩
  exact zh (jt (C,(i:Nat),true)) rfl (by simp[go_sem,zd,leA,leT,leP,jt,zG,zk]) ⟨rfl,rfl⟩
end Go.Proofs.YtjefahhmkcfiiaaGreat
end
section
namespace Go.Proofs.YtjefahhmkcfiiaaGreat
open Go.AM
set_option maxHeartbeats 4000000
set_option maxRecDepth 10000
theorem zmv [Gi] {t:zV} {c b j p p':PV}(h:QS t c b j p p')(hz:Qg t)(hP:Vb t)(m:List (Zh×Int))(sk sx:List PV)(hF:Vr (vi t m) (Zs t))(L:List (List Int))(hL:xv L)(a f e:Int)(s:List Int)(hs:s.length≤1000)(hr:∀x∈s,zB x):
  CR Tryz.prog 20 [] [.p (zG L a),.p (zF c b j p p' (ckP m) (cxP m) sk sx),.p (.int .i64 f),.p (.int .i64 e),.p (zg s)] [] (is (jt (Qt (vi t m) (Zs t) L a f e s))):=by
 refine zm mixed 16 [] Tryz.func20 rfl (by kernel_rfl) rfl (by simp) (by simp) ?_
 have hl1:=hL.num
 have hl2:=hL.len
 by_cases c1:f<0
 ·have ev:Qt (vi t m) (Zs t) L a f e s=(L,a,false):=by unfold Qt;rw[if_pos (Or.inl c1)]
  rw[ev]
  simp (maxSteps:=1000000) [go_sem,Tryz.f20,zG,zk,zX,c1]
  refine⟨rfl,?_⟩
  exact zh (jt (L,a,false)) rfl (by simp[go_sem,zd,leA,leT,leP,jt,zG,zk]) ⟨rfl,rfl⟩
 by_cases c2:e<f
 ·have ev:Qt (vi t m) (Zs t) L a f e s=(L,a,false):=by unfold Qt;rw[if_pos (Or.inr (Or.inl c2))]
  rw[ev]
  simp (maxSteps:=1000000) [go_sem,Tryz.f20,zG,zk,zX,c1,c2]
  refine⟨rfl,?_⟩
  exact zh (jt (L,a,false)) rfl (by simp[go_sem,zd,leA,leT,leP,jt,zG,zk]) ⟨rfl,rfl⟩
 by_cases c3:(L.length:Int)<e
 ·have ev:Qt (vi t m) (Zs t) L a f e s=(L,a,false):=by unfold Qt;rw[if_pos (Or.inr (Or.inr c3))]
  rw[ev]
  simp (maxSteps:=1000000) [go_sem,Tryz.f20,zG,zk,zX,c1,c2,c3]
  refine⟨rfl,?_⟩
  exact zh (jt (L,a,false)) rfl (by simp[go_sem,zd,leA,leT,leP,jt,zG,zk]) ⟨rfl,rfl⟩
 obtain⟨nf,rfl⟩:∃nf:Nat,f=nf:=⟨f.toNat,by omega⟩
 obtain⟨ne,rfl⟩:∃ne:Nat,e=ne:=⟨e.toNat,by omega⟩
 have ev:∀R P X:List Int,R=(L.drop ne).flatten→P=(L.take nf).flatten→X=vi t m (P++(s++R))→Qt (vi t m) (Zs t) L a nf ne s=if 65536<X.length then(L,a,false)else(Zs t X,(Qe ((X.length:Int)-ZP X R) (Zs t X):Nat),true):=by
  rintro R P X rfl rfl rfl
  unfold Qt
  rw[if_neg (by omega)]
  simp only[Int.toNat_natCast]
 have g1:ne≤L.length:=by omega
 have g2:nf≤L.length:=by omega
 have q1:=va L ne
 have q2:=va L nf
 have jR:=ye (L.drop ne) (by rw[List.length_drop];omega) (by omega)
 have jP:=ye (L.take nf) (by rw[List.length_take];omega) (by omega)
 have lR:(L.drop ne).flatten.length=qd (L.drop ne):=z8 _
 have lP:(L.take nf).flatten.length=qd (L.take nf):=z8 _
 have rR:∀x∈(L.drop ne).flatten,zB x:=fun x hx=>hL.rune x (List.mem_flatten.2 (by
  obtain⟨y,hy,hxy⟩:=List.mem_flatten.1 hx
  exact⟨y,List.mem_of_mem_drop hy,hxy⟩))
 have rP:∀x∈(L.take nf).flatten,zB x:=fun x hx=>hL.rune x (List.mem_flatten.2 (by
  obtain⟨y,hy,hxy⟩:=List.mem_flatten.1 hx
  exact⟨y,List.mem_of_mem_take hy,hxy⟩))
 obtain⟨R,hR⟩:∃R,R=(L.drop ne).flatten:=⟨_,rfl⟩
 obtain⟨P,hPP⟩:∃P,P=(L.take nf).flatten:=⟨_,rfl⟩
 obtain⟨X,hX⟩:∃X,X=vi t m (P++(s++R)):=⟨_,rfl⟩
 have e1:=ev R P X hR hPP hX
 rw[e1]
 rw[←hR]at jR lR rR
 rw[←hPP]at jP lP rP
 have hal:=(K0 X R).1
 have rPR:∀x∈P++(s++R),zB x:=fun x hx=>by
  rcases List.mem_append.1 hx with hx|hx
  ·exact rP x hx
  ·rcases List.mem_append.1 hx with hx|hx
   ·exact hr x hx
   ·exact rR x hx
 have f3:[P,s,R].flatten=P++(s++R):=by simp
 have j3:=ye [P,s,R] (by simp) (by simp[qd];omega)
 rw[f3]at j3
 have lPR:(P++(s++R)).length<2^20:=by simp only[List.length_append];omega
 have jN:=zgX h hz hP m sk sx _ lPR rPR
 have lX:=hF.len _ lPR
 have rX:=hF.rune _ lPR rPR
 rw[←hX]at jN lX rX
 have jA:=zj3 X R lX (by omega)
 clear ev e1
 simp (maxSteps:=1000000) [go_sem,Tryz.f20,zG,zk,zX,c1,c2,c3,xK]
 refine⟨rfl,g1,⟨rfl,by simp[Tryz.f74]⟩,zb [] jR (by simp[go_sem]) ⟨by simp[go_sem],by simp[go_sem,zk]⟩ (by simp[go_sem]) ?_⟩
 rintro _ rs ⟨rfl,rfl⟩
 simp (maxSteps:=1000000) [go_sem,zX,ZX,zg]
 refine⟨g2,⟨rfl,by simp[Tryz.f74]⟩,zb [] jP (by simp[go_sem]) ⟨by simp[go_sem],by simp[go_sem,zk]⟩ (by simp[go_sem]) ?_⟩
 rintro _ rs ⟨rfl,rfl⟩
 simp (maxSteps:=1000000) [go_sem,zg]
 refine⟨⟨by decide,rfl⟩,⟨rfl,by simp[Tryz.f74]⟩,zb [] j3 (by simp[go_sem]) ⟨by simp[go_sem],by simp[go_sem,zg,zk,qD]⟩ (by simp[go_sem]) ?_⟩
 rintro _ rs ⟨rfl,rfl⟩
 simp (maxSteps:=1000000) [go_sem,zg]
 refine⟨⟨rfl,by simp[Tryz.f72]⟩,zb [] jN (by simp[go_sem]) ⟨by simp[go_sem],by simp[go_sem,zg,zF]⟩ (by simp[go_sem]) ?_⟩
 rintro _ rs ⟨rfl,rfl⟩
 by_cases c4:65536<X.length
 ·have c4':(65536:Int)<X.length:=by omega
  rw[if_pos c4]
  simp (maxSteps:=1000000) [go_sem,zg,zp,c4']
  exact zh (jt (L,a,false)) rfl (by simp[go_sem,zd,leA,leT,leP,jt,zG,zk]) ⟨rfl,rfl⟩
 have c4':¬(65536:Int)<X.length:=by omega
 rw[if_neg c4]
 have jC:=JI h hz (ckP m) (cxP m) sk sx X lX rX
 have sC:=hF.sum X
 have nC:=hF.num X
 generalize Zs t X=C at jC sC nC⊢
 simp (maxSteps:=1000000) [go_sem,zg,zp,c4']
 refine⟨⟨rfl,by simp[Tryz.f71]⟩,zb [] jC (by simp[go_sem]) ⟨by simp[go_sem],by simp[go_sem,zg,zF]⟩ (by simp[go_sem]) ?_⟩
 rintro _ rs ⟨rfl,rfl⟩
 simp (maxSteps:=1000000) [go_sem,zk]
 refine⟨rfl,⟨rfl,by simp[Tryz.f75]⟩,zb [] jA (by simp[go_sem]) ⟨by simp[go_sem],by simp[go_sem,zg]⟩ (by simp[go_sem]) ?_⟩
 rintro _ rs ⟨rfl,rfl⟩
 obtain⟨k,hk⟩:∃k,k=ZP X R:=⟨_,rfl⟩
 rw[←hk]at hal⊢
 obtain⟨K,hK⟩:∃K,K=Qe ((X.length:Int)-k) C:=⟨_,rfl⟩
 rw[←hK]
 have w0:IntKind.i64.wrap ((X.length:Int)-k)=((X.length-k:Nat):Int):=QD (by omega) (by omega)
 obtain⟨N,hN⟩:∃N,N=X.length-k:=⟨_,rfl⟩
 rw[←hN]at w0
 simp (maxSteps:=1000000) [go_sem,zp,w0]
 refine zj (fun i:Nat=>i≤C.length∧K=i+Qe ((X.length:Int)-k-qd (C.take i)) (C.drop i)) (fun _=>[]) (fun i=>[([14],jS C (i:Nat))]) (fun i=>C.length-i) 0 ⟨by omega,by simp[hK,qd]⟩ (by simp[go_sem,LeS,leV,leR,leA,leL,jS,zk]) (fun i hi=>?_)
 obtain⟨i1,i2⟩:=hi
 have jD:=yJ C i (by omega) (by omega)
 have cl:jr C i=i:=by unfold jr;omega
 rw[wy,cl]at jD
 have hti:=ZB C i
 simp (maxSteps:=1000000) [go_sem,jS,zk]
 refine⟨⟨rfl,by simp[Tryz.f26]⟩,zb [] jD (by simp[go_sem]) ⟨by simp[go_sem],by simp[go_sem,zk,zG]⟩ (by simp[go_sem]) ?_⟩
 rintro _ rs ⟨rfl,rfl⟩
 by_cases c5:qd (C.take i)<N
 ·have hil:i<C.length:=by
   refine Nat.lt_of_not_le (fun h=>?_)
   rw[List.take_of_length_le h]at c5
   omega
  have c5':(qd (C.take i):Int)<N:=by omega
  have w1:IntKind.i64.wrap ((i:Int)+1)=((i+1:Nat):Int):=zI (by omega)
  rw[y5 hil,if_neg (by omega)]at i2
  simp (maxSteps:=1000000) [go_sem,c5',w1]
  exact zf (i+1) ⟨by omega,by omega⟩ (by simp[go_sem,LeS,leV,leR,leA,leL]) (by omega)
 ·have c5':¬(qd (C.take i):Int)<N:=by omega
  have e2:K=i:=by
   rw[i2]
   by_cases hil:i<C.length
   ·rw[y5 hil,if_pos (by omega)];rfl
   ·rw[List.drop_eq_nil_of_le (by omega)];rfl
  rw[e2]
  simp (maxSteps:=1000000) [go_sem,c5']
  exact zh (jt (C,(i:Nat),true)) rfl (by simp[go_sem,zd,leA,leT,leP,jt,zG,zk]) ⟨rfl,rfl⟩
end Go.Proofs.YtjefahhmkcfiiaaGreat
end
