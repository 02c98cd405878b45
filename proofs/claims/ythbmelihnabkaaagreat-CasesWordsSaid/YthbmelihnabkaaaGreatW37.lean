/- A part of the proof of this seat's statements, by an abstract machine: what each operation does to values, and what the law's functions compute. Conditions: as each law says. -/
import Derived.Test.YthbmelihnabkaaaGreatW36
import Derived.Test.YthbmelihnabkaaaGreatW35
import Derived.Test.YthbmelihnabkaaaGreatW27
section
namespace Go.Proofs.YthbmelihnabkaaaGreat
open Go.AM
set_option maxHeartbeats 4000000
set_option maxRecDepth 10000
def ZH(M:List Int):List AV:=(M.map fun r=>PV.int .i64 r).map .p
@[go_sem] theorem zmp (rt tt : Tok → Bool) (M : List Int) : (ZH M).map (AV.upd (fil rt tt)) = ZH M := by simp [ZH, AV.upd, fil, QK]
@[go_sem] theorem zms (M : List Int) : (ZH M).length = M.length := by simp [ZH]
theorem zfb(a b:List Int):ZH (a++b)=ZH a++ZH b:=by simp[ZH]
theorem YR(x:Int):ZH [x]=[.p (.int .i64 x)]:=rfl
theorem zid {M:List Int} {i:Nat} {v:Int}(h:M[i]?=some v):(ZH M)[i]?=some (.p (.int .i64 v)):=by
 rw[ZH,List.getElem?_map,List.getElem?_map,h];rfl
theorem YI {M:List Int} {i:Nat}(v:Int)(h:i<M.length):(ZH M).take i++AV.p (.int .i64 v)::(ZH M).drop (i+1)=ZH (M.set i v):=by
 have:ZH (M.set i v)=(ZH M).set i (.p (.int .i64 v)):=by simp[ZH,List.map_set]
 rw[this,List.set_eq_take_append_cons_drop,if_pos (by simpa[ZH]using h)]
def z5(k:Int→Int)(x:Int):List Int→List Int
 | []=>[x]
 |y::l=>if k x≠0∧k x<k y then y::z5 k x l else x::y::l
def Q4(k:Int→Int)(O:List Int)(x:Int):List Int:=(z5 k x O.reverse).reverse
def jU(k:Int→Int)(l:List Int):List Int:=l.foldl (Q4 k) []
theorem Yh(k:Int→Int)(x:Int):∀l,(z5 k x l).length=l.length+1
 | []=>rfl
 |y::l=>by unfold z5;split<;>simp[Yh k x l]
theorem zjc(k:Int→Int)(O:List Int)(x:Int):(Q4 k O x).length=O.length+1:=by simp[Q4,Yh]
theorem k9(k:Int→Int)(l:List Int):(jU k l).length=l.length:=by
 suffices H:∀(l O:List Int),(l.foldl (Q4 k) O).length=O.length+l.length by simpa[jU]using H l []
 intro l
 induction l with
 |nil=>intro O;rfl
 |cons x l ih=>intro O;rw[List.foldl_cons,ih,zjc,List.length_cons];omega
theorem Ui(k:Int→Int)(l:List Int)(x:Int):jU k (l++[x])=Q4 k (jU k l) x:=by simp[jU,List.foldl_append]
def kD(rows:List Row)(x:Int):Int:=aL rows 1 x
def oV(o:List Int)(t:Tok):AV:=if o=[]then .p (.opq (.slice none 0 0))else .la t 1 0 o.length
def oR(k:Int→Int)(o:List Int):List (Tok×List AV):=if o=[]then []else [([30],zo o),([34],ZH (o.map k))]
theorem wH {A:List Int}(h:A≠ []):∃A' y,A=A'++[y]:=by
 rcases List.eq_nil_or_concat A with e|⟨l,z,e⟩
 ·exact absurd e h
 ·exact⟨l,z,by rw[e];simp⟩
theorem zee [Gi](rows:List Row)(hrw:qX rows)(l:List Int)(hl0:l≠ [])(hn:l.length<2^31)(hr:∀x∈l,zu x):
  CR Tryz.prog 107 [] [.p (zJ rows),.p (zh l)] [] (fun x rs=>x=.la [30] 1 0 (jU (kD rows) l).length∧rs=[([30],zo (jU (kD rows) l))]):=by
 refine qQ [] mixed 10 [] Tryz.func107 rfl (by kernel_rfl) [5,6,30,34] rfl (by simp) (by simp) ?_
 simp (maxSteps:=1000000) [go_sem,Tryz.f107,zh]
 refine zm (fun i:Nat=>i≤l.length) (fun i=>[(7,.p (.int .i64 (i:Nat))),(5,oV (jU (kD rows) (l.take i)) [30]),(6,oV (jU (kD rows) (l.take i)) [34]),(8,.zU),(9,.zU)]) (fun i=>oR (kD rows) (jU (kD rows) (l.take i))) (fun i=>l.length-i) 0 (by omega)
  (by simp[go_sem,LeS,leV,leR,leA,jU,oV,oR]) (fun i hi=>?_)
 have hlt:(jU (kD rows) (l.take i)).length=i:=by rw[k9,List.length_take];omega
 by_cases hil:i<l.length
 ·obtain⟨x,hx⟩:∃x,l[i]=x:=⟨_,rfl⟩
  have hxr:zu x:=hr x (by rw[←hx];exact List.getElem_mem _)
  have em:elemAt (zr l) i=.int .i32 x:=by rw[zr,zt (fun r=>PV.int .i32 r) l i hil,hx]
  have htk:l.take (i+1)=l.take i++[x]:=by rw[List.take_add_one,List.getElem?_eq_getElem hil,hx];rfl
  have hnx:jU (kD rows) (l.take (i+1))=Q4 (kD rows) (jU (kD rows) (l.take i)) x:=by rw[htk,Ui]
  have w1:IntKind.i64.wrap ((i:Int)+1)=((i+1:Nat):Int):=zN (by omega)
  have hil':(i:Int)<l.length:=by omega
  have w0:IntKind.i64.wrap 1=1:=wrap64 (by omega) (by omega)
  have wm:IntKind.i64.wrap (-1)= -1:=wrap64 (by omega) (by omega)
  generalize jU (kD rows) (l.take i)=O at hlt hnx
  obtain⟨cx,hcx⟩:∃cx,cx=kD rows x:=⟨_,rfl⟩
  have hcx':aL rows 1 x=cx:=hcx.symm
  by_cases hi0:i=0
  ·subst hi0
   obtain rfl:O=[]:=List.eq_nil_of_length_eq_zero hlt
   have e2:jU (kD rows) (l.take (0+1))=[x]:=by rw[hnx];rfl
   simp (maxSteps:=1000000) [go_sem,oV,oR,hil,em,zC]
   refine⟨⟨rfl,by simp[Tryz.f156]⟩,zc [] (kA rows x hrw.n hxr) (by simp[go_sem]) ⟨by simp[go_sem],by simp[go_sem]⟩ (by simp[go_sem]) ?_⟩
   rintro _ rs ⟨rfl,rfl⟩
   rw[hcx']
   simp (maxSteps:=1000000) [go_sem,hil,em,zC]
   refine zm (fun _:Unit=>True) (fun _=>[]) (fun _=>[]) (fun _=>0) () trivial (by simp[go_sem,LeS,leV,leR,leA,leL]) (fun _ _=>?_)
   simp (maxSteps:=1000000) [go_sem,w0,wm]
   exact zf 1 (by omega) (by simp[go_sem,LeS,leV,leR,leA,leL,e2,qD,YR,←hcx]) (by omega)
  ·have hne:O≠ []:=fun e=>by rw[e]at hlt;simp at hlt;omega
   have hol:0<O.length:=List.length_pos_iff.2 hne
   simp (maxSteps:=1000000) [go_sem,oV,oR,hne,hil',em,zC]
   refine⟨⟨rfl,by simp[Tryz.f156]⟩,zc [] (kA rows x hrw.n hxr) (by simp[go_sem]) ⟨by simp[go_sem],by simp[go_sem]⟩ (by simp[go_sem]) ?_⟩
   rintro _ rs ⟨rfl,rfl⟩
   rw[hcx']
   simp (maxSteps:=1000000) [go_sem,hil',em,zC,hol]
   refine⟨by omega,by omega,?_⟩
   refine zm (fun r:List Int×List Int=>Q4 (kD rows) O x=(z5 (kD rows) x r.1.reverse).reverse++r.2∧r.1.length+r.2.length=O.length) (fun r=>[(9,.p (.int .i64 (r.1.length:Nat)))]) (fun r=>[([30],zo (r.1++x::r.2)),([34],ZH ((r.1.map (kD rows))++cx::r.2.map (kD rows)))]) (fun r=>r.1.length) (O,[]) ⟨by simp[Q4],by simp⟩
    (by simp[go_sem,LeS,leV,leR,leA,zj,Ze,zfb,qD,YR]) (fun r hr2=>?_)
   obtain⟨A,B⟩:=r
   obtain⟨p1,p2⟩:=hr2
   simp only at p1 p2
   have done:z5 (kD rows) x A.reverse=x::A.reverse→jU (kD rows) (l.take (i+1))=A++x::B:=fun e=>by rw[hnx,p1,e];simp
   have hABl:(A++x::B).length=O.length+1:=by simp;omega
   have hne2:A++x::B≠ []:=by simp
   have hmap:(A++x::B).map (kD rows)=A.map (kD rows)++cx::B.map (kD rows):=by rw[List.map_append,List.map_cons,←hcx]
   by_cases hA:A=[]
   ·subst hA
    have e2:=done rfl
    have z0:∀hh,(ZH (cx::B.map (kD rows)))[0]'hh=.p (.int .i64 cx):=fun _=>rfl
    have z1:(ZH (cx::B.map (kD rows)))[0]?=some (.p (.int .i64 cx)):=rfl
    simp only[List.length_nil,Nat.zero_add]at p2
    simp (maxSteps:=1000000) [go_sem,wm,w1,z0]
    exact zf (i+1) (by omega) (by simp[go_sem,LeS,leV,leR,leA,e2,zj,←hcx,p2]) (by omega)
   ·obtain⟨A',y,rfl⟩:=wH hA
    obtain⟨k,hk⟩:∃k,k=A'.length:=⟨_,rfl⟩
    have hAl:(A'++[y]).length=k+1:=by simp[hk]
    rw[hAl]at p2
    obtain⟨cy,hcy⟩:∃cy,cy=kD rows y:=⟨_,rfl⟩
    have eM:A'++[y]++x::B=A'++y::x::B:=by simp
    have eC:(A'++[y]).map (kD rows)++cx::B.map (kD rows)=A'.map (kD rows)++cy::cx::B.map (kD rows):=by simp[hcy]
    have eM2:A'++x::y::B=A'++x::(y::B):=rfl
    have gR:(zo (A'++y::x::B))[k]?=some (.p (.int .i32 y)):=Zw (by rw[hk,List.getElem?_append_right (Nat.le_refl _)];simp)
    have gI:(ZH (A'.map (kD rows)++cy::cx::B.map (kD rows)))[k]?=some (.p (.int .i64 cy)):=zid (by rw[hk,List.getElem?_append_right (by simp)];simp)
    have gR2:∀hh,(zo (A'++y::x::B))[k]'hh=.p (.int .i32 y):=fun hh=>by have:=gR;rw[List.getElem?_eq_getElem hh]at this;injection this
    have gI2:∀hh,(ZH (A'.map (kD rows)++cy::cx::B.map (kD rows)))[k]'hh=.p (.int .i64 cy):=fun hh=>by have:=gI;rw[List.getElem?_eq_getElem hh]at this;injection this
    have lR:(A'++y::x::B).length=O.length+1:=by simp;omega
    have lI:(A'.map (kD rows)++cy::cx::B.map (kD rows)).length=O.length+1:=by simp;omega
    have wk:IntKind.i64.wrap ((k:Int)+1-1)=(k:Int):=zq (x:=k+1) (by omega) rfl
    have wk':IntKind.i64.wrap (k:Int)=(k:Int):=XV (by omega)
    have kn:k<O.length+1:=by omega
    have kn1:k+1<O.length+1:=by omega
    have kn':(k:Int)< (O.length:Int)+1:=by omega
    have kn1':(k:Int)+1< (O.length:Int)+1:=by omega
    have k0:(0:Int)< (k:Int)+1:=by omega
    have k0':(0:Int)≤(k:Int)+1:=by omega
    have kt:((k:Int)+1).toNat=k+1:=by omega
    simp only[eM,eC,hAl]at done⊢
    by_cases hc0:cx=0
    ·have e2:=done (by
      have hrv:(A'++[y]).reverse=y::A'.reverse:=by simp
      rw[hrv,z5,if_neg (fun h=>h.1 (by rw[←hcx];exact hc0))])
     clear hcx'
     obtain rfl:cx=0:=hc0
     simp (maxSteps:=1000000) [go_sem,w1,k0,gI2,kn,kn',wk',lI]
     exact zf (i+1) (by omega) (by simp[go_sem,LeS,leV,leR,leA,e2,zj,←hcx,←hcy];omega) (by omega)
    ·by_cases hlt2:cx<cy
     ·have hins:Q4 (kD rows) O x=(z5 (kD rows) x A'.reverse).reverse++(y::B):=by
       have hrv:(A'++[y]).reverse=y::A'.reverse:=by simp
       rw[p1,hrv,z5,if_pos ⟨by rw[←hcx];exact hc0,by rw[←hcx,←hcy];exact hlt2⟩];simp
      have pR1:=qU (M:=A'++y::x::B) (i:=k+1) y (by omega)
      have pR2:=qU (M:=(A'++y::x::B).set (k+1) y) (i:=k) x (by rw[List.length_set];omega)
      have pI1:=YI (M:=A'.map (kD rows)++cy::cx::B.map (kD rows)) (i:=k+1) cy (by omega)
      have pI2:=YI (M:=(A'.map (kD rows)++cy::cx::B.map (kD rows)).set (k+1) cy) (i:=k) cx (by rw[List.length_set];omega)
      have sR:=Vy A' B y x
      have sI:=Vy (A'.map (kD rows)) (B.map (kD rows)) cy cx
      rw[List.length_map]at sI
      rw[←hk]at sR sI
      rw[sR]at pR2
      rw[sI]at pI2
      simp (maxSteps:=1000000) [go_sem,k0,hc0,gR2,gI2,kn,kn',kn1',k0',kt,wk',hlt2,lR,lI,pR1,pR2,pI1,pI2,hil',em,zC]
      exact⟨by omega,by omega,zf (A',y::B) ⟨hins,by simp;omega⟩ (by simp[go_sem,LeS,leV,leR,leA,zj,hk,←hcy]) (by simp)⟩
     ·have e2:=done (by
       have hrv:(A'++[y]).reverse=y::A'.reverse:=by simp
       rw[hrv,z5,if_neg (fun h=>hlt2 (by rw[hcx,hcy];exact h.2))])
      simp (maxSteps:=1000000) [go_sem,w1,k0,hc0,gI2,kn,kn',wk',hlt2,lI]
      exact zf (i+1) (by omega) (by simp[go_sem,LeS,leV,leR,leA,e2,zj,←hcx,←hcy];omega) (by omega)
 ·have hil':¬(i:Int)<l.length:=by omega
  obtain rfl:i=l.length:=by omega
  rw[List.take_length]at hlt⊢
  have hne:jU (kD rows) l≠ []:=fun e=>by rw[e]at hlt;simp at hlt;exact hl0 (List.eq_nil_of_length_eq_zero hlt.symm)
  generalize jU (kD rows) l=O at hlt hne
  simp (maxSteps:=1000000) [go_sem,oV,oR,hne,zC]
  exact zi [[30]] (.la [30] 1 0 O.length) ⟨rfl,by simp⟩ (by simp[go_sem,zd,leA,leT]) ⟨rfl,by simp[go_sem]⟩
theorem zhC [Gi](rows:List Row)(hrw:qX rows)(l:List Int)(hn:l.length<2^31)(hr:∀x∈l,zu x):CR Tryz.prog 107 [] [.p (zJ rows),.p (zh l)] [] (is (.p (zh (jU (kD rows) l)))):=by
 by_cases hl0:l=[]
 ·subst hl0
  refine qQ [] mixed 10 [] Tryz.func107 rfl (by kernel_rfl) [5,6,30,34] rfl (by simp) (by simp) ?_
  simp (maxSteps:=1000000) [go_sem,Tryz.f107,zh]
  refine zm (fun _:Unit=>True) (fun _=>[]) (fun _=>[]) (fun _=>0) () trivial (by simp[go_sem,LeS,leV,leR,leA]) (fun _ _=>?_)
  simp (maxSteps:=1000000) [go_sem,zr]
  exact zg (.p (.sl 1 [])) rfl (by simp[go_sem,zd,leA,leT]) ⟨rfl,rfl⟩
 ·have hlen:=k9 (kD rows) l
  exact CR.row (by rw[hlen];exact List.length_pos_iff.2 hl0) (zee rows hrw l hl0 hn hr)
def ZV(rows:List Row)(l:List Int):List Int:=l.flatMap (z6 rows 8)
def ZO(rows:List Row)(l:List Int):List Int:=jU (kD rows) (ZV rows l)
theorem Jc(rows:List Row)(l:List Int):(ZV rows l).length≤768*l.length:=by
 induction l with
 |nil=>simp[ZV]
 |cons x l ih=>
  have:=yI rows 8 x
  simp only[ZV,List.flatMap_cons,List.length_append,List.length_cons]at*
  omega
theorem Wt {rows:List Row}(hrw:qX rows):∀d r,zu r→∀x∈z6 rows d r,zu x
 |0,r,hr,x,hx=>by
  unfold z6 at hx
  split at hx
  ·rename_i hs
   have hs':44032≤r∧r<55204:=by simpa[Zc]using hs
   unfold zQ at hx
   unfold zu
   split at hx<;>simp at hx<;>omega
  ·rw[List.mem_singleton.1 hx];exact hr
 |d+1,r,hr,x,hx=>by
  unfold z6 at hx
  split at hx
  ·rename_i hs
   have hs':44032≤r∧r<55204:=by simpa[Zc]using hs
   unfold zQ at hx
   unfold zu
   split at hx<;>simp at hx<;>omega
  ·split at hx
   ·rw[List.mem_singleton.1 hx];exact hr
   ·rename_i p hp
    have hb:=VF hrw hp
    rcases List.mem_append.1 hx with hx|hx
    ·exact Wt hrw d _ ⟨by omega,by omega⟩ x hx
    ·split at hx
     ·simp at hx
     ·exact Wt hrw d _ ⟨by omega,by omega⟩ x hx
theorem Kn {rows:List Row}(hrw:qX rows) {l:List Int}(hl:∀x∈l,zu x):∀x∈ZV rows l,zu x:=fun x hx=>by
 obtain⟨r,hr,hx⟩:=List.mem_flatMap.1 hx
 exact Wt hrw 8 r (hl r hr) x hx
theorem KT [Gi](rows:List Row)(hrw:qX rows)(l:List Int)(hn:l.length<2^20)(hr:∀x∈l,zu x):CR Tryz.prog 52 [] [.p (zJ rows),.p (zh l)] [] (is (.p (zh (ZO rows l)))):=by
 refine zn mixed 7 [] Tryz.func52 rfl (by kernel_rfl) rfl (by simp) (by simp) ?_
 simp (maxSteps:=1000000) [go_sem,Tryz.f52,zh]
 refine zm (fun i:Nat=>i≤l.length) (fun i=>[(6,.p (.int .i64 (i:Nat))),(5,.os [5] 1 (zr (ZV rows (l.take i))))]) (fun _=>[]) (fun i=>l.length-i) 0 (by omega) (by simp[go_sem,LeS,leV,leR,leA,ZV,zr]) (fun i hi=>?_)
 have hal:=Jc rows (l.take i)
 have hal2:(ZV rows (l.take i)).length≤768*l.length:=by rw[List.length_take]at hal;omega
 by_cases hil:i<l.length
 ·obtain⟨x,hx⟩:∃x,l[i]=x:=⟨_,rfl⟩
  have hxr:zu x:=hr x (by rw[←hx];exact List.getElem_mem _)
  have em:elemAt (zr l) i=.int .i32 x:=by rw[zr,zt (fun r=>PV.int .i32 r) l i hil,hx]
  have hnx:ZV rows (l.take (i+1))=ZV rows (l.take i)++z6 rows 8 x:=by
   rw[List.take_add_one,List.getElem?_eq_getElem hil,hx];simp[ZV]
  have hfl:=yI rows 8 x
  have w1:IntKind.i64.wrap ((i:Int)+1)=((i+1:Nat):Int):=zN (by omega)
  have hil':(i:Int)<l.length:=by omega
  simp (maxSteps:=1000000) [go_sem,hil',em,zC]
  refine⟨⟨rfl,by simp[Tryz.f106]⟩,zc [] (zdN rows hrw 8 (by omega) x hxr) (by simp[go_sem]) ⟨by simp[go_sem],by simp[go_sem]⟩ (by simp[go_sem]) ?_⟩
  rintro _ rs ⟨rfl,rfl⟩
  simp (maxSteps:=1000000) [go_sem,w1]
  refine⟨by simp[zr];omega,zf (i+1) (by omega) (by simp[go_sem,LeS,leV,leR,leA,hnx,zr]) (by omega)⟩
 ·have hil':¬(i:Int)<l.length:=by omega
  obtain rfl:i=l.length:=by omega
  rw[List.take_length]at hal2⊢
  simp (maxSteps:=1000000) [go_sem,zC]
  refine⟨⟨rfl,by simp[Tryz.f107]⟩,zc [] (zhC rows hrw (ZV rows l) (by omega) (Kn hrw hr)) (by simp[go_sem]) ⟨by simp[go_sem],by simp[go_sem,zh]⟩ (by simp[go_sem]) ?_⟩
  rintro _ rs ⟨rfl,rfl⟩
  simp (maxSteps:=1000000) [go_sem,zh]
  exact zg (.p (zh (ZO rows l))) rfl (by simp[go_sem,zd,leA,leT,zh,ZO]) ⟨rfl,rfl⟩
end Go.Proofs.YthbmelihnabkaaaGreat
end
section
namespace Go.Proofs.YthbmelihnabkaaaGreat
open Go.AM
set_option maxHeartbeats 4000000
set_option maxRecDepth 10000
def vF(k:Int→Int)(o:List Int):Int×Int:=o.foldl (fun(p:Int×Int) y=>(p.1+1,if k y=0 then p.1 else p.2)) (0, -1)
def qi(k:Int→Int)(o:List Int):Int:=(vF k o).2
theorem Ku(k:Int→Int)(o:List Int)(y:Int):vF k (o++[y])=((vF k o).1+1,if k y=0 then(vF k o).1 else(vF k o).2):=by simp[vF,List.foldl_append]
theorem vH {P:List Int→Prop}(h0:P [])(h1:∀o y,P o→P (o++[y])):∀(n:Nat) (o:List Int),o.length=n→P o
 |0,o,h=>by rw[List.eq_nil_of_length_eq_zero h];exact h0
 |n+1,o,h=>by
  obtain⟨o',y,rfl⟩:=wH (A:=o) (fun e=>by rw[e]at h;simp at h)
  exact h1 o' y (vH h0 h1 n o' (by simpa using h))
theorem ze8(k:Int→Int):∀o:List Int,(vF k o).1=o.length:=by
 exact fun o=>vH (P:=fun o=>(vF k o).1=o.length) rfl (fun o y ih=>by rw[Ku];simp[ih]) o.length o rfl
theorem ZL(k:Int→Int)(o:List Int)(y:Int):qi k (o++[y])=if k y=0 then(o.length:Int)else qi k o:=by
 unfold qi;rw[Ku,ze8]
theorem y4(k:Int→Int):qi k []= -1:=rfl
theorem Uw(k:Int→Int):∀o:List Int, -1≤qi k o∧qi k o<o.length:=by
 exact fun o=>vH (P:=fun o=> -1≤qi k o∧qi k o<o.length) (by simp[y4]) (fun o y ih=>by rw[ZL];simp only[List.length_append,List.length_singleton];split<;>omega) o.length o rfl
theorem zgO {o:List Int} {i:Nat}(h:i<o.length):o.take (i+1)=o.take i++[o[i]]:=by
 rw[List.take_add_one,List.getElem?_eq_getElem h];rfl
theorem zin [Gi](rows:List Row)(hrw:qX rows)(o:List Int)(hn:o.length<2^31)(hr:∀x∈o,zu x):CR Tryz.prog 108 [[0]] [.p (zJ rows),.la [0] 1 0 o.length] [([0],zo o)] (fun x rs=>x=.p (.int .i64 (qi (kD rows) o))∧rs=[([0],zo o)]):=by
 refine zn mixed 6 [] Tryz.func108 rfl (by kernel_rfl) rfl (by simp) (by simp) ?_
 have w1:IntKind.i64.wrap ((o.length:Int)-1)=(o.length:Int)-1:=wrap64 (by omega) (by omega)
 simp (maxSteps:=1000000) [go_sem,Tryz.f108,w1]
 refine zm (fun i:Nat=>i≤o.length∧qi (kD rows) o=qi (kD rows) (o.take i)) (fun i=>[(5,.p (.int .i64 ((i:Int)-1)))]) (fun _=>[]) (fun i=>i) o.length ⟨Nat.le_refl _,by rw[List.take_length]⟩ (by simp[go_sem,LeS,leV,leR,leA,zj]) (fun i hi=>?_)
 obtain⟨h1,h2⟩:=hi
 by_cases hi0:i=0
 ·subst hi0
  simp (maxSteps:=1000000) [go_sem]
  exact zi [[0]] (.p (.int .i64 (qi (kD rows) o))) ⟨rfl,by simp⟩ (by simp[go_sem,zd,leA,leT,h2,y4]) ⟨rfl,by simp[go_sem]⟩
 ·obtain⟨j,rfl⟩:∃j,i=j+1:=⟨i-1,by omega⟩
  have hj:j<o.length:=by omega
  have hxr:zu o[j]:=hr _ (List.getElem_mem _)
  rw[zgO hj,ZL,List.length_take]at h2
  have hm:min j o.length=j:=by omega
  rw[hm]at h2
  have gx:=Zw (List.getElem?_eq_getElem hj)
  have gx2:∀hh,(zo o)[j]'hh=.p (.int .i32 o[j]):=fun hh=>by have:=gx;rw[List.getElem?_eq_getElem hh]at this;injection this
  generalize o[j]=x at hxr h2 gx gx2
  have ej:((j+1:Nat):Int)-1=(j:Int):=by omega
  have w2:IntKind.i64.wrap ((j:Int)-1)=(j:Int)-1:=wrap64 (by omega) (by omega)
  have hj':(j:Int)<o.length:=by omega
  have hj0:(0:Int)≤(j:Int):=by omega
  simp only[ej]
  simp (maxSteps:=1000000) [go_sem,hj,hj',hj0,gx2]
  refine⟨⟨rfl,by simp[Tryz.f156]⟩,zc [] (kA rows x hrw.n hxr) (by simp[go_sem,zE]) ⟨by simp[go_sem],by simp[go_sem]⟩ (by simp[go_sem]) ?_⟩
  rintro _ rs ⟨rfl,rfl⟩
  by_cases hc:kD rows x=0
  ·have e:qi (kD rows) o=j:=by rw[h2,if_pos hc]
   have hc':aL rows 1 x=0:=hc
   simp (maxSteps:=1000000) [go_sem,hc']
   exact zi [[0]] (.p (.int .i64 (qi (kD rows) o))) ⟨rfl,by simp⟩ (by simp[go_sem,zd,leA,leT,e]) ⟨rfl,by simp[go_sem]⟩
  ·have hc':¬aL rows 1 x=0:=hc
   simp (maxSteps:=1000000) [go_sem,hc',w2]
   refine zf j ⟨by omega,by rw[h2,if_neg hc]⟩ (by simp[go_sem,LeS,leV,leR,leA,zj]) (by omega)
theorem zig [Gi](rows:List Row):CR Tryz.prog 108 [] [.p (zJ rows),.p (.opq (.slice none 0 0))] [] (is (.p (.int .i64 (-1)))):=by
 refine zn mixed 6 [] Tryz.func108 rfl (by kernel_rfl) rfl (by simp) (by simp) ?_
 have w1:IntKind.i64.wrap (-1)= -1:=wrap64 (by omega) (by omega)
 simp (maxSteps:=1000000) [go_sem,Tryz.f108,w1]
 refine zm (fun _:Unit=>True) (fun _=>[]) (fun _=>[]) (fun _=>0) () trivial (by simp[go_sem,LeS,leV,leR,leA]) (fun _ _=>?_)
 simp (maxSteps:=1000000) [go_sem]
 exact zg (.p (.int .i64 (-1))) rfl (by simp[go_sem,zd,leA,leT]) ⟨rfl,rfl⟩
def Ka(k:Int→Int)(o:List Int)(a x:Int):Bool:=decide (a=o.length-1) || decide (k (o[o.length-1]?.getD 0)<k x)
theorem zjb [Gi](rows:List Row)(hrw:qX rows)(o:List Int)(h0:o≠ [])(a x:Int)(hx:zu x)(hn:o.length<2^31)(hr:∀x∈o,zu x):CR Tryz.prog 109 [[0]] [.p (zJ rows),.la [0] 1 0 o.length,.p (.int .i64 a),.p (.int .i32 x)] [([0],zo o)] (fun y rs=>y=.p (.bool (Ka (kD rows) o a x))∧rs=[([0],zo o)]):=by
 refine zn mixed 9 [] Tryz.func109 rfl (by kernel_rfl) rfl (by simp) (by simp) ?_
 have hol:0<o.length:=List.length_pos_iff.2 h0
 obtain⟨n,hno⟩:∃n,o.length=n+1:=⟨o.length-1,by omega⟩
 have hj:n<o.length:=by omega
 have w1:IntKind.i64.wrap (((n+1:Nat):Int)-1)=(n:Int):=zq (by omega) rfl
 have w1':IntKind.i64.wrap ((n:Int)+1-1)=(n:Int):=zq (x:=n+1) (by omega) rfl
 have w1'':IntKind.i64.wrap (n:Int)=(n:Int):=XV (by omega)
 have hxr:zu o[n]:=hr _ (List.getElem_mem _)
 have gx:=Zw (List.getElem?_eq_getElem hj)
 have gx2:∀hh,(zo o)[n]'hh=.p (.int .i32 o[n]):=fun hh=>by have:=gx;rw[List.getElem?_eq_getElem hh]at this;injection this
 have el:o[o.length-1]?.getD 0=o[n]:=by rw[hno,Nat.add_sub_cancel,List.getElem?_eq_getElem hj];rfl
 have e1:((o.length:Int)-1)=(n:Int):=by omega
 unfold Ka
 rw[el,e1]
 generalize o[n]=y at hxr gx gx2
 by_cases c1:a=(n:Int)
 ·subst c1
  simp (maxSteps:=1000000) [go_sem,Tryz.f109,hno,w1'']
  exact zi [[0]] (.p (.bool true)) ⟨rfl,by simp⟩ (by simp[go_sem,zd,leA,leT]) ⟨rfl,by simp[go_sem]⟩
 ·simp (maxSteps:=1000000) [go_sem,Tryz.f109,hno,w1'',c1,gx2]
  refine⟨by omega,⟨rfl,by simp[Tryz.f156]⟩,zc [] (kA rows y hrw.n hxr) (by simp[go_sem,zE]) ⟨by simp[go_sem],by simp[go_sem]⟩ (by simp[go_sem]) ?_⟩
  rintro _ rs ⟨rfl,rfl⟩
  simp (maxSteps:=1000000) [go_sem]
  refine⟨⟨rfl,by simp[Tryz.f156]⟩,zc [] (kA rows x hrw.n hx) (by simp[go_sem,zE]) ⟨by simp[go_sem],by simp[go_sem]⟩ (by simp[go_sem]) ?_⟩
  rintro _ rs ⟨rfl,rfl⟩
  simp (maxSteps:=1000000) [go_sem]
  exact zi [[0]] (.p (.bool (decide (aL rows 1 y<aL rows 1 x)))) ⟨rfl,by simp⟩ (by simp[go_sem,zd,leA,leT]) ⟨congrArg (fun b=>AV.p (.bool b)) (decide_eq_decide.2 Iff.rfl),by simp[go_sem]⟩
def mkD(rows:List Row)(a b:Int):Option Int:=(zT a b).or (xN rows a b)
def yc(k:Int→Int)(mk:Int→Int→Option Int)(O:List Int)(x:Int):List Int:=
 if 0≤qi k O∧Ka k O (qi k O) x=true then match mk (O[(qi k O).toNat]?.getD 0) x with
  |some r=>O.set (qi k O).toNat r
  |none=>O++[x]
 else O++[x]
def ZK(k:Int→Int)(mk:Int→Int→Option Int)(l:List Int):List Int:=l.foldl (yc k mk) []
theorem vT(k:Int→Int)(mk:Int→Int→Option Int)(l:List Int)(x:Int):ZK k mk (l++[x])=yc k mk (ZK k mk l) x:=by simp[ZK,List.foldl_append]
theorem zfm {rows:List Row}(hrw:qX rows)(x y:Int):∀z,xN rows x y=some z→zu z:=by
 suffices H:∀(l:List Row) (a:Option Int),(∀w∈l,w∈rows)→(∀z,a=some z→zu z)→∀z,l.foldl (ZS rows x y) a=some z→zu z by
  exact H rows none (fun _ h=>h) (fun z h=>by cases h)
 intro l
 induction l with
 |nil=>intro a _ ha z hz;exact ha z hz
 |cons w l ih=>
  intro a hw ha z hz
  refine ih _ (fun v hv=>hw v (by simp[hv])) (fun u hu=>?_) z hz
  unfold ZS at hu
  split at hu
  ·rename_i hc
   injection hu with hu;subst hu
   have:=hrw.p w (hw w (by simp)) hc.1
   exact⟨by omega,by omega⟩
  ·exact ha u hu
theorem ziE {rows:List Row}(hrw:qX rows) {x y z:Int}(h:mkD rows x y=some z):zu z:=by
 unfold mkD at h
 cases hj:zT x y with
 |none=>rw[hj]at h;exact zfm hrw x y z h
 |some q=>
  rw[hj]at h
  simp only[Option.some_or,Option.some.injEq]at h
  subst h
  unfold zT at hj
  split at hj
  ·injection hj with hj;exact⟨by omega,by omega⟩
  ·split at hj
   ·rename_i hc
    have hs':44032≤x∧x<55204:=by simpa[Zc]using hc.1
    injection hj with hj;exact⟨by omega,by omega⟩
   ·cases hj
structure vB(o:List Int)(n:Nat):Prop where
 nn:o.length≤n
 ne:0<n→o≠ []
 r:∀x∈o,zu x
theorem vB.push {o:List Int} {n:Nat}(h:vB o n) {x:Int}(hx:zu x):vB (o++[x]) (n+1):=
 ⟨by simp;exact h.nn,by simp,fun y hy=>by rcases List.mem_append.1 hy with hy|hy;exact h.r y hy;rw[List.mem_singleton.1 hy];exact hx⟩
theorem vB.set {o:List Int} {n:Nat}(h:vB o n)(h0:o≠ []) {j:Nat} {x:Int}(hx:zu x):vB (o.set j x) (n+1):=
 ⟨by simp;have:=h.nn;omega,fun _ e=>h0 (by have:=congrArg List.length e;rw[List.length_set,List.length_nil]at this;exact List.eq_nil_of_length_eq_zero this),fun y hy=>by rcases List.mem_or_eq_of_mem_set hy with hy|rfl;exact h.r y hy;exact hx⟩
theorem zjt {rows:List Row}(hrw:qX rows) {o:List Int} {n:Nat}(h:vB o n) {x:Int}(hx:zu x):vB (yc (kD rows) (mkD rows) o x) (n+1):=by
 unfold yc
 split
 ·rename_i hf
  split
  ·rename_i r hr
   refine h.set (fun e=>?_) (ziE hrw hr)
   rw[e,y4]at hf
   have:=hf.1
   simp at this
  ·exact h.push hx
 ·exact h.push hx
theorem Ux {rows:List Row}(hrw:qX rows)(l:List Int)(hl:∀x∈l,zu x):vB (ZK (kD rows) (mkD rows) l) l.length:=by
 suffices H:∀(l':List Int) (o:List Int) (n:Nat),(∀x∈l',zu x)→vB o n→vB (l'.foldl (yc (kD rows) (mkD rows)) o) (n+l'.length) by
  have:=H l [] 0 hl ⟨by simp,by simp,by simp⟩
  simpa[ZK]using this
 intro l'
 induction l' with
 |nil=>intro o n _ h;simpa using h
 |cons x l' ih=>
  intro o n hl h
  have:=ih _ _ (fun y hy=>hl y (by simp[hy])) (zjt hrw h (hl x (by simp)))
  simpa[Nat.add_assoc,Nat.add_comm 1]using this
def oV1(o:List Int):AV:=if o=[]then .p (.opq (.slice none 0 0))else .la [55] 1 0 o.length
def oR1(o:List Int):List (Tok×List AV):=if o=[]then []else [([55],zo o)]
theorem YZ [Gi](rows:List Row)(hrw:qX rows)(l:List Int)(hl0:l≠ [])(hn:l.length<2^31)(hr:∀x∈l,zu x):
  CR Tryz.prog 53 [] [.p (zJ rows),.p (zh l)] [] (fun x rs=>x=.la [55] 1 0 (ZK (kD rows) (mkD rows) l).length∧rs=[([55],zo (ZK (kD rows) (mkD rows) l))]):=by
 refine qQ [7] mixed 10 [] Tryz.func53 rfl (by kernel_rfl) [5,55] rfl (by simp) (by simp) ?_
 simp (maxSteps:=1000000) [go_sem,Tryz.f53,zh]
 refine zm (fun i:Nat=>i≤l.length) (fun i=>[(6,.p (.int .i64 (i:Nat))),(5,oV1 (ZK (kD rows) (mkD rows) (l.take i))),(7,.zU),(8,.zU),(9,.zU)]) (fun i=>oR1 (ZK (kD rows) (mkD rows) (l.take i))) (fun i=>l.length-i) 0 (by omega)
  (by simp[go_sem,LeS,leV,leR,leA,ZK,oV1,oR1]) (fun i hi=>?_)
 have hok:=Ux hrw (l.take i) (fun x hx=>hr x (List.mem_of_mem_take hx))
 have hlt:(l.take i).length=i:=by rw[List.length_take];omega
 rw[hlt]at hok
 by_cases hil:i<l.length
 ·obtain⟨x,hx⟩:∃x,l[i]=x:=⟨_,rfl⟩
  have hxr:zu x:=hr x (by rw[←hx];exact List.getElem_mem _)
  have em:elemAt (zr l) i=.int .i32 x:=by rw[zr,zt (fun r=>PV.int .i32 r) l i hil,hx]
  have htk:l.take (i+1)=l.take i++[x]:=by rw[List.take_add_one,List.getElem?_eq_getElem hil,hx];rfl
  have hnx:ZK (kD rows) (mkD rows) (l.take (i+1))=yc (kD rows) (mkD rows) (ZK (kD rows) (mkD rows) (l.take i)) x:=by rw[htk,vT]
  have w1:IntKind.i64.wrap ((i:Int)+1)=((i+1:Nat):Int):=zN (by omega)
  have hil':(i:Int)<l.length:=by omega
  have w0:IntKind.i64.wrap 1=1:=wrap64 (by omega) (by omega)
  generalize ZK (kD rows) (mkD rows) (l.take i)=o at hok hnx
  obtain⟨k1,k2,k3⟩:=hok
  by_cases hi0:i=0
  ·subst hi0
   obtain rfl:o=[]:=List.eq_nil_of_length_eq_zero (by omega)
   have e2:ZK (kD rows) (mkD rows) (l.take (0+1))=[x]:=by rw[hnx];rfl
   simp (maxSteps:=1000000) [go_sem,oV1,oR1,hil,zC]
   refine⟨⟨rfl,by simp[Tryz.f108]⟩,zc [] (zig rows) (by simp[go_sem]) ⟨by simp[go_sem],by simp[go_sem]⟩ (by simp[go_sem]) ?_⟩
   rintro _ rs ⟨rfl,rfl⟩
   simp (maxSteps:=1000000) [go_sem,hil,em,zC]
   exact zf 1 (by omega) (by simp[go_sem,LeS,leV,leR,leA,leL,e2,qD,w0]) (by omega)
  ·have hne:o≠ []:=k2 (by omega)
   have hol:0<o.length:=List.length_pos_iff.2 hne
   obtain⟨s1,s2⟩:=Uw (kD rows) o
   have hst:yc (kD rows) (mkD rows) o x=if 0≤qi (kD rows) o∧Ka (kD rows) o (qi (kD rows) o) x=true then match mkD rows (o[(qi (kD rows) o).toNat]?.getD 0) x with
    |some r=>o.set (qi (kD rows) o).toNat r
    |none=>o++[x]
    else o++[x]:=rfl
   have hpush:yc (kD rows) (mkD rows) o x=o++[x]→ZK (kD rows) (mkD rows) (l.take (i+1))=o++[x]:=fun e=>by rw[hnx,e]
   simp (maxSteps:=1000000) [go_sem,oV1,oR1,hne,hil',zC]
   refine⟨⟨rfl,by simp[Tryz.f108]⟩,zc [([0],[55])] (zin rows hrw o (by omega) k3) (by simp[go_sem,zE]) ⟨by simp[go_sem],by simp[go_sem]⟩ (by simp[go_sem]) ?_⟩
   rintro _ rs ⟨rfl,rfl⟩
   generalize qi (kD rows) o=s at s1 s2 hst
   by_cases hs0:0≤s
   ·have hsl:s.toNat<o.length:=by omega
    have hyr:zu o[s.toNat]:=k3 _ (List.getElem_mem _)
    have gy:=Zw (List.getElem?_eq_getElem hsl)
    have gy2:∀hh,(zo o)[s.toNat]'hh=.p (.int .i32 o[s.toNat]):=fun hh=>by have:=gy;rw[List.getElem?_eq_getElem hh]at this;injection this
    have hput:∀v,(zo o).take s.toNat++AV.p (.int .i32 v)::(zo o).drop (s.toNat+1)=zo (o.set s.toNat v):=fun v=>qU v hsl
    have hgd:o[s.toNat]?.getD 0=o[s.toNat]:=by rw[List.getElem?_eq_getElem hsl];rfl
    rw[hgd]at hst
    generalize o[s.toNat]=y at gy gy2 hst hyr
    simp (maxSteps:=1000000) [go_sem,hs0,hil',em,zC]
    refine⟨⟨rfl,by simp[Tryz.f109]⟩,zc [([0],[55])] (zjb rows hrw o hne s x hxr (by omega) k3) (by simp[go_sem,zE]) ⟨by simp[go_sem],by simp[go_sem]⟩ (by simp[go_sem]) ?_⟩
    rintro _ rs ⟨rfl,rfl⟩
    cases hf:Ka (kD rows) o s x with
    |true=>
     rw[if_pos ⟨hs0,hf⟩]at hst
     simp (maxSteps:=1000000) [go_sem,hs0,gy2,s2,hil',em,zC]
     refine QO (.tup [.p (.int .i32 (qY (mkD rows y x))),.p (.bool (mkD rows y x).isSome)]) rfl rfl (fun _=>jP 110 (zhf rows y x hrw hyr hxr) rfl ⟨rfl,by simp[Tryz.f110]⟩ ⟨by simp[go_sem],by simp[go_sem]⟩) ?_
     simp (maxSteps:=1000000) [go_sem]
     cases hmk:mkD rows y x with
     |some q=>
      have e2:ZK (kD rows) (mkD rows) (l.take (i+1))=o.set s.toNat q:=by rw[hnx,hst,hmk]
      have hp:=hput q
      have hne2:o.set s.toNat q≠ []:=fun e=>by have:=congrArg List.length e;rw[List.length_set,List.length_nil]at this;omega
      simp (maxSteps:=1000000) [go_sem,qY,hs0,s2,hp,w1,WQ]
      exact⟨by omega,zf (i+1) (by omega) (by simp[go_sem,LeS,leV,leR,leA,e2,hne2,zj]) (by omega)⟩
     |none=>
      have e2:=hpush (by rw[hst,hmk])
      simp (maxSteps:=1000000) [go_sem,qY,w1,hil',em,zC,hol]
      exact⟨by omega,zf (i+1) (by omega) (by simp[go_sem,LeS,leV,leR,leA,e2,hne,Ze,qD,zj]) (by omega)⟩
    |false=>
     have e2:=hpush (by rw[hst,if_neg (fun h=>by rw[hf]at h;simp at h)])
     simp (maxSteps:=1000000) [go_sem,w1,hil',em,zC,hol]
     exact⟨by omega,zf (i+1) (by omega) (by simp[go_sem,LeS,leV,leR,leA,e2,hne,Ze,qD,zj]) (by omega)⟩
   ·have e2:=hpush (by rw[hst,if_neg (fun h=>hs0 h.1)])
    simp (maxSteps:=1000000) [go_sem,hs0,w1,hil',em,zC,hol]
    exact⟨by omega,zf (i+1) (by omega) (by simp[go_sem,LeS,leV,leR,leA,e2,hne,Ze,qD,zj]) (by omega)⟩
 ·have hil':¬(i:Int)<l.length:=by omega
  obtain rfl:i=l.length:=by omega
  rw[List.take_length]at hok⊢
  have hne:=hok.ne (List.length_pos_iff.2 hl0)
  generalize ZK (kD rows) (mkD rows) l=o at hok hne
  simp (maxSteps:=1000000) [go_sem,oV1,oR1,hne,zC]
  exact zi [[55]] (.la [55] 1 0 o.length) ⟨rfl,by simp⟩ (by simp[go_sem,zd,leA,leT]) ⟨rfl,by simp[go_sem]⟩
def Vv(rows:List Row)(l:List Int):List Int:=ZK (kD rows) (mkD rows) l
theorem zdY [Gi](rows:List Row)(hrw:qX rows)(l:List Int)(hn:l.length<2^31)(hr:∀x∈l,zu x):CR Tryz.prog 53 [] [.p (zJ rows),.p (zh l)] [] (is (.p (zh (Vv rows l)))):=by
 by_cases hl0:l=[]
 ·subst hl0
  refine qQ [7] mixed 10 [] Tryz.func53 rfl (by kernel_rfl) [5,55] rfl (by simp) (by simp) ?_
  simp (maxSteps:=1000000) [go_sem,Tryz.f53,zh]
  refine zm (fun _:Unit=>True) (fun _=>[]) (fun _=>[]) (fun _=>0) () trivial (by simp[go_sem,LeS,leV,leR,leA]) (fun _ _=>?_)
  simp (maxSteps:=1000000) [go_sem,zr]
  exact zg (.p (.sl 1 [])) rfl (by simp[go_sem,zd,leA,leT]) ⟨rfl,rfl⟩
 ·have hok:=Ux hrw l hr
  exact CR.row (List.length_pos_iff.2 (hok.ne (List.length_pos_iff.2 hl0))) (YZ rows hrw l hl0 hn hr)
def qN(rows:List Row)(l:List Int):List Int:=Vv rows (ZO rows l)
theorem Yw {k:Int→Int} {x z:Int}:∀l,z∈z5 k x l→z=x∨z∈l
 | [],h=>by simp[z5]at h;exact .inl h
 |y::l,h=>by
  unfold z5 at h
  split at h
  ·rcases List.mem_cons.1 h with h|h
   ·exact .inr (by simp[h])
   ·rcases Yw l h with h|h
    ·exact .inl h
    ·exact .inr (by simp[h])
  ·rcases List.mem_cons.1 h with h|h
   ·exact .inl h
   ·exact .inr h
theorem zdh {k:Int→Int} {z:Int}(l:List Int)(h:z∈jU k l):z∈l:=by
 suffices H:∀(l O:List Int),z∈l.foldl (Q4 k) O→z∈O∨z∈l by
  rcases H l [] h with h|h
  ·simp at h
  ·exact h
 intro l
 induction l with
 |nil=>intro O h;exact .inl h
 |cons x l ih=>
  intro O h
  rcases ih _ h with h|h
  ·have h2:z∈z5 k x O.reverse:=by simpa[Q4]using h
   rcases Yw _ h2 with h3|h3
   ·exact .inr (by simp[h3])
   ·exact .inl (by simpa using h3)
  ·exact .inr (by simp[h])
theorem zdM(rows:List Row)(l:List Int):(ZO rows l).length≤768*l.length:=by unfold ZO;rw[k9];exact Jc rows l
theorem X9 {rows:List Row}(hrw:qX rows) {l:List Int}(hl:∀x∈l,zu x):∀x∈ZO rows l,zu x:=fun x hx=>Kn hrw hl x (zdh _ hx)
theorem w9 [Gi](rows:List Row)(hrw:qX rows)(l:List Int)(hn:l.length<2^20)(hr:∀x∈l,zu x):CR Tryz.prog 12 [] [.p (zJ rows),.p (zh l)] [] (is (.p (zh (qN rows l)))):=by
 refine zn mixed 5 [] Tryz.func12 rfl (by kernel_rfl) rfl (by simp) (by simp) ?_
 have hl:=zdM rows l
 simp (maxSteps:=1000000) [go_sem,Tryz.f12,zh]
 refine⟨⟨rfl,by simp[Tryz.f52]⟩,zc [] (KT rows hrw l hn hr) (by simp[go_sem]) ⟨by simp[go_sem],by simp[go_sem,zh]⟩ (by simp[go_sem]) ?_⟩
 rintro _ rs ⟨rfl,rfl⟩
 simp (maxSteps:=1000000) [go_sem,zh]
 refine⟨⟨rfl,by simp[Tryz.f53]⟩,zc [] (zdY rows hrw (ZO rows l) (by omega) (X9 hrw hr)) (by simp[go_sem]) ⟨by simp[go_sem],by simp[go_sem,zh]⟩ (by simp[go_sem]) ?_⟩
 rintro _ rs ⟨rfl,rfl⟩
 simp (maxSteps:=1000000) [go_sem,zh]
 exact zg (.p (zh (qN rows l))) rfl (by simp[go_sem,zd,leA,leT,zh,qN]) ⟨rfl,rfl⟩
end Go.Proofs.YthbmelihnabkaaaGreat
end
section
namespace Go.Proofs.YthbmelihnabkaaaGreat
open Go.AM
set_option maxHeartbeats 4000000
set_option maxRecDepth 10000
def zgD(need:Int):List (List Int)→Nat
 | []=>0
 |c::C=>if need≤0 then 0 else zgD (need-c.length) C+1
def zbu(nfc:List Int→List Int)(clus:List Int→List (List Int))(L:List (List Int))(a f e:Int)(s:List Int):List (List Int)×Int×Bool:=
 if f<0∨e<f∨(L.length:Int)<e then(L,a,false)
 else
  let rest:=(L.drop e.toNat).flatten
  let x:=nfc ((L.take f.toNat).flatten++(s++rest))
  if 65536<x.length then(L,a,false)
  else(clus x,(zgD ((x.length:Int)-zmv x rest) (clus x):Nat),true)
end Go.Proofs.YthbmelihnabkaaaGreat
end
section
namespace Go.Proofs.YthbmelihnabkaaaGreat
open Go.AM
set_option maxHeartbeats 4000000
set_option maxRecDepth 10000
structure zfd(nfc:List Int→List Int)(clus:List Int→List (List Int)):Prop where
 len:∀l:List Int,l.length<2^20→(nfc l).length<2^31
 rune:∀l:List Int,l.length<2^20→(∀x∈l,zu x)→∀x∈nfc l,zu x
 flat:∀l,(clus l).flatten=l
 num:∀l,(clus l).length≤l.length
structure zo0(L:List (List Int)):Prop where
 num:L.length≤Zz L
 len:Zz L≤65536
 rune:∀x∈L.flatten,zu x
theorem zfd.sum {nfc clus}(h:zfd nfc clus)(x:List Int):Zz (clus x)=x.length:=by rw[←yH,h.flat]
end Go.Proofs.YthbmelihnabkaaaGreat
end
section
namespace Go.Proofs.YthbmelihnabkaaaGreat
open Go.AM
set_option maxHeartbeats 4000000
set_option maxRecDepth 10000
end Go.Proofs.YthbmelihnabkaaaGreat
end
section
namespace Go.Proofs.YthbmelihnabkaaaGreat
open Go.AM
set_option maxHeartbeats 4000000
set_option maxRecDepth 100000
theorem Um(k i:Int)(h:0≤i∧i≤1114111):∀l:List Row,(l.find? (jC k i)).map jH=atL (zP l k) i
 | []=>rfl
 |r::l=>by
  have ih:=Um k i h l
  have e:zP (r::l) k=if r.k=k then jH r::zP l k else zP l k:=by
   by_cases hk:r.k=k<;>simp[zP,hk]
  rw[e,List.find?_cons]
  by_cases hk:r.k=k
  ·rw[if_pos hk]
   unfold atL at ih⊢
   rw[List.find?_cons]
   by_cases hq:r.f≤i∧i≤r.t
   ·have h1:jC k i r=true:=by simp[jC,hk,hq.1,hq.2]
    have h2:decide ((jH r).f≤i∧i≤(jH r).t)=true:=decide_eq_true (show max r.f 0≤i∧i≤min r.t 1114111 from⟨by omega,by omega⟩)
    rw[h1,h2];rfl
   ·have h1:jC k i r=false:=by
     unfold jC
     by_cases q1:r.f≤i
     ·have:¬i≤r.t:=fun q2=>hq ⟨q1,q2⟩
      simp[this]
     ·simp[q1]
    have h2:decide ((jH r).f≤i∧i≤(jH r).t)=false:=decide_eq_false (show ¬(max r.f 0≤i∧i≤min r.t 1114111)from fun q=>hq ⟨by omega,by omega⟩)
    rw[h1,h2];exact ih
  ·rw[if_neg hk]
   have h1:jC k i r=false:=by simp[jC,hk]
   rw[h1];exact ih
def spA(l:List Span)(i:Int):Int:=match atL l i with|some s=>s.a|none=>0
theorem uq(l:List Row)(k i:Int)(h:0≤i∧i≤1114111):aL l k i=spA (zP l k) i:=by
 have e:=Um k i h l
 unfold aL spA rowAt
 rw[if_neg (by omega),←e]
 cases l.find? (jC k i)<;>rfl
theorem KP(i:Int):∀l:List Span,qS 0 i (l.map QW)=spA l i
 | []=>rfl
 |s::l=>by
  have ih:=KP i l
  simp only[List.map_cons,qS]
  unfold spA atL at ih⊢
  rw[List.find?_cons]
  by_cases h:s.f≤i∧i≤s.t
  ·have h1:decide (s.f≤i∧i≤s.t)=true:=by simpa using h
   rw[if_pos (by exact h),h1];rfl
  ·have h1:decide (s.f≤i∧i≤s.t)=false:=by simpa using h
   rw[if_neg (by exact h),h1];exact ih
theorem kj1:qg za 1=zP za 1:=by decide+kernel
theorem kj2:qg za 2=zP za 2:=by decide+kernel
theorem kj4:qg za 4=zP za 4:=by decide+kernel
theorem kj5:qg za 5=zP za 5:=by decide+kernel
theorem kj6:qg za 6=zP za 6:=by decide+kernel
theorem UP(l:List Row)(k i:Int)(h:¬(0≤i∧i≤1114111)):aL l k i=0:=by
 unfold aL rowAt
 rw[if_pos (by omega)]
theorem K0(r:Int):T0.cls (rn r)=aL za 1 r:=by
 by_cases h:0≤r∧r≤1114111
 ·rw[uq _ _ _ h,←kj1,←KP,uU (by omega)];exact congrArg (fun x=>qS 0 x ((qg za 1).map QW)) (Int.toNat_of_nonneg h.1)
 ·rw[xz (by omega),UP _ _ _ h];exact Z0.c
theorem zkP(r:Int):T0.brk (rn r)=aL za 4 r:=by
 by_cases h:0≤r∧r≤1114111
 ·rw[uq _ _ _ h,←kj4,←KP,uU (by omega)];exact congrArg (fun x=>qS 0 x ((qg za 4).map QW)) (Int.toNat_of_nonneg h.1)
 ·rw[xz (by omega),UP _ _ _ h];exact Z0.b
theorem zkG(r:Int):T0.cnj (rn r)=aL za 6 r:=by
 by_cases h:0≤r∧r≤1114111
 ·rw[uq _ _ _ h,←kj6,←KP,uU (by omega)];exact congrArg (fun x=>qS 0 x ((qg za 6).map QW)) (Int.toNat_of_nonneg h.1)
 ·rw[xz (by omega),UP _ _ _ h];exact Z0.j
theorem zga(r:Int):(T0.flg (rn r)).p=decide (aL za 5 r=1):=by
 by_cases h:0≤r∧r≤1114111
 ·have e:(T0.flg (rn r)).p=qR (qg za 5) r:=by
   rw[uU (by omega)];exact congrArg (qR (qg za 5)) (Int.toNat_of_nonneg h.1)
  rw[e,uq _ _ _ h,kj5]
  unfold qR spA
  cases atL (zP za 5) r with
  |none=>rfl
  |some s=>simp only;rfl
 ·rw[xz (by omega),UP _ _ _ h,Z0.f];rfl
def zgE(l:List Span)(i:Int):Zd:=match atL l i with|some s=>⟨s.a,s.b⟩|none=>⟨0,0⟩
theorem zgr(i:Int):∀l:List Span,qS ⟨0,0⟩ i (l.map jA)=zgE l i
 | []=>rfl
 |s::l=>by
  have ih:=zgr i l
  simp only[List.map_cons,qS]
  unfold zgE atL at ih⊢
  rw[List.find?_cons]
  by_cases h:s.f≤i∧i≤s.t
  ·have h1:decide (s.f≤i∧i≤s.t)=true:=by simpa using h
   rw[if_pos (by exact h),h1];rfl
  ·have h1:decide (s.f≤i∧i≤s.t)=false:=by simpa using h
   rw[if_neg (by exact h),h1];exact ih
theorem zfS(r:Int):T0.par (rn r)=(match Za za r with|some p=>⟨p.1,p.2⟩|none=>⟨0,0⟩):=by
 by_cases h:0≤r∧r≤1114111
 ·have e:T0.par (rn r)=zgE (zP za 2) r:=by
   rw[←kj2,←zgr,uU (by omega)];exact congrArg (fun x=>qS (⟨0,0⟩:Zd) x ((qg za 2).map jA)) (Int.toNat_of_nonneg h.1)
  rw[e]
  have q:=Um 2 r h za
  unfold zgE Za rowAt
  rw[if_neg (by omega),←q]
  cases za.find? (jC 2 r)with
  |none=>rfl
  |some x=>
   simp only[Option.map_some,jH]
   by_cases h0:x.a=0∧x.b=0
   ·rw[if_pos h0];simp[h0.1,h0.2]
   ·rw[if_neg h0]
 ·have e:Za za r=none:=by unfold Za rowAt;rw[if_pos (by omega)]
  rw[xz (by omega),Z0.p,e]
theorem xO:∀(d:Nat) (r:Int),qO T0 d r=z6 za d r
 |0,r=>rfl
 |d+1,r=>by
  unfold qO z6
  split
  ·rfl
  ·have e:=zfS r
   cases hp:Za za r with
   |none=>
    rw[hp]at e
    rw[e];simp
   |some p=>
    rw[hp]at e
    have h0:¬(p.1=0∧p.2=0):=by
     intro h0
     unfold Za at hp
     cases hr:rowAt za 2 r with
     |none=>rw[hr]at hp;simp at hp
     |some x=>
      rw[hr]at hp
      simp only at hp
      split at hp
      ·simp at hp
      ·rename_i hx
       have:=Option.some.inj hp
       rw[←this]at h0
       exact hx h0
    rw[e]
    simp only
    rw[if_neg h0,xO d p.1,xO d p.2]
theorem zgW(l:List Int):qL T0 l=ZV za l:=by
 unfold qL ZV
 congr 1;funext r;exact xO 8 r
theorem zgn:zK T0=kD za:=by funext r;exact K0 r
end Go.Proofs.YthbmelihnabkaaaGreat
end
