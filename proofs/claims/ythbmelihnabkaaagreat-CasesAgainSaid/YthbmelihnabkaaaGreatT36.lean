/- A part of the proof of this seat's statements, by an abstract machine: what each operation does to values, and what the law's functions compute. Conditions: as each law says. -/
import Derived.Test.YthbmelihnabkaaaGreatT35
import Derived.Test.YthbmelihnabkaaaGreatT34
import Derived.Test.YthbmelihnabkaaaGreatT25
section
namespace Go.Proofs.YthbmelihnabkaaaGreat
open Go.AM
set_option maxHeartbeats 4000000
set_option maxRecDepth 10000
def ZA(M:List Int):List AV:=(M.map fun r=>PV.int .i64 r).map .p
@[go_sem] theorem zmO (rt tt : Tok → Bool) (M : List Int) : (ZA M).map (AV.upd (fil rt tt)) = ZA M := by simp [ZA, AV.upd, fil, Qv]
@[go_sem] theorem zmC (M : List Int) : (ZA M).length = M.length := by simp [ZA]
theorem zdR(a b:List Int):ZA (a++b)=ZA a++ZA b:=by simp[ZA]
theorem Jl(x:Int):ZA [x]=[.p (.int .i64 x)]:=rfl
theorem zgD {M:List Int} {i:Nat} {v:Int}(h:M[i]?=some v):(ZA M)[i]?=some (.p (.int .i64 v)):=by
 rw[ZA,List.getElem?_map,List.getElem?_map,h];rfl
theorem Yi {M:List Int} {i:Nat}(v:Int)(h:i<M.length):(ZA M).take i++AV.p (.int .i64 v)::(ZA M).drop (i+1)=ZA (M.set i v):=by
 have:ZA (M.set i v)=(ZA M).set i (.p (.int .i64 v)):=by simp[ZA,List.map_set]
 rw[this,List.set_eq_take_append_cons_drop,if_pos (by simpa[ZA]using h)]
def zV(k:Int→Int)(x:Int):List Int→List Int
 | []=>[x]
 |y::l=>if k x≠0∧k x<k y then y::zV k x l else x::y::l
def Qc(k:Int→Int)(O:List Int)(x:Int):List Int:=(zV k x O.reverse).reverse
def Q4(k:Int→Int)(l:List Int):List Int:=l.foldl (Qc k) []
theorem Jj(k:Int→Int)(x:Int):∀l,(zV k x l).length=l.length+1
 | []=>rfl
 |y::l=>by unfold zV;split<;>simp[Jj k x l]
theorem zi5(k:Int→Int)(O:List Int)(x:Int):(Qc k O x).length=O.length+1:=by simp[Qc,Jj]
theorem yy(k:Int→Int)(l:List Int):(Q4 k l).length=l.length:=by
 suffices H:∀(l O:List Int),(l.foldl (Qc k) O).length=O.length+l.length by simpa[Q4]using H l []
 intro l
 induction l with
 |nil=>intro O;rfl
 |cons x l ih=>intro O;rw[List.foldl_cons,ih,zi5,List.length_cons];omega
theorem Un(k:Int→Int)(l:List Int)(x:Int):Q4 k (l++[x])=Qc k (Q4 k l) x:=by simp[Q4,List.foldl_append]
def kD(rows:List Row)(x:Int):Int:=aL rows 1 x
def oV(o:List Int)(t:Tok):AV:=if o=[]then .p (.opq (.slice none 0 0))else .la t 1 0 o.length
def oR(k:Int→Int)(o:List Int):List (Tok×List AV):=if o=[]then []else [([30],zp o),([34],ZA (o.map k))]
theorem wK {A:List Int}(h:A≠ []):∃A' y,A=A'++[y]:=by
 rcases List.eq_nil_or_concat A with e|⟨l,z,e⟩
 ·exact absurd e h
 ·exact⟨l,z,by rw[e];simp⟩
theorem zcp [Gi](rows:List Row)(hrw:qV rows)(l:List Int)(hl0:l≠ [])(hn:l.length<2^31)(hr:∀x∈l,zD x):
  CR Tryz.prog 107 [] [.p (zI rows),.p (zh l)] [] (fun x rs=>x=.la [30] 1 0 (Q4 (kD rows) l).length∧rs=[([30],zp (Q4 (kD rows) l))]):=by
 refine qP [] mixed 10 [] Tryz.func107 rfl (by kernel_rfl) [5,6,30,34] rfl (by simp) (by simp) ?_
 simp (maxSteps:=1000000) [go_sem,Tryz.f107,zh]
 refine zl (fun i:Nat=>i≤l.length) (fun i=>[(7,.p (.int .i64 (i:Nat))),(5,oV (Q4 (kD rows) (l.take i)) [30]),(6,oV (Q4 (kD rows) (l.take i)) [34]),(8,.zX),(9,.zX)]) (fun i=>oR (kD rows) (Q4 (kD rows) (l.take i))) (fun i=>l.length-i) 0 (by omega)
  (by simp[go_sem,LeS,leV,leR,leA,Q4,oV,oR]) (fun i hi=>?_)
 have hlt:(Q4 (kD rows) (l.take i)).length=i:=by rw[yy,List.length_take];omega
 by_cases hil:i<l.length
 ·obtain⟨x,hx⟩:∃x,l[i]=x:=⟨_,rfl⟩
  have hxr:zD x:=hr x (by rw[←hx];exact List.getElem_mem _)
  have em:elemAt (zx l) i=.int .i32 x:=by rw[zx,zq (fun r=>PV.int .i32 r) l i hil,hx]
  have htk:l.take (i+1)=l.take i++[x]:=by rw[List.take_add_one,List.getElem?_eq_getElem hil,hx];rfl
  have hnx:Q4 (kD rows) (l.take (i+1))=Qc (kD rows) (Q4 (kD rows) (l.take i)) x:=by rw[htk,Un]
  have w1:IntKind.i64.wrap ((i:Int)+1)=((i+1:Nat):Int):=zT (by omega)
  have hil':(i:Int)<l.length:=by omega
  have w0:IntKind.i64.wrap 1=1:=wrap64 (by omega) (by omega)
  have wm:IntKind.i64.wrap (-1)= -1:=wrap64 (by omega) (by omega)
  generalize Q4 (kD rows) (l.take i)=O at hlt hnx
  obtain⟨cx,hcx⟩:∃cx,cx=kD rows x:=⟨_,rfl⟩
  have hcx':aL rows 1 x=cx:=hcx.symm
  by_cases hi0:i=0
  ·subst hi0
   obtain rfl:O=[]:=List.eq_nil_of_length_eq_zero hlt
   have e2:Q4 (kD rows) (l.take (0+1))=[x]:=by rw[hnx];rfl
   simp (maxSteps:=1000000) [go_sem,oV,oR,hil,em,zB]
   refine⟨⟨rfl,by simp[Tryz.f156]⟩,zc [] (xN rows x hrw.n hxr) (by simp[go_sem]) ⟨by simp[go_sem],by simp[go_sem]⟩ (by simp[go_sem]) ?_⟩
   rintro _ rs ⟨rfl,rfl⟩
   rw[hcx']
   simp (maxSteps:=1000000) [go_sem,hil,em,zB]
   refine zl (fun _:Unit=>True) (fun _=>[]) (fun _=>[]) (fun _=>0) () trivial (by simp[go_sem,LeS,leV,leR,leA,leL]) (fun _ _=>?_)
   simp (maxSteps:=1000000) [go_sem,w0,wm]
   exact zf 1 (by omega) (by simp[go_sem,LeS,leV,leR,leA,leL,e2,qA,Jl,←hcx]) (by omega)
  ·have hne:O≠ []:=fun e=>by rw[e]at hlt;simp at hlt;omega
   have hol:0<O.length:=List.length_pos_iff.2 hne
   simp (maxSteps:=1000000) [go_sem,oV,oR,hne,hil',em,zB]
   refine⟨⟨rfl,by simp[Tryz.f156]⟩,zc [] (xN rows x hrw.n hxr) (by simp[go_sem]) ⟨by simp[go_sem],by simp[go_sem]⟩ (by simp[go_sem]) ?_⟩
   rintro _ rs ⟨rfl,rfl⟩
   rw[hcx']
   simp (maxSteps:=1000000) [go_sem,hil',em,zB,hol]
   refine⟨by omega,by omega,?_⟩
   refine zl (fun r:List Int×List Int=>Qc (kD rows) O x=(zV (kD rows) x r.1.reverse).reverse++r.2∧r.1.length+r.2.length=O.length) (fun r=>[(9,.p (.int .i64 (r.1.length:Nat)))]) (fun r=>[([30],zp (r.1++x::r.2)),([34],ZA ((r.1.map (kD rows))++cx::r.2.map (kD rows)))]) (fun r=>r.1.length) (O,[]) ⟨by simp[Qc],by simp⟩
    (by simp[go_sem,LeS,leV,leR,leA,zj,Za,zdR,qA,Jl]) (fun r hr2=>?_)
   obtain⟨A,B⟩:=r
   obtain⟨p1,p2⟩:=hr2
   simp only at p1 p2
   have done:zV (kD rows) x A.reverse=x::A.reverse→Q4 (kD rows) (l.take (i+1))=A++x::B:=fun e=>by rw[hnx,p1,e];simp
   have hABl:(A++x::B).length=O.length+1:=by simp;omega
   have hne2:A++x::B≠ []:=by simp
   have hmap:(A++x::B).map (kD rows)=A.map (kD rows)++cx::B.map (kD rows):=by rw[List.map_append,List.map_cons,←hcx]
   by_cases hA:A=[]
   ·subst hA
    have e2:=done rfl
    have z0:∀hh,(ZA (cx::B.map (kD rows)))[0]'hh=.p (.int .i64 cx):=fun _=>rfl
    have z1:(ZA (cx::B.map (kD rows)))[0]?=some (.p (.int .i64 cx)):=rfl
    simp only[List.length_nil,Nat.zero_add]at p2
    simp (maxSteps:=1000000) [go_sem,wm,w1,z0]
    exact zf (i+1) (by omega) (by simp[go_sem,LeS,leV,leR,leA,e2,zj,←hcx,p2]) (by omega)
   ·obtain⟨A',y,rfl⟩:=wK hA
    obtain⟨k,hk⟩:∃k,k=A'.length:=⟨_,rfl⟩
    have hAl:(A'++[y]).length=k+1:=by simp[hk]
    rw[hAl]at p2
    obtain⟨cy,hcy⟩:∃cy,cy=kD rows y:=⟨_,rfl⟩
    have eM:A'++[y]++x::B=A'++y::x::B:=by simp
    have eC:(A'++[y]).map (kD rows)++cx::B.map (kD rows)=A'.map (kD rows)++cy::cx::B.map (kD rows):=by simp[hcy]
    have eM2:A'++x::y::B=A'++x::(y::B):=rfl
    have gR:(zp (A'++y::x::B))[k]?=some (.p (.int .i32 y)):=Zt (by rw[hk,List.getElem?_append_right (Nat.le_refl _)];simp)
    have gI:(ZA (A'.map (kD rows)++cy::cx::B.map (kD rows)))[k]?=some (.p (.int .i64 cy)):=zgD (by rw[hk,List.getElem?_append_right (by simp)];simp)
    have gR2:∀hh,(zp (A'++y::x::B))[k]'hh=.p (.int .i32 y):=fun hh=>by have:=gR;rw[List.getElem?_eq_getElem hh]at this;injection this
    have gI2:∀hh,(ZA (A'.map (kD rows)++cy::cx::B.map (kD rows)))[k]'hh=.p (.int .i64 cy):=fun hh=>by have:=gI;rw[List.getElem?_eq_getElem hh]at this;injection this
    have lR:(A'++y::x::B).length=O.length+1:=by simp;omega
    have lI:(A'.map (kD rows)++cy::cx::B.map (kD rows)).length=O.length+1:=by simp;omega
    have wk:IntKind.i64.wrap ((k:Int)+1-1)=(k:Int):=zL (x:=k+1) (by omega) rfl
    have wk':IntKind.i64.wrap (k:Int)=(k:Int):=Jq (by omega)
    have kn:k<O.length+1:=by omega
    have kn1:k+1<O.length+1:=by omega
    have kn':(k:Int)< (O.length:Int)+1:=by omega
    have kn1':(k:Int)+1< (O.length:Int)+1:=by omega
    have k0:(0:Int)< (k:Int)+1:=by omega
    have k0':(0:Int)≤(k:Int)+1:=by omega
    have kt:((k:Int)+1).toNat=k+1:=by omega
    simp only[eM,eC,hAl]at done⊢
    by_cases hc0:cx=0
    ·have e2:=done (by
      have hrv:(A'++[y]).reverse=y::A'.reverse:=by simp
      rw[hrv,zV,if_neg (fun h=>h.1 (by rw[←hcx];exact hc0))])
     clear hcx'
     obtain rfl:cx=0:=hc0
     simp (maxSteps:=1000000) [go_sem,w1,k0,gI2,kn,kn',wk',lI]
     exact zf (i+1) (by omega) (by simp[go_sem,LeS,leV,leR,leA,e2,zj,←hcx,←hcy];omega) (by omega)
    ·by_cases hlt2:cx<cy
     ·have hins:Qc (kD rows) O x=(zV (kD rows) x A'.reverse).reverse++(y::B):=by
       have hrv:(A'++[y]).reverse=y::A'.reverse:=by simp
       rw[p1,hrv,zV,if_pos ⟨by rw[←hcx];exact hc0,by rw[←hcx,←hcy];exact hlt2⟩];simp
      have pR1:=Zj (M:=A'++y::x::B) (i:=k+1) y (by omega)
      have pR2:=Zj (M:=(A'++y::x::B).set (k+1) y) (i:=k) x (by rw[List.length_set];omega)
      have pI1:=Yi (M:=A'.map (kD rows)++cy::cx::B.map (kD rows)) (i:=k+1) cy (by omega)
      have pI2:=Yi (M:=(A'.map (kD rows)++cy::cx::B.map (kD rows)).set (k+1) cy) (i:=k) cx (by rw[List.length_set];omega)
      have sR:=WY A' B y x
      have sI:=WY (A'.map (kD rows)) (B.map (kD rows)) cy cx
      rw[List.length_map]at sI
      rw[←hk]at sR sI
      rw[sR]at pR2
      rw[sI]at pI2
      simp (maxSteps:=1000000) [go_sem,k0,hc0,gR2,gI2,kn,kn',kn1',k0',kt,wk',hlt2,lR,lI,pR1,pR2,pI1,pI2,hil',em,zB]
      exact⟨by omega,by omega,zf (A',y::B) ⟨hins,by simp;omega⟩ (by simp[go_sem,LeS,leV,leR,leA,zj,hk,←hcy]) (by simp)⟩
     ·have e2:=done (by
       have hrv:(A'++[y]).reverse=y::A'.reverse:=by simp
       rw[hrv,zV,if_neg (fun h=>hlt2 (by rw[hcx,hcy];exact h.2))])
      simp (maxSteps:=1000000) [go_sem,w1,k0,hc0,gI2,kn,kn',wk',hlt2,lI]
      exact zf (i+1) (by omega) (by simp[go_sem,LeS,leV,leR,leA,e2,zj,←hcx,←hcy];omega) (by omega)
 ·have hil':¬(i:Int)<l.length:=by omega
  obtain rfl:i=l.length:=by omega
  rw[List.take_length]at hlt⊢
  have hne:Q4 (kD rows) l≠ []:=fun e=>by rw[e]at hlt;simp at hlt;exact hl0 (List.eq_nil_of_length_eq_zero hlt.symm)
  generalize Q4 (kD rows) l=O at hlt hne
  simp (maxSteps:=1000000) [go_sem,oV,oR,hne,zB]
  exact zi [[30]] (.la [30] 1 0 O.length) ⟨rfl,by simp⟩ (by simp[go_sem,zd,leA,leT]) ⟨rfl,by simp[go_sem]⟩
theorem zhZ [Gi](rows:List Row)(hrw:qV rows)(l:List Int)(hn:l.length<2^31)(hr:∀x∈l,zD x):CR Tryz.prog 107 [] [.p (zI rows),.p (zh l)] [] (is (.p (zh (Q4 (kD rows) l)))):=by
 by_cases hl0:l=[]
 ·subst hl0
  refine qP [] mixed 10 [] Tryz.func107 rfl (by kernel_rfl) [5,6,30,34] rfl (by simp) (by simp) ?_
  simp (maxSteps:=1000000) [go_sem,Tryz.f107,zh]
  refine zl (fun _:Unit=>True) (fun _=>[]) (fun _=>[]) (fun _=>0) () trivial (by simp[go_sem,LeS,leV,leR,leA]) (fun _ _=>?_)
  simp (maxSteps:=1000000) [go_sem,zx]
  exact zg (.p (.sl 1 [])) rfl (by simp[go_sem,zd,leA,leT]) ⟨rfl,rfl⟩
 ·have hlen:=yy (kD rows) l
  exact CR.row (by rw[hlen];exact List.length_pos_iff.2 hl0) (zcp rows hrw l hl0 hn hr)
def Zs(rows:List Row)(l:List Int):List Int:=l.flatMap (z5 rows 8)
def jM(rows:List Row)(l:List Int):List Int:=Q4 (kD rows) (Zs rows l)
theorem J9(rows:List Row)(l:List Int):(Zs rows l).length≤768*l.length:=by
 induction l with
 |nil=>simp[Zs]
 |cons x l ih=>
  have:=yf rows 8 x
  simp only[Zs,List.flatMap_cons,List.length_append,List.length_cons]at*
  omega
theorem Wi {rows:List Row}(hrw:qV rows):∀d r,zD r→∀x∈z5 rows d r,zD x
 |0,r,hr,x,hx=>by
  unfold z5 at hx
  split at hx
  ·rename_i hs
   have hs':44032≤r∧r<55204:=by simpa[q8]using hs
   unfold zO at hx
   unfold zD
   split at hx<;>simp at hx<;>omega
  ·rw[List.mem_singleton.1 hx];exact hr
 |d+1,r,hr,x,hx=>by
  unfold z5 at hx
  split at hx
  ·rename_i hs
   have hs':44032≤r∧r<55204:=by simpa[q8]using hs
   unfold zO at hx
   unfold zD
   split at hx<;>simp at hx<;>omega
  ·split at hx
   ·rw[List.mem_singleton.1 hx];exact hr
   ·rename_i p hp
    have hb:=WU hrw hp
    rcases List.mem_append.1 hx with hx|hx
    ·exact Wi hrw d _ ⟨by omega,by omega⟩ x hx
    ·split at hx
     ·simp at hx
     ·exact Wi hrw d _ ⟨by omega,by omega⟩ x hx
theorem U5 {rows:List Row}(hrw:qV rows) {l:List Int}(hl:∀x∈l,zD x):∀x∈Zs rows l,zD x:=fun x hx=>by
 obtain⟨r,hr,hx⟩:=List.mem_flatMap.1 hx
 exact Wi hrw 8 r (hl r hr) x hx
theorem zkJ [Gi](rows:List Row)(hrw:qV rows)(l:List Int)(hn:l.length<2^20)(hr:∀x∈l,zD x):CR Tryz.prog 52 [] [.p (zI rows),.p (zh l)] [] (is (.p (zh (jM rows l)))):=by
 refine zm mixed 7 [] Tryz.func52 rfl (by kernel_rfl) rfl (by simp) (by simp) ?_
 simp (maxSteps:=1000000) [go_sem,Tryz.f52,zh]
 refine zl (fun i:Nat=>i≤l.length) (fun i=>[(6,.p (.int .i64 (i:Nat))),(5,.os [5] 1 (zx (Zs rows (l.take i))))]) (fun _=>[]) (fun i=>l.length-i) 0 (by omega) (by simp[go_sem,LeS,leV,leR,leA,Zs,zx]) (fun i hi=>?_)
 have hal:=J9 rows (l.take i)
 have hal2:(Zs rows (l.take i)).length≤768*l.length:=by rw[List.length_take]at hal;omega
 by_cases hil:i<l.length
 ·obtain⟨x,hx⟩:∃x,l[i]=x:=⟨_,rfl⟩
  have hxr:zD x:=hr x (by rw[←hx];exact List.getElem_mem _)
  have em:elemAt (zx l) i=.int .i32 x:=by rw[zx,zq (fun r=>PV.int .i32 r) l i hil,hx]
  have hnx:Zs rows (l.take (i+1))=Zs rows (l.take i)++z5 rows 8 x:=by
   rw[List.take_add_one,List.getElem?_eq_getElem hil,hx];simp[Zs]
  have hfl:=yf rows 8 x
  have w1:IntKind.i64.wrap ((i:Int)+1)=((i+1:Nat):Int):=zT (by omega)
  have hil':(i:Int)<l.length:=by omega
  simp (maxSteps:=1000000) [go_sem,hil',em,zB]
  refine⟨⟨rfl,by simp[Tryz.f106]⟩,zc [] (zib rows hrw 8 (by omega) x hxr) (by simp[go_sem]) ⟨by simp[go_sem],by simp[go_sem]⟩ (by simp[go_sem]) ?_⟩
  rintro _ rs ⟨rfl,rfl⟩
  simp (maxSteps:=1000000) [go_sem,w1]
  refine⟨by simp[zx];omega,zf (i+1) (by omega) (by simp[go_sem,LeS,leV,leR,leA,hnx,zx]) (by omega)⟩
 ·have hil':¬(i:Int)<l.length:=by omega
  obtain rfl:i=l.length:=by omega
  rw[List.take_length]at hal2⊢
  simp (maxSteps:=1000000) [go_sem,zB]
  refine⟨⟨rfl,by simp[Tryz.f107]⟩,zc [] (zhZ rows hrw (Zs rows l) (by omega) (U5 hrw hr)) (by simp[go_sem]) ⟨by simp[go_sem],by simp[go_sem,zh]⟩ (by simp[go_sem]) ?_⟩
  rintro _ rs ⟨rfl,rfl⟩
  simp (maxSteps:=1000000) [go_sem,zh]
  exact zg (.p (zh (jM rows l))) rfl (by simp[go_sem,zd,leA,leT,zh,jM]) ⟨rfl,rfl⟩
end Go.Proofs.YthbmelihnabkaaaGreat
end
section
namespace Go.Proofs.YthbmelihnabkaaaGreat
open Go.AM
set_option maxHeartbeats 4000000
set_option maxRecDepth 10000
def we(k:Int→Int)(o:List Int):Int×Int:=o.foldl (fun(p:Int×Int) y=>(p.1+1,if k y=0 then p.1 else p.2)) (0, -1)
def zM(k:Int→Int)(o:List Int):Int:=(we k o).2
theorem UZ(k:Int→Int)(o:List Int)(y:Int):we k (o++[y])=((we k o).1+1,if k y=0 then(we k o).1 else(we k o).2):=by simp[we,List.foldl_append]
theorem yK {P:List Int→Prop}(h0:P [])(h1:∀o y,P o→P (o++[y])):∀(n:Nat) (o:List Int),o.length=n→P o
 |0,o,h=>by rw[List.eq_nil_of_length_eq_zero h];exact h0
 |n+1,o,h=>by
  obtain⟨o',y,rfl⟩:=wK (A:=o) (fun e=>by rw[e]at h;simp at h)
  exact h1 o' y (yK h0 h1 n o' (by simpa using h))
theorem ze9(k:Int→Int):∀o:List Int,(we k o).1=o.length:=by
 exact fun o=>yK (P:=fun o=>(we k o).1=o.length) rfl (fun o y ih=>by rw[UZ];simp[ih]) o.length o rfl
theorem qX(k:Int→Int)(o:List Int)(y:Int):zM k (o++[y])=if k y=0 then(o.length:Int)else zM k o:=by
 unfold zM;rw[UZ,ze9]
theorem yL(k:Int→Int):zM k []= -1:=rfl
theorem xQ(k:Int→Int):∀o:List Int, -1≤zM k o∧zM k o<o.length:=by
 exact fun o=>yK (P:=fun o=> -1≤zM k o∧zM k o<o.length) (by simp[yL]) (fun o y ih=>by rw[qX];simp only[List.length_append,List.length_singleton];split<;>omega) o.length o rfl
theorem zgP {o:List Int} {i:Nat}(h:i<o.length):o.take (i+1)=o.take i++[o[i]]:=by
 rw[List.take_add_one,List.getElem?_eq_getElem h];rfl
theorem zhP [Gi](rows:List Row)(hrw:qV rows)(o:List Int)(hn:o.length<2^31)(hr:∀x∈o,zD x):CR Tryz.prog 108 [[0]] [.p (zI rows),.la [0] 1 0 o.length] [([0],zp o)] (fun x rs=>x=.p (.int .i64 (zM (kD rows) o))∧rs=[([0],zp o)]):=by
 refine zm mixed 6 [] Tryz.func108 rfl (by kernel_rfl) rfl (by simp) (by simp) ?_
 have w1:IntKind.i64.wrap ((o.length:Int)-1)=(o.length:Int)-1:=wrap64 (by omega) (by omega)
 simp (maxSteps:=1000000) [go_sem,Tryz.f108,w1]
 refine zl (fun i:Nat=>i≤o.length∧zM (kD rows) o=zM (kD rows) (o.take i)) (fun i=>[(5,.p (.int .i64 ((i:Int)-1)))]) (fun _=>[]) (fun i=>i) o.length ⟨Nat.le_refl _,by rw[List.take_length]⟩ (by simp[go_sem,LeS,leV,leR,leA,zj]) (fun i hi=>?_)
 obtain⟨h1,h2⟩:=hi
 by_cases hi0:i=0
 ·subst hi0
  simp (maxSteps:=1000000) [go_sem]
  exact zi [[0]] (.p (.int .i64 (zM (kD rows) o))) ⟨rfl,by simp⟩ (by simp[go_sem,zd,leA,leT,h2,yL]) ⟨rfl,by simp[go_sem]⟩
 ·obtain⟨j,rfl⟩:∃j,i=j+1:=⟨i-1,by omega⟩
  have hj:j<o.length:=by omega
  have hxr:zD o[j]:=hr _ (List.getElem_mem _)
  rw[zgP hj,qX,List.length_take]at h2
  have hm:min j o.length=j:=by omega
  rw[hm]at h2
  have gx:=Zt (List.getElem?_eq_getElem hj)
  have gx2:∀hh,(zp o)[j]'hh=.p (.int .i32 o[j]):=fun hh=>by have:=gx;rw[List.getElem?_eq_getElem hh]at this;injection this
  generalize o[j]=x at hxr h2 gx gx2
  have ej:((j+1:Nat):Int)-1=(j:Int):=by omega
  have w2:IntKind.i64.wrap ((j:Int)-1)=(j:Int)-1:=wrap64 (by omega) (by omega)
  have hj':(j:Int)<o.length:=by omega
  have hj0:(0:Int)≤(j:Int):=by omega
  simp only[ej]
  simp (maxSteps:=1000000) [go_sem,hj,hj',hj0,gx2]
  refine⟨⟨rfl,by simp[Tryz.f156]⟩,zc [] (xN rows x hrw.n hxr) (by simp[go_sem,zw]) ⟨by simp[go_sem],by simp[go_sem]⟩ (by simp[go_sem]) ?_⟩
  rintro _ rs ⟨rfl,rfl⟩
  by_cases hc:kD rows x=0
  ·have e:zM (kD rows) o=j:=by rw[h2,if_pos hc]
   have hc':aL rows 1 x=0:=hc
   simp (maxSteps:=1000000) [go_sem,hc']
   exact zi [[0]] (.p (.int .i64 (zM (kD rows) o))) ⟨rfl,by simp⟩ (by simp[go_sem,zd,leA,leT,e]) ⟨rfl,by simp[go_sem]⟩
  ·have hc':¬aL rows 1 x=0:=hc
   simp (maxSteps:=1000000) [go_sem,hc',w2]
   refine zf j ⟨by omega,by rw[h2,if_neg hc]⟩ (by simp[go_sem,LeS,leV,leR,leA,zj]) (by omega)
theorem zgG [Gi](rows:List Row):CR Tryz.prog 108 [] [.p (zI rows),.p (.opq (.slice none 0 0))] [] (is (.p (.int .i64 (-1)))):=by
 refine zm mixed 6 [] Tryz.func108 rfl (by kernel_rfl) rfl (by simp) (by simp) ?_
 have w1:IntKind.i64.wrap (-1)= -1:=wrap64 (by omega) (by omega)
 simp (maxSteps:=1000000) [go_sem,Tryz.f108,w1]
 refine zl (fun _:Unit=>True) (fun _=>[]) (fun _=>[]) (fun _=>0) () trivial (by simp[go_sem,LeS,leV,leR,leA]) (fun _ _=>?_)
 simp (maxSteps:=1000000) [go_sem]
 exact zg (.p (.int .i64 (-1))) rfl (by simp[go_sem,zd,leA,leT]) ⟨rfl,rfl⟩
def wV(k:Int→Int)(o:List Int)(a x:Int):Bool:=decide (a=o.length-1) || decide (k (o[o.length-1]?.getD 0)<k x)
theorem zj5 [Gi](rows:List Row)(hrw:qV rows)(o:List Int)(h0:o≠ [])(a x:Int)(hx:zD x)(hn:o.length<2^31)(hr:∀x∈o,zD x):CR Tryz.prog 109 [[0]] [.p (zI rows),.la [0] 1 0 o.length,.p (.int .i64 a),.p (.int .i32 x)] [([0],zp o)] (fun y rs=>y=.p (.bool (wV (kD rows) o a x))∧rs=[([0],zp o)]):=by
 refine zm mixed 9 [] Tryz.func109 rfl (by kernel_rfl) rfl (by simp) (by simp) ?_
 have hol:0<o.length:=List.length_pos_iff.2 h0
 obtain⟨n,hno⟩:∃n,o.length=n+1:=⟨o.length-1,by omega⟩
 have hj:n<o.length:=by omega
 have w1:IntKind.i64.wrap (((n+1:Nat):Int)-1)=(n:Int):=zL (by omega) rfl
 have w1':IntKind.i64.wrap ((n:Int)+1-1)=(n:Int):=zL (x:=n+1) (by omega) rfl
 have w1'':IntKind.i64.wrap (n:Int)=(n:Int):=Jq (by omega)
 have hxr:zD o[n]:=hr _ (List.getElem_mem _)
 have gx:=Zt (List.getElem?_eq_getElem hj)
 have gx2:∀hh,(zp o)[n]'hh=.p (.int .i32 o[n]):=fun hh=>by have:=gx;rw[List.getElem?_eq_getElem hh]at this;injection this
 have el:o[o.length-1]?.getD 0=o[n]:=by rw[hno,Nat.add_sub_cancel,List.getElem?_eq_getElem hj];rfl
 have e1:((o.length:Int)-1)=(n:Int):=by omega
 unfold wV
 rw[el,e1]
 generalize o[n]=y at hxr gx gx2
 by_cases c1:a=(n:Int)
 ·subst c1
  simp (maxSteps:=1000000) [go_sem,Tryz.f109,hno,w1'']
  exact zi [[0]] (.p (.bool true)) ⟨rfl,by simp⟩ (by simp[go_sem,zd,leA,leT]) ⟨rfl,by simp[go_sem]⟩
 ·simp (maxSteps:=1000000) [go_sem,Tryz.f109,hno,w1'',c1,gx2]
  refine⟨by omega,⟨rfl,by simp[Tryz.f156]⟩,zc [] (xN rows y hrw.n hxr) (by simp[go_sem,zw]) ⟨by simp[go_sem],by simp[go_sem]⟩ (by simp[go_sem]) ?_⟩
  rintro _ rs ⟨rfl,rfl⟩
  simp (maxSteps:=1000000) [go_sem]
  refine⟨⟨rfl,by simp[Tryz.f156]⟩,zc [] (xN rows x hrw.n hx) (by simp[go_sem,zw]) ⟨by simp[go_sem],by simp[go_sem]⟩ (by simp[go_sem]) ?_⟩
  rintro _ rs ⟨rfl,rfl⟩
  simp (maxSteps:=1000000) [go_sem]
  exact zi [[0]] (.p (.bool (decide (aL rows 1 y<aL rows 1 x)))) ⟨rfl,by simp⟩ (by simp[go_sem,zd,leA,leT]) ⟨congrArg (fun b=>AV.p (.bool b)) (decide_eq_decide.2 Iff.rfl),by simp[go_sem]⟩
def mkD(rows:List Row)(a b:Int):Option Int:=(zS a b).or (xv rows a b)
def Z6(k:Int→Int)(mk:Int→Int→Option Int)(O:List Int)(x:Int):List Int:=
 if 0≤zM k O∧wV k O (zM k O) x=true then match mk (O[(zM k O).toNat]?.getD 0) x with
  |some r=>O.set (zM k O).toNat r
  |none=>O++[x]
 else O++[x]
def Ze(k:Int→Int)(mk:Int→Int→Option Int)(l:List Int):List Int:=l.foldl (Z6 k mk) []
theorem vM(k:Int→Int)(mk:Int→Int→Option Int)(l:List Int)(x:Int):Ze k mk (l++[x])=Z6 k mk (Ze k mk l) x:=by simp[Ze,List.foldl_append]
theorem zfa {rows:List Row}(hrw:qV rows)(x y:Int):∀z,xv rows x y=some z→zD z:=by
 suffices H:∀(l:List Row) (a:Option Int),(∀w∈l,w∈rows)→(∀z,a=some z→zD z)→∀z,l.foldl (ZI rows x y) a=some z→zD z by
  exact H rows none (fun _ h=>h) (fun z h=>by cases h)
 intro l
 induction l with
 |nil=>intro a _ ha z hz;exact ha z hz
 |cons w l ih=>
  intro a hw ha z hz
  refine ih _ (fun v hv=>hw v (by simp[hv])) (fun u hu=>?_) z hz
  unfold ZI at hu
  split at hu
  ·rename_i hc
   injection hu with hu;subst hu
   have:=hrw.p w (hw w (by simp)) hc.1
   exact⟨by omega,by omega⟩
  ·exact ha u hu
theorem zjO {rows:List Row}(hrw:qV rows) {x y z:Int}(h:mkD rows x y=some z):zD z:=by
 unfold mkD at h
 cases hj:zS x y with
 |none=>rw[hj]at h;exact zfa hrw x y z h
 |some q=>
  rw[hj]at h
  simp only[Option.some_or,Option.some.injEq]at h
  subst h
  unfold zS at hj
  split at hj
  ·injection hj with hj;exact⟨by omega,by omega⟩
  ·split at hj
   ·rename_i hc
    have hs':44032≤x∧x<55204:=by simpa[q8]using hc.1
    injection hj with hj;exact⟨by omega,by omega⟩
   ·cases hj
structure vt(o:List Int)(n:Nat):Prop where
 nn:o.length≤n
 ne:0<n→o≠ []
 r:∀x∈o,zD x
theorem vt.push {o:List Int} {n:Nat}(h:vt o n) {x:Int}(hx:zD x):vt (o++[x]) (n+1):=
 ⟨by simp;exact h.nn,by simp,fun y hy=>by rcases List.mem_append.1 hy with hy|hy;exact h.r y hy;rw[List.mem_singleton.1 hy];exact hx⟩
theorem vt.set {o:List Int} {n:Nat}(h:vt o n)(h0:o≠ []) {j:Nat} {x:Int}(hx:zD x):vt (o.set j x) (n+1):=
 ⟨by simp;have:=h.nn;omega,fun _ e=>h0 (by have:=congrArg List.length e;rw[List.length_set,List.length_nil]at this;exact List.eq_nil_of_length_eq_zero this),fun y hy=>by rcases List.mem_or_eq_of_mem_set hy with hy|rfl;exact h.r y hy;exact hx⟩
theorem zjs {rows:List Row}(hrw:qV rows) {o:List Int} {n:Nat}(h:vt o n) {x:Int}(hx:zD x):vt (Z6 (kD rows) (mkD rows) o x) (n+1):=by
 unfold Z6
 split
 ·rename_i hf
  split
  ·rename_i r hr
   refine h.set (fun e=>?_) (zjO hrw hr)
   rw[e,yL]at hf
   have:=hf.1
   simp at this
  ·exact h.push hx
 ·exact h.push hx
theorem Um {rows:List Row}(hrw:qV rows)(l:List Int)(hl:∀x∈l,zD x):vt (Ze (kD rows) (mkD rows) l) l.length:=by
 suffices H:∀(l':List Int) (o:List Int) (n:Nat),(∀x∈l',zD x)→vt o n→vt (l'.foldl (Z6 (kD rows) (mkD rows)) o) (n+l'.length) by
  have:=H l [] 0 hl ⟨by simp,by simp,by simp⟩
  simpa[Ze]using this
 intro l'
 induction l' with
 |nil=>intro o n _ h;simpa using h
 |cons x l' ih=>
  intro o n hl h
  have:=ih _ _ (fun y hy=>hl y (by simp[hy])) (zjs hrw h (hl x (by simp)))
  simpa[Nat.add_assoc,Nat.add_comm 1]using this
def oV1(o:List Int):AV:=if o=[]then .p (.opq (.slice none 0 0))else .la [55] 1 0 o.length
def oR1(o:List Int):List (Tok×List AV):=if o=[]then []else [([55],zp o)]
theorem YW [Gi](rows:List Row)(hrw:qV rows)(l:List Int)(hl0:l≠ [])(hn:l.length<2^31)(hr:∀x∈l,zD x):
  CR Tryz.prog 53 [] [.p (zI rows),.p (zh l)] [] (fun x rs=>x=.la [55] 1 0 (Ze (kD rows) (mkD rows) l).length∧rs=[([55],zp (Ze (kD rows) (mkD rows) l))]):=by
 refine qP [7] mixed 10 [] Tryz.func53 rfl (by kernel_rfl) [5,55] rfl (by simp) (by simp) ?_
 simp (maxSteps:=1000000) [go_sem,Tryz.f53,zh]
 refine zl (fun i:Nat=>i≤l.length) (fun i=>[(6,.p (.int .i64 (i:Nat))),(5,oV1 (Ze (kD rows) (mkD rows) (l.take i))),(7,.zX),(8,.zX),(9,.zX)]) (fun i=>oR1 (Ze (kD rows) (mkD rows) (l.take i))) (fun i=>l.length-i) 0 (by omega)
  (by simp[go_sem,LeS,leV,leR,leA,Ze,oV1,oR1]) (fun i hi=>?_)
 have hok:=Um hrw (l.take i) (fun x hx=>hr x (List.mem_of_mem_take hx))
 have hlt:(l.take i).length=i:=by rw[List.length_take];omega
 rw[hlt]at hok
 by_cases hil:i<l.length
 ·obtain⟨x,hx⟩:∃x,l[i]=x:=⟨_,rfl⟩
  have hxr:zD x:=hr x (by rw[←hx];exact List.getElem_mem _)
  have em:elemAt (zx l) i=.int .i32 x:=by rw[zx,zq (fun r=>PV.int .i32 r) l i hil,hx]
  have htk:l.take (i+1)=l.take i++[x]:=by rw[List.take_add_one,List.getElem?_eq_getElem hil,hx];rfl
  have hnx:Ze (kD rows) (mkD rows) (l.take (i+1))=Z6 (kD rows) (mkD rows) (Ze (kD rows) (mkD rows) (l.take i)) x:=by rw[htk,vM]
  have w1:IntKind.i64.wrap ((i:Int)+1)=((i+1:Nat):Int):=zT (by omega)
  have hil':(i:Int)<l.length:=by omega
  have w0:IntKind.i64.wrap 1=1:=wrap64 (by omega) (by omega)
  generalize Ze (kD rows) (mkD rows) (l.take i)=o at hok hnx
  obtain⟨k1,k2,k3⟩:=hok
  by_cases hi0:i=0
  ·subst hi0
   obtain rfl:o=[]:=List.eq_nil_of_length_eq_zero (by omega)
   have e2:Ze (kD rows) (mkD rows) (l.take (0+1))=[x]:=by rw[hnx];rfl
   simp (maxSteps:=1000000) [go_sem,oV1,oR1,hil,zB]
   refine⟨⟨rfl,by simp[Tryz.f108]⟩,zc [] (zgG rows) (by simp[go_sem]) ⟨by simp[go_sem],by simp[go_sem]⟩ (by simp[go_sem]) ?_⟩
   rintro _ rs ⟨rfl,rfl⟩
   simp (maxSteps:=1000000) [go_sem,hil,em,zB]
   exact zf 1 (by omega) (by simp[go_sem,LeS,leV,leR,leA,leL,e2,qA,w0]) (by omega)
  ·have hne:o≠ []:=k2 (by omega)
   have hol:0<o.length:=List.length_pos_iff.2 hne
   obtain⟨s1,s2⟩:=xQ (kD rows) o
   have hst:Z6 (kD rows) (mkD rows) o x=if 0≤zM (kD rows) o∧wV (kD rows) o (zM (kD rows) o) x=true then match mkD rows (o[(zM (kD rows) o).toNat]?.getD 0) x with
    |some r=>o.set (zM (kD rows) o).toNat r
    |none=>o++[x]
    else o++[x]:=rfl
   have hpush:Z6 (kD rows) (mkD rows) o x=o++[x]→Ze (kD rows) (mkD rows) (l.take (i+1))=o++[x]:=fun e=>by rw[hnx,e]
   simp (maxSteps:=1000000) [go_sem,oV1,oR1,hne,hil',zB]
   refine⟨⟨rfl,by simp[Tryz.f108]⟩,zc [([0],[55])] (zhP rows hrw o (by omega) k3) (by simp[go_sem,zw]) ⟨by simp[go_sem],by simp[go_sem]⟩ (by simp[go_sem]) ?_⟩
   rintro _ rs ⟨rfl,rfl⟩
   generalize zM (kD rows) o=s at s1 s2 hst
   by_cases hs0:0≤s
   ·have hsl:s.toNat<o.length:=by omega
    have hyr:zD o[s.toNat]:=k3 _ (List.getElem_mem _)
    have gy:=Zt (List.getElem?_eq_getElem hsl)
    have gy2:∀hh,(zp o)[s.toNat]'hh=.p (.int .i32 o[s.toNat]):=fun hh=>by have:=gy;rw[List.getElem?_eq_getElem hh]at this;injection this
    have hput:∀v,(zp o).take s.toNat++AV.p (.int .i32 v)::(zp o).drop (s.toNat+1)=zp (o.set s.toNat v):=fun v=>Zj v hsl
    have hgd:o[s.toNat]?.getD 0=o[s.toNat]:=by rw[List.getElem?_eq_getElem hsl];rfl
    rw[hgd]at hst
    generalize o[s.toNat]=y at gy gy2 hst hyr
    simp (maxSteps:=1000000) [go_sem,hs0,hil',em,zB]
    refine⟨⟨rfl,by simp[Tryz.f109]⟩,zc [([0],[55])] (zj5 rows hrw o hne s x hxr (by omega) k3) (by simp[go_sem,zw]) ⟨by simp[go_sem],by simp[go_sem]⟩ (by simp[go_sem]) ?_⟩
    rintro _ rs ⟨rfl,rfl⟩
    cases hf:wV (kD rows) o s x with
    |true=>
     rw[if_pos ⟨hs0,hf⟩]at hst
     simp (maxSteps:=1000000) [go_sem,hs0,gy2,s2,hil',em,zB]
     refine Qx (.tup [.p (.int .i32 (qR (mkD rows y x))),.p (.bool (mkD rows y x).isSome)]) rfl rfl (fun _=>Qy 110 (zgY rows y x hrw hyr hxr) rfl ⟨rfl,by simp[Tryz.f110]⟩ ⟨by simp[go_sem],by simp[go_sem]⟩) ?_
     simp (maxSteps:=1000000) [go_sem]
     cases hmk:mkD rows y x with
     |some q=>
      have e2:Ze (kD rows) (mkD rows) (l.take (i+1))=o.set s.toNat q:=by rw[hnx,hst,hmk]
      have hp:=hput q
      have hne2:o.set s.toNat q≠ []:=fun e=>by have:=congrArg List.length e;rw[List.length_set,List.length_nil]at this;omega
      simp (maxSteps:=1000000) [go_sem,qR,hs0,s2,hp,w1,Wq]
      exact⟨by omega,zf (i+1) (by omega) (by simp[go_sem,LeS,leV,leR,leA,e2,hne2,zj]) (by omega)⟩
     |none=>
      have e2:=hpush (by rw[hst,hmk])
      simp (maxSteps:=1000000) [go_sem,qR,w1,hil',em,zB,hol]
      exact⟨by omega,zf (i+1) (by omega) (by simp[go_sem,LeS,leV,leR,leA,e2,hne,Za,qA,zj]) (by omega)⟩
    |false=>
     have e2:=hpush (by rw[hst,if_neg (fun h=>by rw[hf]at h;simp at h)])
     simp (maxSteps:=1000000) [go_sem,w1,hil',em,zB,hol]
     exact⟨by omega,zf (i+1) (by omega) (by simp[go_sem,LeS,leV,leR,leA,e2,hne,Za,qA,zj]) (by omega)⟩
   ·have e2:=hpush (by rw[hst,if_neg (fun h=>hs0 h.1)])
    simp (maxSteps:=1000000) [go_sem,hs0,w1,hil',em,zB,hol]
    exact⟨by omega,zf (i+1) (by omega) (by simp[go_sem,LeS,leV,leR,leA,e2,hne,Za,qA,zj]) (by omega)⟩
 ·have hil':¬(i:Int)<l.length:=by omega
  obtain rfl:i=l.length:=by omega
  rw[List.take_length]at hok⊢
  have hne:=hok.ne (List.length_pos_iff.2 hl0)
  generalize Ze (kD rows) (mkD rows) l=o at hok hne
  simp (maxSteps:=1000000) [go_sem,oV1,oR1,hne,zB]
  exact zi [[55]] (.la [55] 1 0 o.length) ⟨rfl,by simp⟩ (by simp[go_sem,zd,leA,leT]) ⟨rfl,by simp[go_sem]⟩
def vY(rows:List Row)(l:List Int):List Int:=Ze (kD rows) (mkD rows) l
theorem zdp [Gi](rows:List Row)(hrw:qV rows)(l:List Int)(hn:l.length<2^31)(hr:∀x∈l,zD x):CR Tryz.prog 53 [] [.p (zI rows),.p (zh l)] [] (is (.p (zh (vY rows l)))):=by
 by_cases hl0:l=[]
 ·subst hl0
  refine qP [7] mixed 10 [] Tryz.func53 rfl (by kernel_rfl) [5,55] rfl (by simp) (by simp) ?_
  simp (maxSteps:=1000000) [go_sem,Tryz.f53,zh]
  refine zl (fun _:Unit=>True) (fun _=>[]) (fun _=>[]) (fun _=>0) () trivial (by simp[go_sem,LeS,leV,leR,leA]) (fun _ _=>?_)
  simp (maxSteps:=1000000) [go_sem,zx]
  exact zg (.p (.sl 1 [])) rfl (by simp[go_sem,zd,leA,leT]) ⟨rfl,rfl⟩
 ·have hok:=Um hrw l hr
  exact CR.row (List.length_pos_iff.2 (hok.ne (List.length_pos_iff.2 hl0))) (YW rows hrw l hl0 hn hr)
def qv(rows:List Row)(l:List Int):List Int:=vY rows (jM rows l)
theorem JS {k:Int→Int} {x z:Int}:∀l,z∈zV k x l→z=x∨z∈l
 | [],h=>by simp[zV]at h;exact .inl h
 |y::l,h=>by
  unfold zV at h
  split at h
  ·rcases List.mem_cons.1 h with h|h
   ·exact .inr (by simp[h])
   ·rcases JS l h with h|h
    ·exact .inl h
    ·exact .inr (by simp[h])
  ·rcases List.mem_cons.1 h with h|h
   ·exact .inl h
   ·exact .inr h
theorem zb9 {k:Int→Int} {z:Int}(l:List Int)(h:z∈Q4 k l):z∈l:=by
 suffices H:∀(l O:List Int),z∈l.foldl (Qc k) O→z∈O∨z∈l by
  rcases H l [] h with h|h
  ·simp at h
  ·exact h
 intro l
 induction l with
 |nil=>intro O h;exact .inl h
 |cons x l ih=>
  intro O h
  rcases ih _ h with h|h
  ·have h2:z∈zV k x O.reverse:=by simpa[Qc]using h
   rcases JS _ h2 with h3|h3
   ·exact .inr (by simp[h3])
   ·exact .inl (by simpa using h3)
  ·exact .inr (by simp[h])
theorem zdg(rows:List Row)(l:List Int):(jM rows l).length≤768*l.length:=by unfold jM;rw[yy];exact J9 rows l
theorem XP {rows:List Row}(hrw:qV rows) {l:List Int}(hl:∀x∈l,zD x):∀x∈jM rows l,zD x:=fun x hx=>U5 hrw hl x (zb9 _ hx)
theorem zkv [Gi](rows:List Row)(hrw:qV rows)(l:List Int)(hn:l.length<2^20)(hr:∀x∈l,zD x):CR Tryz.prog 12 [] [.p (zI rows),.p (zh l)] [] (is (.p (zh (qv rows l)))):=by
 refine zm mixed 5 [] Tryz.func12 rfl (by kernel_rfl) rfl (by simp) (by simp) ?_
 have hl:=zdg rows l
 simp (maxSteps:=1000000) [go_sem,Tryz.f12,zh]
 refine⟨⟨rfl,by simp[Tryz.f52]⟩,zc [] (zkJ rows hrw l hn hr) (by simp[go_sem]) ⟨by simp[go_sem],by simp[go_sem,zh]⟩ (by simp[go_sem]) ?_⟩
 rintro _ rs ⟨rfl,rfl⟩
 simp (maxSteps:=1000000) [go_sem,zh]
 refine⟨⟨rfl,by simp[Tryz.f53]⟩,zc [] (zdp rows hrw (jM rows l) (by omega) (XP hrw hr)) (by simp[go_sem]) ⟨by simp[go_sem],by simp[go_sem,zh]⟩ (by simp[go_sem]) ?_⟩
 rintro _ rs ⟨rfl,rfl⟩
 simp (maxSteps:=1000000) [go_sem,zh]
 exact zg (.p (zh (qv rows l))) rfl (by simp[go_sem,zd,leA,leT,zh,qv]) ⟨rfl,rfl⟩
end Go.Proofs.YthbmelihnabkaaaGreat
end
section
namespace Go.Proofs.YthbmelihnabkaaaGreat
open Go.AM
set_option maxHeartbeats 4000000
set_option maxRecDepth 10000
def zgd(need:Int):List (List Int)→Nat
 | []=>0
 |c::C=>if need≤0 then 0 else zgd (need-c.length) C+1
def zbo(nfc:List Int→List Int)(clus:List Int→List (List Int))(L:List (List Int))(a f e:Int)(s:List Int):List (List Int)×Int×Bool:=
 if f<0∨e<f∨(L.length:Int)<e then(L,a,false)
 else
  let rest:=(L.drop e.toNat).flatten
  let x:=nfc ((L.take f.toNat).flatten++(s++rest))
  if 65536<x.length then(L,a,false)
  else(clus x,(zgd ((x.length:Int)-zmP x rest) (clus x):Nat),true)
end Go.Proofs.YthbmelihnabkaaaGreat
end
section
namespace Go.Proofs.YthbmelihnabkaaaGreat
open Go.AM
set_option maxHeartbeats 4000000
set_option maxRecDepth 10000
structure zeq(nfc:List Int→List Int)(clus:List Int→List (List Int)):Prop where
 len:∀l:List Int,l.length<2^20→(nfc l).length<2^31
 rune:∀l:List Int,l.length<2^20→(∀x∈l,zD x)→∀x∈nfc l,zD x
 flat:∀l,(clus l).flatten=l
 num:∀l,(clus l).length≤l.length
structure zoF(L:List (List Int)):Prop where
 num:L.length≤Zd L
 len:Zd L≤65536
 rune:∀x∈L.flatten,zD x
theorem zeq.sum {nfc clus}(h:zeq nfc clus)(x:List Int):Zd (clus x)=x.length:=by rw[←yj,h.flat]
end Go.Proofs.YthbmelihnabkaaaGreat
end
section
namespace Go.Proofs.YthbmelihnabkaaaGreat
open Go.AM
set_option maxHeartbeats 4000000
set_option maxRecDepth 10000
end Go.Proofs.YthbmelihnabkaaaGreat
end
section
namespace Go.Proofs.YthbmelihnabkaaaGreat
open Go.AM
set_option maxHeartbeats 4000000
set_option maxRecDepth 100000
theorem VY(k i:Int)(h:0≤i∧i≤1114111):∀l:List Row,(l.find? (jt k i)).map jq=atL (zK l k) i
 | []=>rfl
 |r::l=>by
  have ih:=VY k i h l
  have e:zK (r::l) k=if r.k=k then jq r::zK l k else zK l k:=by
   by_cases hk:r.k=k<;>simp[zK,hk]
  rw[e,List.find?_cons]
  by_cases hk:r.k=k
  ·rw[if_pos hk]
   unfold atL at ih⊢
   rw[List.find?_cons]
   by_cases hq:r.f≤i∧i≤r.t
   ·have h1:jt k i r=true:=by simp[jt,hk,hq.1,hq.2]
    have h2:decide ((jq r).f≤i∧i≤(jq r).t)=true:=decide_eq_true (show max r.f 0≤i∧i≤min r.t 1114111 from⟨by omega,by omega⟩)
    rw[h1,h2];rfl
   ·have h1:jt k i r=false:=by
     unfold jt
     by_cases q1:r.f≤i
     ·have:¬i≤r.t:=fun q2=>hq ⟨q1,q2⟩
      simp[this]
     ·simp[q1]
    have h2:decide ((jq r).f≤i∧i≤(jq r).t)=false:=decide_eq_false (show ¬(max r.f 0≤i∧i≤min r.t 1114111)from fun q=>hq ⟨by omega,by omega⟩)
    rw[h1,h2];exact ih
  ·rw[if_neg hk]
   have h1:jt k i r=false:=by simp[jt,hk]
   rw[h1];exact ih
def spA(l:List Span)(i:Int):Int:=match atL l i with|some s=>s.a|none=>0
theorem uo(l:List Row)(k i:Int)(h:0≤i∧i≤1114111):aL l k i=spA (zK l k) i:=by
 have e:=VY k i h l
 unfold aL spA rowAt
 rw[if_neg (by omega),←e]
 cases l.find? (jt k i)<;>rfl
theorem KJ(i:Int):∀l:List Span,qL 0 i (l.map QF)=spA l i
 | []=>rfl
 |s::l=>by
  have ih:=KJ i l
  simp only[List.map_cons,qL]
  unfold spA atL at ih⊢
  rw[List.find?_cons]
  by_cases h:s.f≤i∧i≤s.t
  ·have h1:decide (s.f≤i∧i≤s.t)=true:=by simpa using h
   rw[if_pos (by exact h),h1];rfl
  ·have h1:decide (s.f≤i∧i≤s.t)=false:=by simpa using h
   rw[if_neg (by exact h),h1];exact ih
theorem kj1:qg za 1=zK za 1:=by decide+kernel
theorem kj2:qg za 2=zK za 2:=by decide+kernel
theorem kj4:qg za 4=zK za 4:=by decide+kernel
theorem kj5:qg za 5=zK za 5:=by decide+kernel
theorem kj6:qg za 6=zK za 6:=by decide+kernel
theorem VX(l:List Row)(k i:Int)(h:¬(0≤i∧i≤1114111)):aL l k i=0:=by
 unfold aL rowAt
 rw[if_pos (by omega)]
theorem KB(r:Int):T0.cls (rn r)=aL za 1 r:=by
 by_cases h:0≤r∧r≤1114111
 ·rw[uo _ _ _ h,←kj1,←KJ,uH (by omega)];exact congrArg (fun x=>qL 0 x ((qg za 1).map QF)) (Int.toNat_of_nonneg h.1)
 ·rw[xd (by omega),VX _ _ _ h];exact Z7.c
theorem zkL(r:Int):T0.brk (rn r)=aL za 4 r:=by
 by_cases h:0≤r∧r≤1114111
 ·rw[uo _ _ _ h,←kj4,←KJ,uH (by omega)];exact congrArg (fun x=>qL 0 x ((qg za 4).map QF)) (Int.toNat_of_nonneg h.1)
 ·rw[xd (by omega),VX _ _ _ h];exact Z7.b
theorem zkS(r:Int):T0.cnj (rn r)=aL za 6 r:=by
 by_cases h:0≤r∧r≤1114111
 ·rw[uo _ _ _ h,←kj6,←KJ,uH (by omega)];exact congrArg (fun x=>qL 0 x ((qg za 6).map QF)) (Int.toNat_of_nonneg h.1)
 ·rw[xd (by omega),VX _ _ _ h];exact Z7.j
theorem zf8(r:Int):(T0.flg (rn r)).p=decide (aL za 5 r=1):=by
 by_cases h:0≤r∧r≤1114111
 ·have e:(T0.flg (rn r)).p=qK (qg za 5) r:=by
   rw[uH (by omega)];exact congrArg (qK (qg za 5)) (Int.toNat_of_nonneg h.1)
  rw[e,uo _ _ _ h,kj5]
  unfold qK spA
  cases atL (zK za 5) r with
  |none=>rfl
  |some s=>simp only;rfl
 ·rw[xd (by omega),VX _ _ _ h,Z7.f];rfl
def zf6(l:List Span)(i:Int):qZ:=match atL l i with|some s=>⟨s.a,s.b⟩|none=>⟨0,0⟩
theorem zfE(i:Int):∀l:List Span,qL ⟨0,0⟩ i (l.map jf)=zf6 l i
 | []=>rfl
 |s::l=>by
  have ih:=zfE i l
  simp only[List.map_cons,qL]
  unfold zf6 atL at ih⊢
  rw[List.find?_cons]
  by_cases h:s.f≤i∧i≤s.t
  ·have h1:decide (s.f≤i∧i≤s.t)=true:=by simpa using h
   rw[if_pos (by exact h),h1];rfl
  ·have h1:decide (s.f≤i∧i≤s.t)=false:=by simpa using h
   rw[if_neg (by exact h),h1];exact ih
theorem zfO(r:Int):T0.par (rn r)=(match qY za r with|some p=>⟨p.1,p.2⟩|none=>⟨0,0⟩):=by
 by_cases h:0≤r∧r≤1114111
 ·have e:T0.par (rn r)=zf6 (zK za 2) r:=by
   rw[←kj2,←zfE,uH (by omega)];exact congrArg (fun x=>qL (⟨0,0⟩:qZ) x ((qg za 2).map jf)) (Int.toNat_of_nonneg h.1)
  rw[e]
  have q:=VY 2 r h za
  unfold zf6 qY rowAt
  rw[if_neg (by omega),←q]
  cases za.find? (jt 2 r)with
  |none=>rfl
  |some x=>
   simp only[Option.map_some,jq]
   by_cases h0:x.a=0∧x.b=0
   ·rw[if_pos h0];simp[h0.1,h0.2]
   ·rw[if_neg h0]
 ·have e:qY za r=none:=by unfold qY rowAt;rw[if_pos (by omega)]
  rw[xd (by omega),Z7.p,e]
theorem xF:∀(d:Nat) (r:Int),qM T0 d r=z5 za d r
 |0,r=>rfl
 |d+1,r=>by
  unfold qM z5
  split
  ·rfl
  ·have e:=zfO r
   cases hp:qY za r with
   |none=>
    rw[hp]at e
    rw[e];simp
   |some p=>
    rw[hp]at e
    have h0:¬(p.1=0∧p.2=0):=by
     intro h0
     unfold qY at hp
     cases hr:rowAt za 2 r with
     |none=>rw[hr]at hp;simp at hp
     |some x=>
      rw[hr]at hp
      simp only at hp
      split at hp
      ·simp at hp
      ·rename_i hx
       have:=Option.some.inj hp
       rw[←this]at h0
       exact hx h0
    rw[e]
    simp only
    rw[if_neg h0,xF d p.1,xF d p.2]
theorem zhA(l:List Int):Z8 T0 l=Zs za l:=by
 unfold Z8 Zs
 congr 1;funext r;exact xF 8 r
theorem zfJ:zG T0=kD za:=by funext r;exact KB r
end Go.Proofs.YthbmelihnabkaaaGreat
end
