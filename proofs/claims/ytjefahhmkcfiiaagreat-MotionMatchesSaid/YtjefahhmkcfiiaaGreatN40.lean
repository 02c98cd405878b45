/- A part of the proof of this seat's statements, by an abstract machine: what each operation does to values, and what the law's functions compute. Conditions: as each law says. -/
import Derived.Test.YtjefahhmkcfiiaaGreatN39
import Derived.Test.YtjefahhmkcfiiaaGreatN37
section
namespace Go.Proofs.YtjefahhmkcfiiaaGreat
open Go.AM
set_option maxHeartbeats 4000000
set_option maxRecDepth 10000
def ZA(M:List Int):List AV:=(M.map fun r=>PV.int .i64 r).map .p
@[go_sem] theorem zmA (rt tt : Tok → Bool) (M : List Int) : (ZA M).map (AV.upd (fil rt tt)) = ZA M := by simp [ZA, AV.upd, fil, QB]
@[go_sem] theorem zl1 (M : List Int) : (ZA M).length = M.length := by simp [ZA]
theorem zd7(a b:List Int):ZA (a++b)=ZA a++ZA b:=by simp[ZA]
theorem J4(x:Int):ZA [x]=[.p (.int .i64 x)]:=rfl
theorem zhc {M:List Int} {i:Nat} {v:Int}(h:M[i]?=some v):(ZA M)[i]?=some (.p (.int .i64 v)):=by
 rw[ZA,List.getElem?_map,List.getElem?_map,h];rfl
theorem Yw {M:List Int} {i:Nat}(v:Int)(h:i<M.length):(ZA M).take i++AV.p (.int .i64 v)::(ZA M).drop (i+1)=ZA (M.set i v):=by
 have:ZA (M.set i v)=(ZA M).set i (.p (.int .i64 v)):=by simp[ZA,List.map_set]
 rw[this,List.set_eq_take_append_cons_drop,if_pos (by simpa[ZA]using h)]
def zX(k:Int→Int)(x:Int):List Int→List Int
 | []=>[x]
 |y::l=>if k x≠0∧k x<k y then y::zX k x l else x::y::l
def Q1(k:Int→Int)(O:List Int)(x:Int):List Int:=(zX k x O.reverse).reverse
def jS(k:Int→Int)(l:List Int):List Int:=l.foldl (Q1 k) []
theorem Yj(k:Int→Int)(x:Int):∀l,(zX k x l).length=l.length+1
 | []=>rfl
 |y::l=>by unfold zX;split<;>simp[Yj k x l]
theorem zjb(k:Int→Int)(O:List Int)(x:Int):(Q1 k O x).length=O.length+1:=by simp[Q1,Yj]
theorem vF(k:Int→Int)(l:List Int):(jS k l).length=l.length:=by
 suffices H:∀(l O:List Int),(l.foldl (Q1 k) O).length=O.length+l.length by simpa[jS]using H l []
 intro l
 induction l with
 |nil=>intro O;rfl
 |cons x l ih=>intro O;rw[List.foldl_cons,ih,zjb,List.length_cons];omega
theorem UQ(k:Int→Int)(l:List Int)(x:Int):jS k (l++[x])=Q1 k (jS k l) x:=by simp[jS,List.foldl_append]
def kD(rows:List Row)(x:Int):Int:=aL rows 1 x
def oV(o:List Int)(t:Tok):AV:=if o=[]then .p (.opq (.slice none 0 0))else .la t 1 0 o.length
def oR(k:Int→Int)(o:List Int):List (Tok×List AV):=if o=[]then []else [([30],zu o),([34],ZA (o.map k))]
theorem wA {A:List Int}(h:A≠ []):∃A' y,A=A'++[y]:=by
 rcases List.eq_nil_or_concat A with e|⟨l,z,e⟩
 ·exact absurd e h
 ·exact⟨l,z,by rw[e];simp⟩
theorem zbT [Gi](rows:List Row)(hrw:qP rows)(l:List Int)(hl0:l≠ [])(hn:l.length<2^31)(hr:∀x∈l,zL x):
  CR Tryz.prog 137 [] [.p (zC rows),.p (zh l)] [] (fun x rs=>x=.la [30] 1 0 (jS (kD rows) l).length∧rs=[([30],zu (jS (kD rows) l))]):=by
 refine qK [] mixed 10 [] Tryz.func137 rfl (by kernel_rfl) [5,6,30,34] rfl (by simp) (by simp) ?_
 simp (maxSteps:=1000000) [go_sem,Tryz.f137,zh]
 refine zi (fun i:Nat=>i≤l.length) (fun i=>[(7,.p (.int .i64 (i:Nat))),(5,oV (jS (kD rows) (l.take i)) [30]),(6,oV (jS (kD rows) (l.take i)) [34]),(8,.zZ),(9,.zZ)]) (fun i=>oR (kD rows) (jS (kD rows) (l.take i))) (fun i=>l.length-i) 0 (by omega)
  (by simp[go_sem,LeS,leV,leR,leA,jS,oV,oR]) (fun i hi=>?_)
 have hlt:(jS (kD rows) (l.take i)).length=i:=by rw[vF,List.length_take];omega
 by_cases hil:i<l.length
 ·obtain⟨x,hx⟩:∃x,l[i]=x:=⟨_,rfl⟩
  have hxr:zL x:=hr x (by rw[←hx];exact List.getElem_mem _)
  have em:elemAt (zB l) i=.int .i32 x:=by rw[zB,zq (fun r=>PV.int .i32 r) l i hil,hx]
  have htk:l.take (i+1)=l.take i++[x]:=by rw[List.take_add_one,List.getElem?_eq_getElem hil,hx];rfl
  have hnx:jS (kD rows) (l.take (i+1))=Q1 (kD rows) (jS (kD rows) (l.take i)) x:=by rw[htk,UQ]
  have w1:IntKind.i64.wrap ((i:Int)+1)=((i+1:Nat):Int):=zP (by omega)
  have hil':(i:Int)<l.length:=by omega
  have w0:IntKind.i64.wrap 1=1:=wrap64 (by omega) (by omega)
  have wm:IntKind.i64.wrap (-1)= -1:=wrap64 (by omega) (by omega)
  generalize jS (kD rows) (l.take i)=O at hlt hnx
  obtain⟨cx,hcx⟩:∃cx,cx=kD rows x:=⟨_,rfl⟩
  have hcx':aL rows 1 x=cx:=hcx.symm
  by_cases hi0:i=0
  ·subst hi0
   obtain rfl:O=[]:=List.eq_nil_of_length_eq_zero hlt
   have e2:jS (kD rows) (l.take (0+1))=[x]:=by rw[hnx];rfl
   simp (maxSteps:=1000000) [go_sem,oV,oR,hil,em,zp]
   refine⟨⟨rfl,by simp[Tryz.f176]⟩,zb [] (xM rows x hrw.n hxr) (by simp[go_sem]) ⟨by simp[go_sem],by simp[go_sem]⟩ (by simp[go_sem]) ?_⟩
   rintro _ rs ⟨rfl,rfl⟩
   rw[hcx']
   simp (maxSteps:=1000000) [go_sem,hil,em,zp]
   refine zi (fun _:Unit=>True) (fun _=>[]) (fun _=>[]) (fun _=>0) () trivial (by simp[go_sem,LeS,leV,leR,leA,leL]) (fun _ _=>?_)
   simp (maxSteps:=1000000) [go_sem,w0,wm]
   exact zc 1 (by omega) (by simp[go_sem,LeS,leV,leR,leA,leL,e2,qA,J4,←hcx]) (by omega)
  ·have hne:O≠ []:=fun e=>by rw[e]at hlt;simp at hlt;omega
   have hol:0<O.length:=List.length_pos_iff.2 hne
   simp (maxSteps:=1000000) [go_sem,oV,oR,hne,hil',em,zp]
   refine⟨⟨rfl,by simp[Tryz.f176]⟩,zb [] (xM rows x hrw.n hxr) (by simp[go_sem]) ⟨by simp[go_sem],by simp[go_sem]⟩ (by simp[go_sem]) ?_⟩
   rintro _ rs ⟨rfl,rfl⟩
   rw[hcx']
   simp (maxSteps:=1000000) [go_sem,hil',em,zp,hol]
   refine⟨by omega,by omega,?_⟩
   refine zi (fun r:List Int×List Int=>Q1 (kD rows) O x=(zX (kD rows) x r.1.reverse).reverse++r.2∧r.1.length+r.2.length=O.length) (fun r=>[(9,.p (.int .i64 (r.1.length:Nat)))]) (fun r=>[([30],zu (r.1++x::r.2)),([34],ZA ((r.1.map (kD rows))++cx::r.2.map (kD rows)))]) (fun r=>r.1.length) (O,[]) ⟨by simp[Q1],by simp⟩
    (by simp[go_sem,LeS,leV,leR,leA,zj,Zf,zd7,qA,J4]) (fun r hr2=>?_)
   obtain⟨A,B⟩:=r
   obtain⟨p1,p2⟩:=hr2
   simp only at p1 p2
   have done:zX (kD rows) x A.reverse=x::A.reverse→jS (kD rows) (l.take (i+1))=A++x::B:=fun e=>by rw[hnx,p1,e];simp
   have hABl:(A++x::B).length=O.length+1:=by simp;omega
   have hne2:A++x::B≠ []:=by simp
   have hmap:(A++x::B).map (kD rows)=A.map (kD rows)++cx::B.map (kD rows):=by rw[List.map_append,List.map_cons,←hcx]
   by_cases hA:A=[]
   ·subst hA
    have e2:=done rfl
    have z0:∀hh,(ZA (cx::B.map (kD rows)))[0]'hh=.p (.int .i64 cx):=fun _=>rfl
    have z1:(ZA (cx::B.map (kD rows)))[0]?=some (.p (.int .i64 cx)):=rfl
    simp only[List.length_nil,Nat.zero_add]at p2
    simp (maxSteps:=1000000) [go_sem,wm,w1,z0]
    exact zc (i+1) (by omega) (by simp[go_sem,LeS,leV,leR,leA,e2,zj,←hcx,p2]) (by omega)
   ·obtain⟨A',y,rfl⟩:=wA hA
    obtain⟨k,hk⟩:∃k,k=A'.length:=⟨_,rfl⟩
    have hAl:(A'++[y]).length=k+1:=by simp[hk]
    rw[hAl]at p2
    obtain⟨cy,hcy⟩:∃cy,cy=kD rows y:=⟨_,rfl⟩
    have eM:A'++[y]++x::B=A'++y::x::B:=by simp
    have eC:(A'++[y]).map (kD rows)++cx::B.map (kD rows)=A'.map (kD rows)++cy::cx::B.map (kD rows):=by simp[hcy]
    have eM2:A'++x::y::B=A'++x::(y::B):=rfl
    have gR:(zu (A'++y::x::B))[k]?=some (.p (.int .i32 y)):=Zr (by rw[hk,List.getElem?_append_right (Nat.le_refl _)];simp)
    have gI:(ZA (A'.map (kD rows)++cy::cx::B.map (kD rows)))[k]?=some (.p (.int .i64 cy)):=zhc (by rw[hk,List.getElem?_append_right (by simp)];simp)
    have gR2:∀hh,(zu (A'++y::x::B))[k]'hh=.p (.int .i32 y):=fun hh=>by have:=gR;rw[List.getElem?_eq_getElem hh]at this;injection this
    have gI2:∀hh,(ZA (A'.map (kD rows)++cy::cx::B.map (kD rows)))[k]'hh=.p (.int .i64 cy):=fun hh=>by have:=gI;rw[List.getElem?_eq_getElem hh]at this;injection this
    have lR:(A'++y::x::B).length=O.length+1:=by simp;omega
    have lI:(A'.map (kD rows)++cy::cx::B.map (kD rows)).length=O.length+1:=by simp;omega
    have wk:IntKind.i64.wrap ((k:Int)+1-1)=(k:Int):=qC (x:=k+1) (by omega) rfl
    have wk':IntKind.i64.wrap (k:Int)=(k:Int):=Ym (by omega)
    have kn:k<O.length+1:=by omega
    have kn1:k+1<O.length+1:=by omega
    have kn':(k:Int)< (O.length:Int)+1:=by omega
    have kn1':(k:Int)+1< (O.length:Int)+1:=by omega
    have k0:(0:Int)< (k:Int)+1:=by omega
    have k0':(0:Int)≤(k:Int)+1:=by omega
    have kt:((k:Int)+1).toNat=k+1:=by omega
    simp only[eM,eC,hAl]at done⊢
    by_cases hc0:cx=0
    ·have e2:=done (by
      have hrv:(A'++[y]).reverse=y::A'.reverse:=by simp
      rw[hrv,zX,if_neg (fun h=>h.1 (by rw[←hcx];exact hc0))])
     clear hcx'
     obtain rfl:cx=0:=hc0
     simp (maxSteps:=1000000) [go_sem,w1,k0,gI2,kn,kn',wk',lI]
     exact zc (i+1) (by omega) (by simp[go_sem,LeS,leV,leR,leA,e2,zj,←hcx,←hcy];omega) (by omega)
    ·by_cases hlt2:cx<cy
     ·have hins:Q1 (kD rows) O x=(zX (kD rows) x A'.reverse).reverse++(y::B):=by
       have hrv:(A'++[y]).reverse=y::A'.reverse:=by simp
       rw[p1,hrv,zX,if_pos ⟨by rw[←hcx];exact hc0,by rw[←hcx,←hcy];exact hlt2⟩];simp
      have pR1:=Zn (M:=A'++y::x::B) (i:=k+1) y (by omega)
      have pR2:=Zn (M:=(A'++y::x::B).set (k+1) y) (i:=k) x (by rw[List.length_set];omega)
      have pI1:=Yw (M:=A'.map (kD rows)++cy::cx::B.map (kD rows)) (i:=k+1) cy (by omega)
      have pI2:=Yw (M:=(A'.map (kD rows)++cy::cx::B.map (kD rows)).set (k+1) cy) (i:=k) cx (by rw[List.length_set];omega)
      have sR:=Vv A' B y x
      have sI:=Vv (A'.map (kD rows)) (B.map (kD rows)) cy cx
      rw[List.length_map]at sI
      rw[←hk]at sR sI
      rw[sR]at pR2
      rw[sI]at pI2
      simp (maxSteps:=1000000) [go_sem,k0,hc0,gR2,gI2,kn,kn',kn1',k0',kt,wk',hlt2,lR,lI,pR1,pR2,pI1,pI2,hil',em,zp]
      exact⟨by omega,by omega,zc (A',y::B) ⟨hins,by simp;omega⟩ (by simp[go_sem,LeS,leV,leR,leA,zj,hk,←hcy]) (by simp)⟩
     ·have e2:=done (by
       have hrv:(A'++[y]).reverse=y::A'.reverse:=by simp
       rw[hrv,zX,if_neg (fun h=>hlt2 (by rw[hcx,hcy];exact h.2))])
      simp (maxSteps:=1000000) [go_sem,w1,k0,hc0,gI2,kn,kn',wk',hlt2,lI]
      exact zc (i+1) (by omega) (by simp[go_sem,LeS,leV,leR,leA,e2,zj,←hcx,←hcy];omega) (by omega)
 ·have hil':¬(i:Int)<l.length:=by omega
  obtain rfl:i=l.length:=by omega
  rw[List.take_length]at hlt⊢
  have hne:jS (kD rows) l≠ []:=fun e=>by rw[e]at hlt;simp at hlt;exact hl0 (List.eq_nil_of_length_eq_zero hlt.symm)
  generalize jS (kD rows) l=O at hlt hne
  simp (maxSteps:=1000000) [go_sem,oV,oR,hne,zp]
  exact zl [[30]] (.la [30] 1 0 O.length) ⟨rfl,by simp⟩ (by simp[go_sem,zf,leA,leT]) ⟨rfl,by simp[go_sem]⟩
theorem zhh [Gi](rows:List Row)(hrw:qP rows)(l:List Int)(hn:l.length<2^31)(hr:∀x∈l,zL x):CR Tryz.prog 137 [] [.p (zC rows),.p (zh l)] [] (is (.p (zh (jS (kD rows) l)))):=by
 by_cases hl0:l=[]
 ·subst hl0
  refine qK [] mixed 10 [] Tryz.func137 rfl (by kernel_rfl) [5,6,30,34] rfl (by simp) (by simp) ?_
  simp (maxSteps:=1000000) [go_sem,Tryz.f137,zh]
  refine zi (fun _:Unit=>True) (fun _=>[]) (fun _=>[]) (fun _=>0) () trivial (by simp[go_sem,LeS,leV,leR,leA]) (fun _ _=>?_)
  simp (maxSteps:=1000000) [go_sem,zB]
  exact zg (.p (.sl 1 [])) rfl (by simp[go_sem,zf,leA,leT]) ⟨rfl,rfl⟩
 ·have hlen:=vF (kD rows) l
  exact CR.row (by rw[hlen];exact List.length_pos_iff.2 hl0) (zbT rows hrw l hl0 hn hr)
def QH(rows:List Row)(l:List Int):List Int:=l.flatMap (qk rows 8)
def xv(rows:List Row)(l:List Int):List Int:=jS (kD rows) (QH rows l)
theorem J6(rows:List Row)(l:List Int):(QH rows l).length≤768*l.length:=by
 induction l with
 |nil=>simp[QH]
 |cons x l ih=>
  have:=yC rows 8 x
  simp only[QH,List.flatMap_cons,List.length_append,List.length_cons]at*
  omega
theorem WA {rows:List Row}(hrw:qP rows):∀d r,zL r→∀x∈qk rows d r,zL x
 |0,r,hr,x,hx=>by
  unfold qk at hx
  split at hx
  ·rename_i hs
   have hs':44032≤r∧r<55204:=by simpa[Zc]using hs
   unfold zQ at hx
   unfold zL
   split at hx<;>simp at hx<;>omega
  ·rw[List.mem_singleton.1 hx];exact hr
 |d+1,r,hr,x,hx=>by
  unfold qk at hx
  split at hx
  ·rename_i hs
   have hs':44032≤r∧r<55204:=by simpa[Zc]using hs
   unfold zQ at hx
   unfold zL
   split at hx<;>simp at hx<;>omega
  ·split at hx
   ·rw[List.mem_singleton.1 hx];exact hr
   ·rename_i p hp
    have hb:=Jd hrw hp
    rcases List.mem_append.1 hx with hx|hx
    ·exact WA hrw d _ ⟨by omega,by omega⟩ x hx
    ·split at hx
     ·simp at hx
     ·exact WA hrw d _ ⟨by omega,by omega⟩ x hx
theorem KE {rows:List Row}(hrw:qP rows) {l:List Int}(hl:∀x∈l,zL x):∀x∈QH rows l,zL x:=fun x hx=>by
 obtain⟨r,hr,hx⟩:=List.mem_flatMap.1 hx
 exact WA hrw 8 r (hl r hr) x hx
theorem zj6 [Gi](rows:List Row)(hrw:qP rows)(l:List Int)(hn:l.length<2^20)(hr:∀x∈l,zL x):CR Tryz.prog 82 [] [.p (zC rows),.p (zh l)] [] (is (.p (zh (xv rows l)))):=by
 refine zm mixed 7 [] Tryz.func82 rfl (by kernel_rfl) rfl (by simp) (by simp) ?_
 simp (maxSteps:=1000000) [go_sem,Tryz.f82,zh]
 refine zi (fun i:Nat=>i≤l.length) (fun i=>[(6,.p (.int .i64 (i:Nat))),(5,.os [5] 1 (zB (QH rows (l.take i))))]) (fun _=>[]) (fun i=>l.length-i) 0 (by omega) (by simp[go_sem,LeS,leV,leR,leA,QH,zB]) (fun i hi=>?_)
 have hal:=J6 rows (l.take i)
 have hal2:(QH rows (l.take i)).length≤768*l.length:=by rw[List.length_take]at hal;omega
 by_cases hil:i<l.length
 ·obtain⟨x,hx⟩:∃x,l[i]=x:=⟨_,rfl⟩
  have hxr:zL x:=hr x (by rw[←hx];exact List.getElem_mem _)
  have em:elemAt (zB l) i=.int .i32 x:=by rw[zB,zq (fun r=>PV.int .i32 r) l i hil,hx]
  have hnx:QH rows (l.take (i+1))=QH rows (l.take i)++qk rows 8 x:=by
   rw[List.take_add_one,List.getElem?_eq_getElem hil,hx];simp[QH]
  have hfl:=yC rows 8 x
  have w1:IntKind.i64.wrap ((i:Int)+1)=((i+1:Nat):Int):=zP (by omega)
  have hil':(i:Int)<l.length:=by omega
  simp (maxSteps:=1000000) [go_sem,hil',em,zp]
  refine⟨⟨rfl,by simp[Tryz.f136]⟩,zb [] (zjo rows hrw 8 (by omega) x hxr) (by simp[go_sem]) ⟨by simp[go_sem],by simp[go_sem]⟩ (by simp[go_sem]) ?_⟩
  rintro _ rs ⟨rfl,rfl⟩
  simp (maxSteps:=1000000) [go_sem,w1]
  refine⟨by simp[zB];omega,zc (i+1) (by omega) (by simp[go_sem,LeS,leV,leR,leA,hnx,zB]) (by omega)⟩
 ·have hil':¬(i:Int)<l.length:=by omega
  obtain rfl:i=l.length:=by omega
  rw[List.take_length]at hal2⊢
  simp (maxSteps:=1000000) [go_sem,zp]
  refine⟨⟨rfl,by simp[Tryz.f137]⟩,zb [] (zhh rows hrw (QH rows l) (by omega) (KE hrw hr)) (by simp[go_sem]) ⟨by simp[go_sem],by simp[go_sem,zh]⟩ (by simp[go_sem]) ?_⟩
  rintro _ rs ⟨rfl,rfl⟩
  simp (maxSteps:=1000000) [go_sem,zh]
  exact zg (.p (zh (xv rows l))) rfl (by simp[go_sem,zf,leA,leT,zh,xv]) ⟨rfl,rfl⟩
end Go.Proofs.YtjefahhmkcfiiaaGreat
end
section
namespace Go.Proofs.YtjefahhmkcfiiaaGreat
open Go.AM
set_option maxHeartbeats 4000000
set_option maxRecDepth 10000
def uc(k:Int→Int)(o:List Int):Int×Int:=o.foldl (fun(p:Int×Int) y=>(p.1+1,if k y=0 then p.1 else p.2)) (0, -1)
def qf(k:Int→Int)(o:List Int):Int:=(uc k o).2
theorem Kf(k:Int→Int)(o:List Int)(y:Int):uc k (o++[y])=((uc k o).1+1,if k y=0 then(uc k o).1 else(uc k o).2):=by simp[uc,List.foldl_append]
theorem vw {P:List Int→Prop}(h0:P [])(h1:∀o y,P o→P (o++[y])):∀(n:Nat) (o:List Int),o.length=n→P o
 |0,o,h=>by rw[List.eq_nil_of_length_eq_zero h];exact h0
 |n+1,o,h=>by
  obtain⟨o',y,rfl⟩:=wA (A:=o) (fun e=>by rw[e]at h;simp at h)
  exact h1 o' y (vw h0 h1 n o' (by simpa using h))
theorem zff(k:Int→Int):∀o:List Int,(uc k o).1=o.length:=by
 exact fun o=>vw (P:=fun o=>(uc k o).1=o.length) rfl (fun o y ih=>by rw[Kf];simp[ih]) o.length o rfl
theorem ZH(k:Int→Int)(o:List Int)(y:Int):qf k (o++[y])=if k y=0 then(o.length:Int)else qf k o:=by
 unfold qf;rw[Kf,zff]
theorem yX(k:Int→Int):qf k []= -1:=rfl
theorem V8(k:Int→Int):∀o:List Int, -1≤qf k o∧qf k o<o.length:=by
 exact fun o=>vw (P:=fun o=> -1≤qf k o∧qf k o<o.length) (by simp[yX]) (fun o y ih=>by rw[ZH];simp only[List.length_append,List.length_singleton];split<;>omega) o.length o rfl
theorem zhx {o:List Int} {i:Nat}(h:i<o.length):o.take (i+1)=o.take i++[o[i]]:=by
 rw[List.take_add_one,List.getElem?_eq_getElem h];rfl
theorem zhe [Gi](rows:List Row)(hrw:qP rows)(o:List Int)(hn:o.length<2^31)(hr:∀x∈o,zL x):CR Tryz.prog 133 [[0]] [.p (zC rows),.la [0] 1 0 o.length] [([0],zu o)] (fun x rs=>x=.p (.int .i64 (qf (kD rows) o))∧rs=[([0],zu o)]):=by
 refine zm mixed 6 [] Tryz.func133 rfl (by kernel_rfl) rfl (by simp) (by simp) ?_
 have w1:IntKind.i64.wrap ((o.length:Int)-1)=(o.length:Int)-1:=wrap64 (by omega) (by omega)
 simp (maxSteps:=1000000) [go_sem,Tryz.f133,w1]
 refine zi (fun i:Nat=>i≤o.length∧qf (kD rows) o=qf (kD rows) (o.take i)) (fun i=>[(5,.p (.int .i64 ((i:Int)-1)))]) (fun _=>[]) (fun i=>i) o.length ⟨Nat.le_refl _,by rw[List.take_length]⟩ (by simp[go_sem,LeS,leV,leR,leA,zj]) (fun i hi=>?_)
 obtain⟨h1,h2⟩:=hi
 by_cases hi0:i=0
 ·subst hi0
  simp (maxSteps:=1000000) [go_sem]
  exact zl [[0]] (.p (.int .i64 (qf (kD rows) o))) ⟨rfl,by simp⟩ (by simp[go_sem,zf,leA,leT,h2,yX]) ⟨rfl,by simp[go_sem]⟩
 ·obtain⟨j,rfl⟩:∃j,i=j+1:=⟨i-1,by omega⟩
  have hj:j<o.length:=by omega
  have hxr:zL o[j]:=hr _ (List.getElem_mem _)
  rw[zhx hj,ZH,List.length_take]at h2
  have hm:min j o.length=j:=by omega
  rw[hm]at h2
  have gx:=Zr (List.getElem?_eq_getElem hj)
  have gx2:∀hh,(zu o)[j]'hh=.p (.int .i32 o[j]):=fun hh=>by have:=gx;rw[List.getElem?_eq_getElem hh]at this;injection this
  generalize o[j]=x at hxr h2 gx gx2
  have ej:((j+1:Nat):Int)-1=(j:Int):=by omega
  have w2:IntKind.i64.wrap ((j:Int)-1)=(j:Int)-1:=wrap64 (by omega) (by omega)
  have hj':(j:Int)<o.length:=by omega
  have hj0:(0:Int)≤(j:Int):=by omega
  simp only[ej]
  simp (maxSteps:=1000000) [go_sem,hj,hj',hj0,gx2]
  refine⟨⟨rfl,by simp[Tryz.f176]⟩,zb [] (xM rows x hrw.n hxr) (by simp[go_sem,zD]) ⟨by simp[go_sem],by simp[go_sem]⟩ (by simp[go_sem]) ?_⟩
  rintro _ rs ⟨rfl,rfl⟩
  by_cases hc:kD rows x=0
  ·have e:qf (kD rows) o=j:=by rw[h2,if_pos hc]
   have hc':aL rows 1 x=0:=hc
   simp (maxSteps:=1000000) [go_sem,hc']
   exact zl [[0]] (.p (.int .i64 (qf (kD rows) o))) ⟨rfl,by simp⟩ (by simp[go_sem,zf,leA,leT,e]) ⟨rfl,by simp[go_sem]⟩
  ·have hc':¬aL rows 1 x=0:=hc
   simp (maxSteps:=1000000) [go_sem,hc',w2]
   refine zc j ⟨by omega,by rw[h2,if_neg hc]⟩ (by simp[go_sem,LeS,leV,leR,leA,zj]) (by omega)
theorem zg6 [Gi](rows:List Row):CR Tryz.prog 133 [] [.p (zC rows),.p (.opq (.slice none 0 0))] [] (is (.p (.int .i64 (-1)))):=by
 refine zm mixed 6 [] Tryz.func133 rfl (by kernel_rfl) rfl (by simp) (by simp) ?_
 have w1:IntKind.i64.wrap (-1)= -1:=wrap64 (by omega) (by omega)
 simp (maxSteps:=1000000) [go_sem,Tryz.f133,w1]
 refine zi (fun _:Unit=>True) (fun _=>[]) (fun _=>[]) (fun _=>0) () trivial (by simp[go_sem,LeS,leV,leR,leA]) (fun _ _=>?_)
 simp (maxSteps:=1000000) [go_sem]
 exact zg (.p (.int .i64 (-1))) rfl (by simp[go_sem,zf,leA,leT]) ⟨rfl,rfl⟩
def KI(k:Int→Int)(o:List Int)(a x:Int):Bool:=decide (a=o.length-1) || decide (k (o[o.length-1]?.getD 0)<k x)
theorem zi5 [Gi](rows:List Row)(hrw:qP rows)(o:List Int)(h0:o≠ [])(a x:Int)(hx:zL x)(hn:o.length<2^31)(hr:∀x∈o,zL x):CR Tryz.prog 134 [[0]] [.p (zC rows),.la [0] 1 0 o.length,.p (.int .i64 a),.p (.int .i32 x)] [([0],zu o)] (fun y rs=>y=.p (.bool (KI (kD rows) o a x))∧rs=[([0],zu o)]):=by
 refine zm mixed 9 [] Tryz.func134 rfl (by kernel_rfl) rfl (by simp) (by simp) ?_
 have hol:0<o.length:=List.length_pos_iff.2 h0
 obtain⟨n,hno⟩:∃n,o.length=n+1:=⟨o.length-1,by omega⟩
 have hj:n<o.length:=by omega
 have w1:IntKind.i64.wrap (((n+1:Nat):Int)-1)=(n:Int):=qC (by omega) rfl
 have w1':IntKind.i64.wrap ((n:Int)+1-1)=(n:Int):=qC (x:=n+1) (by omega) rfl
 have w1'':IntKind.i64.wrap (n:Int)=(n:Int):=Ym (by omega)
 have hxr:zL o[n]:=hr _ (List.getElem_mem _)
 have gx:=Zr (List.getElem?_eq_getElem hj)
 have gx2:∀hh,(zu o)[n]'hh=.p (.int .i32 o[n]):=fun hh=>by have:=gx;rw[List.getElem?_eq_getElem hh]at this;injection this
 have el:o[o.length-1]?.getD 0=o[n]:=by rw[hno,Nat.add_sub_cancel,List.getElem?_eq_getElem hj];rfl
 have e1:((o.length:Int)-1)=(n:Int):=by omega
 unfold KI
 rw[el,e1]
 generalize o[n]=y at hxr gx gx2
 by_cases c1:a=(n:Int)
 ·subst c1
  simp (maxSteps:=1000000) [go_sem,Tryz.f134,hno,w1'']
  exact zl [[0]] (.p (.bool true)) ⟨rfl,by simp⟩ (by simp[go_sem,zf,leA,leT]) ⟨rfl,by simp[go_sem]⟩
 ·simp (maxSteps:=1000000) [go_sem,Tryz.f134,hno,w1'',c1,gx2]
  refine⟨by omega,⟨rfl,by simp[Tryz.f176]⟩,zb [] (xM rows y hrw.n hxr) (by simp[go_sem,zD]) ⟨by simp[go_sem],by simp[go_sem]⟩ (by simp[go_sem]) ?_⟩
  rintro _ rs ⟨rfl,rfl⟩
  simp (maxSteps:=1000000) [go_sem]
  refine⟨⟨rfl,by simp[Tryz.f176]⟩,zb [] (xM rows x hrw.n hx) (by simp[go_sem,zD]) ⟨by simp[go_sem],by simp[go_sem]⟩ (by simp[go_sem]) ?_⟩
  rintro _ rs ⟨rfl,rfl⟩
  simp (maxSteps:=1000000) [go_sem]
  exact zl [[0]] (.p (.bool (decide (aL rows 1 y<aL rows 1 x)))) ⟨rfl,by simp⟩ (by simp[go_sem,zf,leA,leT]) ⟨congrArg (fun b=>AV.p (.bool b)) (decide_eq_decide.2 Iff.rfl),by simp[go_sem]⟩
def mkD(rows:List Row)(a b:Int):Option Int:=(zS a b).or (xI rows a b)
def kj(k:Int→Int)(mk:Int→Int→Option Int)(O:List Int)(x:Int):List Int:=
 if 0≤qf k O∧KI k O (qf k O) x=true then match mk (O[(qf k O).toNat]?.getD 0) x with
  |some r=>O.set (qf k O).toNat r
  |none=>O++[x]
 else O++[x]
def ZG(k:Int→Int)(mk:Int→Int→Option Int)(l:List Int):List Int:=l.foldl (kj k mk) []
theorem ua(k:Int→Int)(mk:Int→Int→Option Int)(l:List Int)(x:Int):ZG k mk (l++[x])=kj k mk (ZG k mk l) x:=by simp[ZG,List.foldl_append]
theorem zfp {rows:List Row}(hrw:qP rows)(x y:Int):∀z,xI rows x y=some z→zL z:=by
 suffices H:∀(l:List Row) (a:Option Int),(∀w∈l,w∈rows)→(∀z,a=some z→zL z)→∀z,l.foldl (ZM rows x y) a=some z→zL z by
  exact H rows none (fun _ h=>h) (fun z h=>by cases h)
 intro l
 induction l with
 |nil=>intro a _ ha z hz;exact ha z hz
 |cons w l ih=>
  intro a hw ha z hz
  refine ih _ (fun v hv=>hw v (by simp[hv])) (fun u hu=>?_) z hz
  unfold ZM at hu
  split at hu
  ·rename_i hc
   injection hu with hu;subst hu
   have:=hrw.p w (hw w (by simp)) hc.1
   exact⟨by omega,by omega⟩
  ·exact ha u hu
theorem zjN {rows:List Row}(hrw:qP rows) {x y z:Int}(h:mkD rows x y=some z):zL z:=by
 unfold mkD at h
 cases hj:zS x y with
 |none=>rw[hj]at h;exact zfp hrw x y z h
 |some q=>
  rw[hj]at h
  simp only[Option.some_or,Option.some.injEq]at h
  subst h
  unfold zS at hj
  split at hj
  ·injection hj with hj;exact⟨by omega,by omega⟩
  ·split at hj
   ·rename_i hc
    have hs':44032≤x∧x<55204:=by simpa[Zc]using hc.1
    injection hj with hj;exact⟨by omega,by omega⟩
   ·cases hj
structure vX(o:List Int)(n:Nat):Prop where
 nn:o.length≤n
 ne:0<n→o≠ []
 r:∀x∈o,zL x
theorem vX.push {o:List Int} {n:Nat}(h:vX o n) {x:Int}(hx:zL x):vX (o++[x]) (n+1):=
 ⟨by simp;exact h.nn,by simp,fun y hy=>by rcases List.mem_append.1 hy with hy|hy;exact h.r y hy;rw[List.mem_singleton.1 hy];exact hx⟩
theorem vX.set {o:List Int} {n:Nat}(h:vX o n)(h0:o≠ []) {j:Nat} {x:Int}(hx:zL x):vX (o.set j x) (n+1):=
 ⟨by simp;have:=h.nn;omega,fun _ e=>h0 (by have:=congrArg List.length e;rw[List.length_set,List.length_nil]at this;exact List.eq_nil_of_length_eq_zero this),fun y hy=>by rcases List.mem_or_eq_of_mem_set hy with hy|rfl;exact h.r y hy;exact hx⟩
theorem ziB {rows:List Row}(hrw:qP rows) {o:List Int} {n:Nat}(h:vX o n) {x:Int}(hx:zL x):vX (kj (kD rows) (mkD rows) o x) (n+1):=by
 unfold kj
 split
 ·rename_i hf
  split
  ·rename_i r hr
   refine h.set (fun e=>?_) (zjN hrw hr)
   rw[e,yX]at hf
   have:=hf.1
   simp at this
  ·exact h.push hx
 ·exact h.push hx
theorem Un {rows:List Row}(hrw:qP rows)(l:List Int)(hl:∀x∈l,zL x):vX (ZG (kD rows) (mkD rows) l) l.length:=by
 suffices H:∀(l':List Int) (o:List Int) (n:Nat),(∀x∈l',zL x)→vX o n→vX (l'.foldl (kj (kD rows) (mkD rows)) o) (n+l'.length) by
  have:=H l [] 0 hl ⟨by simp,by simp,by simp⟩
  simpa[ZG]using this
 intro l'
 induction l' with
 |nil=>intro o n _ h;simpa using h
 |cons x l' ih=>
  intro o n hl h
  have:=ih _ _ (fun y hy=>hl y (by simp[hy])) (ziB hrw h (hl x (by simp)))
  simpa[Nat.add_assoc,Nat.add_comm 1]using this
def oV1(o:List Int):AV:=if o=[]then .p (.opq (.slice none 0 0))else .la [55] 1 0 o.length
def oR1(o:List Int):List (Tok×List AV):=if o=[]then []else [([55],zu o)]
theorem Xe [Gi](rows:List Row)(hrw:qP rows)(l:List Int)(hl0:l≠ [])(hn:l.length<2^31)(hr:∀x∈l,zL x):
  CR Tryz.prog 81 [] [.p (zC rows),.p (zh l)] [] (fun x rs=>x=.la [55] 1 0 (ZG (kD rows) (mkD rows) l).length∧rs=[([55],zu (ZG (kD rows) (mkD rows) l))]):=by
 refine qK [7] mixed 10 [] Tryz.func81 rfl (by kernel_rfl) [5,55] rfl (by simp) (by simp) ?_
 simp (maxSteps:=1000000) [go_sem,Tryz.f81,zh]
 refine zi (fun i:Nat=>i≤l.length) (fun i=>[(6,.p (.int .i64 (i:Nat))),(5,oV1 (ZG (kD rows) (mkD rows) (l.take i))),(7,.zZ),(8,.zZ),(9,.zZ)]) (fun i=>oR1 (ZG (kD rows) (mkD rows) (l.take i))) (fun i=>l.length-i) 0 (by omega)
  (by simp[go_sem,LeS,leV,leR,leA,ZG,oV1,oR1]) (fun i hi=>?_)
 have hok:=Un hrw (l.take i) (fun x hx=>hr x (List.mem_of_mem_take hx))
 have hlt:(l.take i).length=i:=by rw[List.length_take];omega
 rw[hlt]at hok
 by_cases hil:i<l.length
 ·obtain⟨x,hx⟩:∃x,l[i]=x:=⟨_,rfl⟩
  have hxr:zL x:=hr x (by rw[←hx];exact List.getElem_mem _)
  have em:elemAt (zB l) i=.int .i32 x:=by rw[zB,zq (fun r=>PV.int .i32 r) l i hil,hx]
  have htk:l.take (i+1)=l.take i++[x]:=by rw[List.take_add_one,List.getElem?_eq_getElem hil,hx];rfl
  have hnx:ZG (kD rows) (mkD rows) (l.take (i+1))=kj (kD rows) (mkD rows) (ZG (kD rows) (mkD rows) (l.take i)) x:=by rw[htk,ua]
  have w1:IntKind.i64.wrap ((i:Int)+1)=((i+1:Nat):Int):=zP (by omega)
  have hil':(i:Int)<l.length:=by omega
  have w0:IntKind.i64.wrap 1=1:=wrap64 (by omega) (by omega)
  generalize ZG (kD rows) (mkD rows) (l.take i)=o at hok hnx
  obtain⟨k1,k2,k3⟩:=hok
  by_cases hi0:i=0
  ·subst hi0
   obtain rfl:o=[]:=List.eq_nil_of_length_eq_zero (by omega)
   have e2:ZG (kD rows) (mkD rows) (l.take (0+1))=[x]:=by rw[hnx];rfl
   simp (maxSteps:=1000000) [go_sem,oV1,oR1,hil,zp]
   refine⟨⟨rfl,by simp[Tryz.f133]⟩,zb [] (zg6 rows) (by simp[go_sem]) ⟨by simp[go_sem],by simp[go_sem]⟩ (by simp[go_sem]) ?_⟩
   rintro _ rs ⟨rfl,rfl⟩
   simp (maxSteps:=1000000) [go_sem,hil,em,zp]
   exact zc 1 (by omega) (by simp[go_sem,LeS,leV,leR,leA,leL,e2,qA,w0]) (by omega)
  ·have hne:o≠ []:=k2 (by omega)
   have hol:0<o.length:=List.length_pos_iff.2 hne
   obtain⟨s1,s2⟩:=V8 (kD rows) o
   have hst:kj (kD rows) (mkD rows) o x=if 0≤qf (kD rows) o∧KI (kD rows) o (qf (kD rows) o) x=true then match mkD rows (o[(qf (kD rows) o).toNat]?.getD 0) x with
    |some r=>o.set (qf (kD rows) o).toNat r
    |none=>o++[x]
    else o++[x]:=rfl
   have hpush:kj (kD rows) (mkD rows) o x=o++[x]→ZG (kD rows) (mkD rows) (l.take (i+1))=o++[x]:=fun e=>by rw[hnx,e]
   simp (maxSteps:=1000000) [go_sem,oV1,oR1,hne,hil',zp]
   refine⟨⟨rfl,by simp[Tryz.f133]⟩,zb [([0],[55])] (zhe rows hrw o (by omega) k3) (by simp[go_sem,zD]) ⟨by simp[go_sem],by simp[go_sem]⟩ (by simp[go_sem]) ?_⟩
   rintro _ rs ⟨rfl,rfl⟩
   generalize qf (kD rows) o=s at s1 s2 hst
   by_cases hs0:0≤s
   ·have hsl:s.toNat<o.length:=by omega
    have hyr:zL o[s.toNat]:=k3 _ (List.getElem_mem _)
    have gy:=Zr (List.getElem?_eq_getElem hsl)
    have gy2:∀hh,(zu o)[s.toNat]'hh=.p (.int .i32 o[s.toNat]):=fun hh=>by have:=gy;rw[List.getElem?_eq_getElem hh]at this;injection this
    have hput:∀v,(zu o).take s.toNat++AV.p (.int .i32 v)::(zu o).drop (s.toNat+1)=zu (o.set s.toNat v):=fun v=>Zn v hsl
    have hgd:o[s.toNat]?.getD 0=o[s.toNat]:=by rw[List.getElem?_eq_getElem hsl];rfl
    rw[hgd]at hst
    generalize o[s.toNat]=y at gy gy2 hst hyr
    simp (maxSteps:=1000000) [go_sem,hs0,hil',em,zp]
    refine⟨⟨rfl,by simp[Tryz.f134]⟩,zb [([0],[55])] (zi5 rows hrw o hne s x hxr (by omega) k3) (by simp[go_sem,zD]) ⟨by simp[go_sem],by simp[go_sem]⟩ (by simp[go_sem]) ?_⟩
    rintro _ rs ⟨rfl,rfl⟩
    cases hf:KI (kD rows) o s x with
    |true=>
     rw[if_pos ⟨hs0,hf⟩]at hst
     simp (maxSteps:=1000000) [go_sem,hs0,gy2,s2,hil',em,zp]
     refine z7 (.tup [.p (.int .i32 (qW (mkD rows y x))),.p (.bool (mkD rows y x).isSome)]) rfl rfl (fun _=>z6 135 (zhm rows y x hrw hyr hxr) rfl ⟨rfl,by simp[Tryz.f135]⟩ ⟨by simp[go_sem],by simp[go_sem]⟩) ?_
     simp (maxSteps:=1000000) [go_sem]
     cases hmk:mkD rows y x with
     |some q=>
      have e2:ZG (kD rows) (mkD rows) (l.take (i+1))=o.set s.toNat q:=by rw[hnx,hst,hmk]
      have hp:=hput q
      have hne2:o.set s.toNat q≠ []:=fun e=>by have:=congrArg List.length e;rw[List.length_set,List.length_nil]at this;omega
      simp (maxSteps:=1000000) [go_sem,qW,hs0,s2,hp,w1,WH]
      exact⟨by omega,zc (i+1) (by omega) (by simp[go_sem,LeS,leV,leR,leA,e2,hne2,zj]) (by omega)⟩
     |none=>
      have e2:=hpush (by rw[hst,hmk])
      simp (maxSteps:=1000000) [go_sem,qW,w1,hil',em,zp,hol]
      exact⟨by omega,zc (i+1) (by omega) (by simp[go_sem,LeS,leV,leR,leA,e2,hne,Zf,qA,zj]) (by omega)⟩
    |false=>
     have e2:=hpush (by rw[hst,if_neg (fun h=>by rw[hf]at h;simp at h)])
     simp (maxSteps:=1000000) [go_sem,w1,hil',em,zp,hol]
     exact⟨by omega,zc (i+1) (by omega) (by simp[go_sem,LeS,leV,leR,leA,e2,hne,Zf,qA,zj]) (by omega)⟩
   ·have e2:=hpush (by rw[hst,if_neg (fun h=>hs0 h.1)])
    simp (maxSteps:=1000000) [go_sem,hs0,w1,hil',em,zp,hol]
    exact⟨by omega,zc (i+1) (by omega) (by simp[go_sem,LeS,leV,leR,leA,e2,hne,Zf,qA,zj]) (by omega)⟩
 ·have hil':¬(i:Int)<l.length:=by omega
  obtain rfl:i=l.length:=by omega
  rw[List.take_length]at hok⊢
  have hne:=hok.ne (List.length_pos_iff.2 hl0)
  generalize ZG (kD rows) (mkD rows) l=o at hok hne
  simp (maxSteps:=1000000) [go_sem,oV1,oR1,hne,zp]
  exact zl [[55]] (.la [55] 1 0 o.length) ⟨rfl,by simp⟩ (by simp[go_sem,zf,leA,leT]) ⟨rfl,by simp[go_sem]⟩
def Vm(rows:List Row)(l:List Int):List Int:=ZG (kD rows) (mkD rows) l
theorem zc2 [Gi](rows:List Row)(hrw:qP rows)(l:List Int)(hn:l.length<2^31)(hr:∀x∈l,zL x):CR Tryz.prog 81 [] [.p (zC rows),.p (zh l)] [] (is (.p (zh (Vm rows l)))):=by
 by_cases hl0:l=[]
 ·subst hl0
  refine qK [7] mixed 10 [] Tryz.func81 rfl (by kernel_rfl) [5,55] rfl (by simp) (by simp) ?_
  simp (maxSteps:=1000000) [go_sem,Tryz.f81,zh]
  refine zi (fun _:Unit=>True) (fun _=>[]) (fun _=>[]) (fun _=>0) () trivial (by simp[go_sem,LeS,leV,leR,leA]) (fun _ _=>?_)
  simp (maxSteps:=1000000) [go_sem,zB]
  exact zg (.p (.sl 1 [])) rfl (by simp[go_sem,zf,leA,leT]) ⟨rfl,rfl⟩
 ·have hok:=Un hrw l hr
  exact CR.row (List.length_pos_iff.2 (hok.ne (List.length_pos_iff.2 hl0))) (Xe rows hrw l hl0 hn hr)
def Zu(rows:List Row)(l:List Int):List Int:=Vm rows (xv rows l)
theorem J7 {k:Int→Int} {x z:Int}:∀l,z∈zX k x l→z=x∨z∈l
 | [],h=>by simp[zX]at h;exact .inl h
 |y::l,h=>by
  unfold zX at h
  split at h
  ·rcases List.mem_cons.1 h with h|h
   ·exact .inr (by simp[h])
   ·rcases J7 l h with h|h
    ·exact .inl h
    ·exact .inr (by simp[h])
  ·rcases List.mem_cons.1 h with h|h
   ·exact .inl h
   ·exact .inr h
theorem zcO {k:Int→Int} {z:Int}(l:List Int)(h:z∈jS k l):z∈l:=by
 suffices H:∀(l O:List Int),z∈l.foldl (Q1 k) O→z∈O∨z∈l by
  rcases H l [] h with h|h
  ·simp at h
  ·exact h
 intro l
 induction l with
 |nil=>intro O h;exact .inl h
 |cons x l ih=>
  intro O h
  rcases ih _ h with h|h
  ·have h2:z∈zX k x O.reverse:=by simpa[Q1]using h
   rcases J7 _ h2 with h3|h3
   ·exact .inr (by simp[h3])
   ·exact .inl (by simpa using h3)
  ·exact .inr (by simp[h])
theorem zb1(rows:List Row)(l:List Int):(xv rows l).length≤768*l.length:=by unfold xv;rw[vF];exact J6 rows l
theorem XI {rows:List Row}(hrw:qP rows) {l:List Int}(hl:∀x∈l,zL x):∀x∈xv rows l,zL x:=fun x hx=>KE hrw hl x (zcO _ hx)
theorem uF [Gi](rows:List Row)(hrw:qP rows)(l:List Int)(hn:l.length<2^20)(hr:∀x∈l,zL x):CR Tryz.prog 32 [] [.p (zC rows),.p (zh l)] [] (is (.p (zh (Zu rows l)))):=by
 refine zm mixed 5 [] Tryz.func32 rfl (by kernel_rfl) rfl (by simp) (by simp) ?_
 have hl:=zb1 rows l
 simp (maxSteps:=1000000) [go_sem,Tryz.f32,zh]
 refine⟨⟨rfl,by simp[Tryz.f82]⟩,zb [] (zj6 rows hrw l hn hr) (by simp[go_sem]) ⟨by simp[go_sem],by simp[go_sem,zh]⟩ (by simp[go_sem]) ?_⟩
 rintro _ rs ⟨rfl,rfl⟩
 simp (maxSteps:=1000000) [go_sem,zh]
 refine⟨⟨rfl,by simp[Tryz.f81]⟩,zb [] (zc2 rows hrw (xv rows l) (by omega) (XI hrw hr)) (by simp[go_sem]) ⟨by simp[go_sem],by simp[go_sem,zh]⟩ (by simp[go_sem]) ?_⟩
 rintro _ rs ⟨rfl,rfl⟩
 simp (maxSteps:=1000000) [go_sem,zh]
 exact zg (.p (zh (Zu rows l))) rfl (by simp[go_sem,zf,leA,leT,zh,Zu]) ⟨rfl,rfl⟩
end Go.Proofs.YtjefahhmkcfiiaaGreat
end
