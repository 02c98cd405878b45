/- A part of the proof of this seat's statements, by an abstract machine: what each operation does to values, and what the law's functions compute. Conditions: as each law says. -/
import Derived.Test.YthbmelihnabkaaaGreatW34
section
namespace Go.Proofs.YthbmelihnabkaaaGreat
open Go.AM
set_option maxHeartbeats 4000000
set_option maxRecDepth 10000
attribute [local irreducible] za
theorem zkM [Gi] {t:zR} {c b j f p:PV}(h:jo t c b j f p)(hz:Qq t)(hP:VH t)(ck cx sk sx:List PV)(l:List Int)(hn:l.length<2^20)(hr:∀x∈l,zu x)(hl0:l≠ []):
  CR Tryz.prog 111 [] [.p (zF c b j f p ck cx sk sx),.p (zh l)] [] (fun x rs=>x=.la [22,9,7] 1 0 (vM t l).length∧rs=[([22,9,7],zo (vM t l))]):=by
 refine qQ [] mixed 8 [10,11,12] Tryz.func111 rfl (by kernel_rfl) [2] rfl (by simp) (by simp) ?_
 simp (maxSteps:=1000000) [go_sem,Tryz.f111,zh,zC,zF]
 refine⟨⟨rfl,rfl⟩,?_⟩
 have hrn:∀x∈l,zu x:=hr
 refine zm (fun r:Nat×Bool=>r.1≤l.length) (fun r=>[(12,.p (.int .i64 (r.1:Nat))),(7,.zU)]) (fun r=>WH (zF c b j f p ck cx sk sx) (qL t (l.take r.1),r.2,decide (r.1≠0))) (fun r=>l.length-r.1) (0,true) (by simp) (by simp[go_sem,LeS,leV,leR,leA,leL,WH,zF]) (fun r hi=>?_)
 obtain⟨i,bt⟩:=r
 simp only at hi
 have hal:=WJ t (l.take i)
 have hal2:(qL t (l.take i)).length≤768*l.length:=by rw[List.length_take]at hal;omega
 by_cases hil:i<l.length
 ·obtain⟨x,hx⟩:∃x,l[i]=x:=⟨_,rfl⟩
  have hxr:zu x:=hr x (by rw[←hx];exact List.getElem_mem _)
  have em:elemAt (zr l) i=.int .i32 x:=by rw[zr,zt (fun r=>PV.int .i32 r) l i hil,hx]
  have hnx:qL t (l.take (i+1))=qL t (l.take i)++qO t 8 x:=by
   rw[List.take_add_one,List.getElem?_eq_getElem hil,hx];simp[qL]
  have w1:IntKind.i64.wrap ((i:Int)+1)=((i+1:Nat):Int):=zN (by omega)
  have hil':(i:Int)<l.length:=by omega
  have w0:IntKind.i64.wrap 1=1:=wrap64 (by omega) (by omega)
  rcases Nat.eq_zero_or_pos i with rfl|hi0
  ·have e0:qL t (l.take 0)=[]:=by simp[qL]
   rw[e0,List.nil_append]at hnx
   simp (maxSteps:=1000000) [go_sem,WH,zF,hil,em,zC]
   refine⟨⟨rfl,by simp[Tryz.f159]⟩,zc [([0],[5]),([901],[901]),([0,1],[902])] (take_nil h hz hP ck cx sk sx 8 (by omega) x hxr) (by simp[go_sem,zE]) ⟨by simp[go_sem],by simp[go_sem]⟩ (by simp[go_sem,zF]) ?_⟩
   rintro _ _ ⟨rfl,tk,htk,rfl⟩
   rcases htk with rfl|rfl
   ·simp (maxSteps:=1000000) [go_sem,qy,zF]
    exact zf (1,false) (by show 1≤l.length;omega) (by simp[go_sem,LeS,leV,leR,leA,leL,←hnx,w0]) (by show l.length-1<l.length-0;omega)
   ·simp (maxSteps:=1000000) [go_sem,qy,zF]
    exact zf (1,true) (by show 1≤l.length;omega) (by simp[go_sem,LeS,leV,leR,leA,leL,←hnx,w0]) (by show l.length-1<l.length-0;omega)
  ·have hi1:¬i=0:=by omega
   cases bt with
   |true=>
    simp (maxSteps:=1000000) [go_sem,WH,zF,qy,hil',em,zC,hi1]
    refine⟨⟨rfl,by simp[Tryz.f159]⟩,zc [([0],[5]),([901],[901]),([0,1],[902])] (uO h hz hP ck cx sk sx 8 (by omega) (qL t (l.take i)) x hxr (by omega)) (by simp[go_sem,zE]) ⟨by simp[go_sem],by simp[go_sem]⟩ (by simp[go_sem,zF]) ?_⟩
    rintro _ _ ⟨rfl,tk,htk,rfl⟩
    rcases htk with rfl|rfl
    ·simp (maxSteps:=1000000) [go_sem,qy,zF,w1]
     exact zf (i+1,false) (by show i+1≤l.length;omega) (by simp[go_sem,LeS,leV,leR,leA,leL,hnx]) (by show l.length- (i+1)<l.length-i;omega)
    ·simp (maxSteps:=1000000) [go_sem,qy,zF,w1]
     exact zf (i+1,true) (by show i+1≤l.length;omega) (by simp[go_sem,LeS,leV,leR,leA,leL,hnx]) (by show l.length- (i+1)<l.length-i;omega)
   |false=>
    simp (maxSteps:=1000000) [go_sem,WH,zF,qy,hil',em,zC,hi1]
    refine⟨⟨rfl,by simp[Tryz.f159]⟩,zc [([0],[5]),([901],[902]),([0,1],[901])] (uO h hz hP ck cx sk sx 8 (by omega) (qL t (l.take i)) x hxr (by omega)) (by simp[go_sem,zE]) ⟨by simp[go_sem],by simp[go_sem]⟩ (by simp[go_sem,zF]) ?_⟩
    rintro _ _ ⟨rfl,tk,htk,rfl⟩
    rcases htk with rfl|rfl
    ·simp (maxSteps:=1000000) [go_sem,qy,zF,w1]
     exact zf (i+1,true) (by show i+1≤l.length;omega) (by simp[go_sem,LeS,leV,leR,leA,leL,hnx]) (by show l.length- (i+1)<l.length-i;omega)
    ·simp (maxSteps:=1000000) [go_sem,qy,zF,w1]
     exact zf (i+1,false) (by show i+1≤l.length;omega) (by simp[go_sem,LeS,leV,leR,leA,leL,hnx]) (by show l.length- (i+1)<l.length-i;omega)
 ·have hil':¬(i:Int)<l.length:=by omega
  obtain rfl:i=l.length:=by omega
  rw[List.take_length]at hal2⊢
  have hi1:¬l.length=0:=by simpa using hl0
  have hne:qL t l≠ []:=by
   cases l with
   |nil=>exact absurd rfl hl0
   |cons x l=>simp[qL,VB]
  have hru:=vX hP hr
  have hro:=UY h hz ck cx sk sx (qL t l) hne (by omega) hru
  have hln:(vM t l).length=(qL t l).length:=Vk _ _
  rw[hln]
  cases bt with
  |true=>
   simp (maxSteps:=1000000) [go_sem,WH,zF,qy,hil',hi1]
   refine⟨⟨rfl,by simp[Tryz.f160]⟩,zc [] hro (by simp[go_sem]) ⟨by simp[go_sem],by simp[go_sem,zF,zh]⟩ (by simp[go_sem]) ?_⟩
   rintro _ _ ⟨rfl,rfl⟩
   simp (maxSteps:=1000000) [go_sem]
   exact zi [[22,9,7]] (.la [22,9,7] 1 0 (qL t l).length) ⟨rfl,by simp⟩ (by simp[go_sem,zd,leA,leT]) ⟨rfl,by simp[go_sem,vM]⟩
  |false=>
   simp (maxSteps:=1000000) [go_sem,WH,zF,qy,hil',hi1]
   refine⟨⟨rfl,by simp[Tryz.f160]⟩,zc [] hro (by simp[go_sem]) ⟨by simp[go_sem],by simp[go_sem,zF,zh]⟩ (by simp[go_sem]) ?_⟩
   rintro _ _ ⟨rfl,rfl⟩
   simp (maxSteps:=1000000) [go_sem]
   exact zi [[22,9,7]] (.la [22,9,7] 1 0 (qL t l).length) ⟨rfl,by simp⟩ (by simp[go_sem,zd,leA,leT]) ⟨rfl,by simp[go_sem,vM]⟩
end Go.Proofs.YthbmelihnabkaaaGreat
end
