/- A part of this seat's proofs, by an abstract machine. Conditions: each law's. -/
import Derived.Test.YtfjdbbpimklecaaGreatDoorT40
import Derived.Test.YtfjdbbpimklecaaGreatDoorT34
import Derived.Test.YtfjdbbpimklecaaGreatDoorT30
set_option maxHeartbeats 4000000
set_option maxRecDepth 10000
namespace Go.Proofs.YtfjdbbpimklecaaGreatDoor
section
open Go.AM
theorem zds [Gi] {t:Zm} {c b j f p:PV}(h:VL t c b j f p)(hz:Kp t)(ck cx sk sx:List PV)(l:List Int)(hn:l.length<2^31)(hr:∀x∈l,qg x):
  CR Tryz.prog 167 [] [.p (kd c b j f p ck cx sk sx),.p (zE l)] [] (is (.p (xE (ue t l)))):=by
 refine zx mixed 8 [] Tryz.func167 rfl (by kernel_rfl) rfl (by simp) (by simp) ?_
 simp (maxSteps:=1000000) [go_sem,Tryz.f167,zE,kd]
 refine zH (fun r:List (List Int)×Nat=>r.2≤l.length∧r.1.length≤r.2∧ue t l=r.1++ue t (l.drop r.2)) (fun r=>[(6,.p (.int .i64 (r.2:Nat))),(5,.os [5] 1 (q9 r.1)),(7,.zY)]) (fun _=>[]) (fun r=>l.length-r.2) ([],0) ⟨by simp,by simp,rfl⟩ (by simp[go_sem,LeS,leV,leR,leA,q9]) (fun r hr2=>?_)
 obtain⟨D,a⟩:=r
 obtain⟨p1,p3,p2⟩:=hr2
 simp only at p1 p2 p3
 by_cases hal:a<l.length
 ·obtain⟨x,hx⟩:∃x,l[a]=x:=⟨_,rfl⟩
  have hdr:l.drop a=x::l.drop (a+1):=by rw[←hx];exact List.drop_eq_getElem_cons hal
  have hrun:=zgo t (l.drop (a+1)) (ZC t jK x).1
  obtain⟨k,hk⟩:∃k,k=vA t (ZC t jK x).1 (l.drop (a+1)):=⟨_,rfl⟩
  have hnx:=zlU h hz ck cx sk sx l hn hr a x (l.drop (a+1)) hdr
  rw[←hk]at hrun hnx
  rw[List.length_drop]at hrun
  obtain⟨e,he⟩:∃e,e=a+1+k:=⟨_,rfl⟩
  rw[←he]at hnx
  have hcl:ue t (l.drop a)=(l.drop a).take (k+1)::ue t (l.drop e):=by
   rw[hdr,zfI,←hk,List.drop_drop,List.take_succ_cons,he]
  have g1:(a:Int)<l.length:=by omega
  have hcut:(zP l).drop a=zP (l.drop a):=by simp[zP]
  have hcut2:(zP (l.drop a)).take (e-a)=zP ((l.drop a).take (k+1)):=by
   have:e-a=k+1:=by omega
   rw[this];simp[zP]
  have hcl0:(l.drop a).take (k+1)≠ []:=by rw[hdr];simp
  have hclen:((l.drop a).take (k+1)).length<2^40:=by rw[List.length_take,List.length_drop];omega
  obtain⟨C,hC⟩:∃C,C=(l.drop a).take (k+1):=⟨_,rfl⟩
  rw[←hC]at hcl hcut2 hcl0 hclen
  simp (maxSteps:=1000000) [go_sem,qf,g1]
  refine⟨⟨rfl,by simp[Tryz.f207]⟩,zd [] hnx (by simp[go_sem]) ⟨by simp[go_sem],by simp[go_sem,kd,zE]⟩ (by simp[go_sem]) ?_⟩
  rintro _ rs ⟨rfl,rfl⟩
  have g2:(e:Int).toNat-a=e-a:=by omega
  have hcc:cut (zP l) a e=zP C:=by rw[←hcut2,←hcut];simp[cut]
  simp (maxSteps:=1000000) [go_sem,qf,hcc]
  refine⟨⟨by omega,by omega⟩,⟨rfl,by simp[Tryz.f208]⟩,zd [] (zjg C hcl0 hclen) (by simp[go_sem]) ⟨by simp[go_sem],by simp[go_sem,zE]⟩ (by simp[go_sem]) ?_⟩
  rintro _ rs ⟨rfl,rfl⟩
  simp (maxSteps:=1000000) [go_sem,zE]
  refine⟨by omega,zi (D++[C],e) ⟨by show e≤l.length;omega,by simp;omega,by rw[p2,hcl];simp⟩ (by simp[go_sem,LeS,leV,leR,leA,q9,zE]) (by show l.length-e<l.length-a;omega)⟩
 ·have g1:¬(a:Int)<l.length:=by omega
  have e:ue t l=D:=by rw[p2,List.drop_eq_nil_of_le (by omega)];simp[ue,ve]
  rw[e]
  simp (maxSteps:=1000000) [go_sem,qf,g1]
  exact zg (.p (xE D)) rfl (by simp[go_sem,zf,leA,leT,xE]) ⟨rfl,rfl⟩
theorem zbe [Gi] {rows:List Row}(hw:QK rows)(l:List Int)(hl:l.length<2^31)(hr:∀x∈l,qg x):
  CR Tryz.prog 126 [] [.p (z6 rows),.p (zE l)] [] (is (.p (xE (zM rows l)))):=by
 refine zx mixed 8 [] Tryz.func126 rfl (by kernel_rfl) rfl (by simp) (by simp) ?_
 simp (maxSteps:=1000000) [go_sem,Tryz.f126,zE]
 refine zH (fun r:List (List Int)×Nat=>r.2≤l.length∧r.1.length≤r.2∧zM rows l=r.1++qQ rows (l.length-r.2) (l.take r.2).reverse (l.drop r.2)) (fun r=>[(6,.p (.int .i64 (r.2:Nat))),(5,.os [5] 1 (q9 r.1)),(7,.zY)]) (fun _=>[]) (fun r=>l.length-r.2) ([],0) ⟨by simp,by simp,rfl⟩ (by simp[go_sem,LeS,leV,leR,leA,q9]) (fun r hr2=>?_)
 obtain⟨D,a⟩:=r
 obtain⟨p1,p3,p2⟩:=hr2
 simp only at p1 p2 p3
 by_cases hal:a<l.length
 ·have hnx:=zjy hw l a hal hl hr
  obtain⟨e,he⟩:∃e,e=a+1+Qv rows l[a] (l.take a).reverse (l.drop (a+1)):=⟨_,rfl⟩
  have hrun:=ux rows (l.drop (a+1)) (l.take a).reverse l[a]
  rw[List.length_drop]at hrun
  have hcl:=zfR rows l a e hal he
  rw[←he]at hnx
  have hel:e≤l.length:=by omega
  have hae:a<e:=by omega
  have g1:(a:Int)<l.length:=by omega
  have hcc:cut (zP l) a e=zP ((l.drop a).take (e-a)):=by simp[cut,zP]
  obtain⟨C,hC⟩:∃C,C=(l.drop a).take (e-a):=⟨_,rfl⟩
  rw[←hC]at hcl hcc
  clear he hrun
  simp (maxSteps:=1000000) [go_sem,qf,g1]
  refine⟨⟨rfl,by simp[Tryz.f174]⟩,zd [] hnx (by simp[go_sem]) ⟨by simp[go_sem],by simp[go_sem,zE]⟩ (by simp[go_sem]) ?_⟩
  rintro _ rs ⟨rfl,rfl⟩
  simp (maxSteps:=1000000) [go_sem,qf,hcc]
  refine⟨⟨by omega,by omega⟩,by omega,zi (D++[C],e) ⟨by show e≤l.length;omega,by simp;omega,by rw[p2,hcl];simp⟩ (by simp[go_sem,LeS,leV,leR,leA,q9,zE]) (by show l.length-e<l.length-a;omega)⟩
 ·have g1:¬(a:Int)<l.length:=by omega
  have e:zM rows l=D:=by rw[p2,List.drop_eq_nil_of_le (by omega)];cases l.length-a<;>simp[qQ]
  rw[e]
  simp (maxSteps:=1000000) [go_sem,qf,g1]
  exact zg (.p (xE D)) rfl (by simp[go_sem,zf,leA,leT,xE]) ⟨rfl,rfl⟩
attribute [local irreducible] za
theorem zkv [Gi] {e:PV}(hT:xn e)(l:List Int)(hn:l.length<2^31)(hr:∀x∈l,qg x):CR Tryz.prog 167 [] [.p e,.p (zE l)] [] (is (.p (xE (zM za l)))):=by
 obtain⟨c,b,j,f,p,h,rfl⟩:=hT
 rw[←zkD]
 exact zds h wM _ _ _ _ l hn hr
theorem zh4 [Gi](l:List Int)(hn:l.length<2^31)(hr:∀x∈l,qg x):CR Tryz.prog 126 [] [.p (z6 za),.p (zE l)] [] (is (.p (xE (zM za l)))):=zbe kz l hn hr
theorem zeI [Gi] {l:List Int} {L:List (List Int)}(h:Ln l L)(i:Nat)(hi:i<l.length):CR Tryz.prog 128 [] [.p (z6 za),.p (zE l),.p (.int .i64 i)] [] (is (.p (.bool (isB L i)))):=by
 rcases Nat.eq_zero_or_pos i with rfl|h0
 ·have:=zeO l
  rw[←ziK L]at this
  exact this
 ·obtain⟨m,hm⟩:∃m,i=m+1:=⟨i-1,by omega⟩
  have hb:=XM kz l i m hm hi h.n h.r
  have e:=zl4 l L h.eq h.cl m (by omega)
  subst hm
  rw[e]at hb
  exact hb
theorem zeJ [Gi] {l:List Int} {L:List (List Int)}(h:Ln l L):CR Tryz.prog 75 [] [.p (z6 za),.p (zE l)] [] (is (.p (Je (pl L)))):=by
 refine walk Tryz.func75 7 [] [] [] ?_
 have hs:=h.sum
 have hn:=h.n
 have hcl:=h.cl
 have hfin:(pl L).take (cnt (pl L) (l.length:Nat))=pl L:=by
  have e2:=zbR hcl (k:=L.length) (Nat.le_refl _)
  rw[zbg,hs]at e2
  rw[e2]
  exact List.take_of_length_le (by rw[Q4];omega)
 simp (maxSteps:=1000000) [go_sem,Tryz.f75]
 refine loop (fun i:Nat=>i≤l.length) (fun i=>[(5,.os [5] 1 (Z9 ((pl L).take (cnt (pl L) i)))),(6,.p (.int .i64 i))]) (fun _=>[]) (fun i=>l.length-i) 0 (Nat.zero_le _) (fun i hi=>?_) (h0:=by simp[go_sem,LeS,leV,leR,leA,zkg,Z9])
 by_cases c:i<l.length
 ·have hb:=zeI h i c
  have w1:IntKind.i64.wrap ((i:Int)+1)=((i+1:Nat):Int):=zG (by omega)
  have hc:=znO hcl (i:=i) (by omega)
  have e:((i+1:Nat):Int)=(i:Int)+1:=by omega
  have hl:=zjN (pl L) ((i+1:Nat):Int)
  have hlen:(pl L).length≤l.length:=by rw[Q4,←hs];exact hcl.len
  have hlt:((pl L).take (cnt (pl L) i)).length≤l.length:=by rw[List.length_take];omega
  simp (maxSteps:=1000000) [go_sem,c]
  refine zq hb ?_
  cases hv:isB L i with
  |true=>
   rw[hv,if_pos rfl]at hc
   rw[e,hc]at hl
   have t1:Z9 ((pl L).take (cnt (pl L) i))++[.int .i64 (i:Nat)]=Z9 ((pl L).take (cnt (pl L) ((i+1:Nat):Int))):=by
    rw[e,hc,List.take_succ_eq_append_getElem (by omega),zi0,j8,zg4 hcl hv];rfl
   simp (maxSteps:=1000000) [go_sem,w1,t1]
   refine⟨by omega,?_⟩
   exact next (i+1) c (h3:=by show l.length- (i+1)<l.length-i;omega)
  |false=>
   rw[hv,if_neg (by decide),Nat.add_zero]at hc
   have t1:(pl L).take (cnt (pl L) i)=(pl L).take (cnt (pl L) ((i+1:Nat):Int)):=by rw[e,hc]
   simp (maxSteps:=1000000) [go_sem,w1,t1]
   exact next (i+1) c (h3:=by show l.length- (i+1)<l.length-i;omega)
 ·obtain rfl:i=l.length:=by omega
  simp (maxSteps:=1000000) [go_sem,hfin]
  exact ret
end
section
open Go.AM
theorem zkt [Gi] {t:Zm} {c b j f p:PV}(h:VL t c b j f p)(ck cx sk sx:List PV)(hz:Kp t) {i:Int}(hi: -2147483648≤i∧i<2147483648):
  CR Tryz.prog 222 [] [.p (kd c b j f p ck cx sk sx),.p (.int .i32 i)] [] (is (.p (.bool (t.flg (rn i)).w))):=by
 have w1:IntKind.i64.wrap i=i:=wrap64 (by omega) (by omega)
 refine zx mixed 5 [] Tryz.func222 rfl (by kernel_rfl) rfl (by simp) (by simp) ?_
 simp (maxSteps:=1000000) [go_sem,Tryz.f222,kd,w1]
 refine call [] (X4 h.f hz.f i) ?_
 rintro _ rs ⟨rfl,rfl⟩
 generalize t.flg (rn i)=q
 simp (maxSteps:=1000000) [go_sem,qB]
 exact ret
theorem ziI(r:Int):(T0.flg (rn r)).w=decide (aL za 7 r=1):=by
 by_cases h:0≤r∧r≤1114111
 ·have e:(T0.flg (rn r)).w=Za (qv za 7) r:=by
   rw[XH (by omega)];exact congrArg (Za (qv za 7)) (Int.toNat_of_nonneg h.1)
  rw[e,KT _ _ _ h]
  unfold qv
  rw[zpO _ _ (jV zqD).rise]
  unfold Za spA
  cases atL (zL za 7) r with
  |none=>rfl
  |some s=>simp only;rfl
 ·rw[Um (by omega),zbB _ _ _ h,wM.f];rfl
attribute [local irreducible] za
theorem zjk [Gi] {e:PV}(hT:xn e) {r:Int}(hr:qg r):CR Tryz.prog 222 [] [.p e,.p (.int .i32 r)] [] (is (.p (.bool (vg r)))):=by
 obtain⟨c,b,j,f,p,h,rfl⟩:=hT
 rw[vg,←ziI]
 exact zkt h _ _ _ _ wM hr
theorem zj2(r:Int):pcD r=uh r:=rfl
def xu(c0:Int):Nat→List Int→Bool
 |_,[]=>false
 |i,x::l=>(Wy c0 i x || (decide (i=1)&&(decide (zD za x=6)&&decide (zD za c0=6)))) || xu c0 (i+1) l
theorem YE(c0:Int):∀(l:List Int) (i:Nat),2≤i→xu c0 i l=ZT c0 i l
 | [],i,_=>rfl
 |x::l,i,h=>by
  unfold xu ZT
  rw[YE c0 l (i+1) (by omega),decide_eq_false (show ¬i=1 by omega)]
  simp
theorem zmc(c:List Int):KJ c=if xu (c.headD 0) 0 c=true then 2 else 1:=by
 unfold KJ
 congr 1
 rw[←Bool.or_eq_true]
 match c with
 | []=>rfl
 | [a]=>simp[xu,ZT,WK]
 |a::b::l=>
  simp only[xu,ZT,WK,List.headD_cons,YE a l 2 (Nat.le_refl _)]
  simp only[Nat.zero_add,decide_true,Bool.true_and]
  rw[decide_eq_false (show ¬(0:Nat)=1 by decide)]
  generalize ZT a 2 l=w
  by_cases hu:zD za a=6<;>by_cases hv:zD za b=6<;>cases Wy a 0 a<;>cases Wy a 1 b<;>cases w<;>simp[hu,hv]
theorem uQ [Gi] {e:PV}(hT:xn e)(c:List Int)(hn:c.length<2^31)(hr:∀x∈c,qg x):CR Tryz.prog 192 [] [.p e,.p (zE c)] [] (is (.p (.int .i64 (KJ c)))):=by
 refine walk Tryz.func192 10 [] [] [] ?_
 rw[zmc]
 obtain⟨c0,hc0⟩:∃c0,c0=c.headD 0:=⟨_,rfl⟩
 rw[←hc0]
 obtain⟨W,hW⟩:∃W,W=xu c0 0 c:=⟨_,rfl⟩
 rw[←hW]
 simp (maxSteps:=1000000) [go_sem,Tryz.f192]
 refine loop (fun i:Nat=>i≤c.length∧W=xu c0 i (c.drop i)) (fun i=>[(5,.zY),(6,.zY),(9,.p (.int .i64 i))]) (fun _=>[]) (fun i=>c.length-i) 0 ⟨Nat.zero_le _,hW⟩ (fun i hi=>?_)
 obtain⟨hi,h2⟩:=hi
 by_cases hil:i<c.length
 ·have e0:elemAt (zP c) 0=.int .i32 c0:=by
   rw[hc0]
   cases c with
   |nil=>simp at hil
   |cons a c=>rfl
  have r0:qg c0:=by
   rw[hc0]
   cases c with
   |nil=>simp at hil
   |cons a c=>exact hr a (by simp)
  have hp:0<c.length:=by omega
  obtain⟨y,hy⟩:∃y,c[i]=y:=⟨_,rfl⟩
  have ry:qg y:=hr y (by rw[←hy];exact List.getElem_mem _)
  have em:elemAt (zP c) i=.int .i32 y:=by rw[ZY hil,hy]
  have w1:IntKind.i64.wrap ((i:Int)+1)=((i+1:Nat):Int):=zG (by omega)
  rw[List.drop_eq_getElem_cons hil,hy,xu]at h2
  have g1:=zjk hT ry
  have g2:=zj4 hT r0
  have g3:=uG hT ry
  have g4:=uG hT r0
  rw[zj2]at g2
  unfold Wy at h2
  simp (maxSteps:=1000000) [go_sem,hil,em]
  refine zq g1 ?_
  cases hw:vg y with
  |true=>
   rw[hw]at h2
   simp only[Bool.true_or]at h2
   rw[h2]
   simp (maxSteps:=1000000) [go_sem]
   exact ret
  |false=>
   rw[hw]at h2
   simp only[Bool.false_or]at h2
   obtain⟨wr,hwr⟩:∃wr,wr=xu c0 (i+1) (c.drop (i+1)):=⟨_,rfl⟩
   rw[←hwr]at h2
   by_cases qa:y=65039
   ·subst qa
    by_cases qi:0<i
    ·simp (maxSteps:=1000000) [go_sem,qi,hp,e0]
     refine zq g2 ?_
     cases hp2:uh c0 with
     |true=>
      have hWt:W=true:=by rw[h2];simp[qi,hp2]
      rw[hWt]
      simp (maxSteps:=1000000) [go_sem]
      exact ret
     |false=>
      by_cases i1:i=1
      ·subst i1
       simp (maxSteps:=1000000) [go_sem,hp,e0]
       refine zq g3 ?_
       by_cases b6:zD za 65039=6
       ·simp (maxSteps:=1000000) [go_sem,hp,e0,b6]
        refine zq g4 ?_
        by_cases b7:zD za c0=6
        ·have hWt:W=true:=by rw[h2];simp[b6,b7]
         rw[hWt]
         simp (maxSteps:=1000000) [go_sem,b7]
         exact ret
        ·simp (maxSteps:=1000000) [go_sem,b7,wk2]
         exact next (1+1) ⟨hil,by rw[h2,hwr];simp[b7,hp2]⟩ (h3:=by show c.length- (1+1)<c.length-1;omega)
       ·simp (maxSteps:=1000000) [go_sem,b6,wk2]
        exact next (1+1) ⟨hil,by rw[h2,hwr];simp[b6,hp2]⟩ (h3:=by show c.length- (1+1)<c.length-1;omega)
      ·have i1':¬(i:Int)=1:=by omega
       simp (maxSteps:=1000000) [go_sem,hp,e0,i1',w1]
       exact next (i+1) ⟨hil,by rw[h2,hwr];simp[i1,hp2]⟩ (h3:=by show c.length- (i+1)<c.length-i;omega)
    ·have qi':¬(0:Int)<i:=by omega
     have i1:¬i=1:=by omega
     have i1':¬(i:Int)=1:=by omega
     simp (maxSteps:=1000000) [go_sem,hp,e0,i1',w1,qi]
     exact next (i+1) ⟨hil,by rw[h2,hwr];simp[i1,qi]⟩ (h3:=by show c.length- (i+1)<c.length-i;omega)
   ·by_cases i1:i=1
    ·subst i1
     simp (maxSteps:=1000000) [go_sem,hp,e0,qa]
     refine zq g3 ?_
     by_cases b6:zD za y=6
     ·simp (maxSteps:=1000000) [go_sem,hp,e0,b6]
      refine zq g4 ?_
      by_cases b7:zD za c0=6
      ·have hWt:W=true:=by rw[h2];simp[b6,b7]
       rw[hWt]
       simp (maxSteps:=1000000) [go_sem,b7]
       exact ret
      ·simp (maxSteps:=1000000) [go_sem,b7,wk2]
       exact next (1+1) ⟨hil,by rw[h2,hwr];simp[b7,qa]⟩ (h3:=by show c.length- (1+1)<c.length-1;omega)
     ·simp (maxSteps:=1000000) [go_sem,b6,wk2]
      exact next (1+1) ⟨hil,by rw[h2,hwr];simp[b6,qa]⟩ (h3:=by show c.length- (1+1)<c.length-1;omega)
    ·have i1':¬(i:Int)=1:=by omega
     simp (maxSteps:=1000000) [go_sem,hp,e0,i1',w1,qa]
     exact next (i+1) ⟨hil,by rw[h2,hwr];simp[i1,qa]⟩ (h3:=by show c.length- (i+1)<c.length-i;omega)
 ·have e:W=false:=by rw[h2,List.drop_eq_nil_of_le (by omega)];rfl
  rw[e]
  have g:¬(i:Int)<c.length:=by omega
  simp (maxSteps:=1000000) [go_sem,g]
  exact ret
end
section
open Go.AM
attribute [local irreducible] za
theorem ju {x:Int}(h1:0≤x)(h2:x<256):IntKind.u8.wrap x=x:=by
 simp only[IntKind.wrap,IntKind.signed,IntKind.bits]
 simp
 omega
theorem tdv {x k y:Nat}(h:y=x/k):(x:Int).tdiv (k:Int)=(y:Int):=by rw[h];rfl
theorem tmd {x k y:Nat}(h:y=x%k):(x:Int).tmod (k:Int)=(y:Int):=by rw[h];rfl
theorem zoX [Gi](q:Nat)(h2:q<128)(hv:Zl (q:Int)=true):CR Tryz.prog 176 [] [.p (.int .i32 q)] [] (is (.p (.str (QH q)))):=by
 refine walk Tryz.func176 4 [] [] [] ?_
 have g1:=wh (q:Int)
 have w0:IntKind.i64.wrap (q:Int)=q:=wrap64 (by omega) (by omega)
 rw[hv]at g1
 have u0:IntKind.u8.wrap (q:Int)=q:=ju (by omega) (by omega)
 have e:QH q=[u8 q]:=by unfold QH;rw[if_pos h2]
 have k1:(q:Int)<128:=by omega
 rw[e]
 simp (maxSteps:=1000000) [go_sem,Tryz.f176,w0]
 refine zq g1 ?_
 simp (maxSteps:=1000000) [go_sem,k1,u0]
 exact ret (hx:=by simp[go_sem,zf,leA,leT,u8])
theorem zoA [Gi](q:Nat)(h1:128≤q)(h2:q<2048)(hv:Zl (q:Int)=true):CR Tryz.prog 176 [] [.p (.int .i32 q)] [] (is (.p (.str (QH q)))):=by
 refine walk Tryz.func176 4 [] [] [] ?_
 have g1:=wh (q:Int)
 have w0:IntKind.i64.wrap (q:Int)=q:=wrap64 (by omega) (by omega)
 rw[hv]at g1
 obtain⟨a0,ha0⟩:∃x,x=q/64:=⟨_,rfl⟩
 have t0:(q:Int).tdiv 64=(a0:Int):=tdv ha0
 have v0:IntKind.i64.wrap (a0:Int)=a0:=wrap64 (by omega) (by omega)
 have y0:IntKind.i64.wrap (192+(a0:Int))=192+(a0:Int):=wrap64 (by omega) (by omega)
 have u0:IntKind.u8.wrap (192+(a0:Int))=192+(a0:Int):=ju (by omega) (by omega)
 obtain⟨a1,ha1⟩:∃x,x=q%64:=⟨_,rfl⟩
 have t1:(q:Int).tmod 64=(a1:Int):=tmd ha1
 have y1:IntKind.i64.wrap (128+(a1:Int))=128+(a1:Int):=wrap64 (by omega) (by omega)
 have u1:IntKind.u8.wrap (128+(a1:Int))=128+(a1:Int):=ju (by omega) (by omega)
 have e:QH q=[u8 (192+a0),u8 (128+a1)]:=by
  have e0:q/64=a0:=by omega
  have e1:q%64=a1:=by omega
  unfold QH
  rw[if_neg (by omega),if_pos (by omega),e0,e1]
 have k0:¬(q:Int)<128:=by omega
 have k1:(q:Int)<2048:=by omega
 rw[e]
 simp (maxSteps:=1000000) [go_sem,Tryz.f176,w0]
 refine zq g1 ?_
 simp (maxSteps:=1000000) [go_sem,t0,v0,y0,u0,t1,y1,u1,k0,k1]
 exact⟨by decide,ret (hx:=by simp[go_sem,zf,leA,leT];exact⟨Qr 192 a0,Qr 128 a1⟩)⟩
theorem znZ [Gi](q:Nat)(h1:2048≤q)(h2:q<65536)(hv:Zl (q:Int)=true):CR Tryz.prog 176 [] [.p (.int .i32 q)] [] (is (.p (.str (QH q)))):=by
 refine walk Tryz.func176 4 [] [] [] ?_
 have g1:=wh (q:Int)
 have w0:IntKind.i64.wrap (q:Int)=q:=wrap64 (by omega) (by omega)
 rw[hv]at g1
 obtain⟨a0,ha0⟩:∃x,x=q/4096:=⟨_,rfl⟩
 have t0:(q:Int).tdiv 4096=(a0:Int):=tdv ha0
 have v0:IntKind.i64.wrap (a0:Int)=a0:=wrap64 (by omega) (by omega)
 have y0:IntKind.i64.wrap (224+(a0:Int))=224+(a0:Int):=wrap64 (by omega) (by omega)
 have u0:IntKind.u8.wrap (224+(a0:Int))=224+(a0:Int):=ju (by omega) (by omega)
 obtain⟨b1,hb1⟩:∃x,x=q/64:=⟨_,rfl⟩
 have s1:(q:Int).tdiv 64=(b1:Int):=tdv hb1
 have z1:IntKind.i64.wrap (b1:Int)=b1:=wrap64 (by omega) (by omega)
 obtain⟨a1,ha1⟩:∃x,x=b1%64:=⟨_,rfl⟩
 have t1:(b1:Int).tmod 64=(a1:Int):=tmd ha1
 have y1:IntKind.i64.wrap (128+(a1:Int))=128+(a1:Int):=wrap64 (by omega) (by omega)
 have u1:IntKind.u8.wrap (128+(a1:Int))=128+(a1:Int):=ju (by omega) (by omega)
 obtain⟨a2,ha2⟩:∃x,x=q%64:=⟨_,rfl⟩
 have t2:(q:Int).tmod 64=(a2:Int):=tmd ha2
 have y2:IntKind.i64.wrap (128+(a2:Int))=128+(a2:Int):=wrap64 (by omega) (by omega)
 have u2:IntKind.u8.wrap (128+(a2:Int))=128+(a2:Int):=ju (by omega) (by omega)
 have e:QH q=[u8 (224+a0),u8 (128+a1),u8 (128+a2)]:=by
  have e0:q/4096=a0:=by omega
  have e1:q/64%64=a1:=by omega
  have e2:q%64=a2:=by omega
  unfold QH
  rw[if_neg (by omega),if_neg (by omega),if_pos (by omega),e0,e1,e2]
 have k0:¬(q:Int)<128:=by omega
 have k1:¬(q:Int)<2048:=by omega
 have k2:(q:Int)<65536:=by omega
 rw[e]
 simp (maxSteps:=1000000) [go_sem,Tryz.f176,w0]
 refine zq g1 ?_
 simp (maxSteps:=1000000) [go_sem,t0,v0,y0,u0,s1,z1,t1,y1,u1,t2,y2,u2,k0,k1,k2]
 exact⟨by decide,ret (hx:=by simp[go_sem,zf,leA,leT];exact⟨Qr 224 a0,Qr 128 a1,Qr 128 a2⟩)⟩
theorem znJ [Gi](q:Nat)(h1:65536≤q)(h2:q≤1114111)(hv:Zl (q:Int)=true):CR Tryz.prog 176 [] [.p (.int .i32 q)] [] (is (.p (.str (QH q)))):=by
 refine walk Tryz.func176 4 [] [] [] ?_
 have g1:=wh (q:Int)
 have w0:IntKind.i64.wrap (q:Int)=q:=wrap64 (by omega) (by omega)
 rw[hv]at g1
 obtain⟨a0,ha0⟩:∃x,x=q/262144:=⟨_,rfl⟩
 have t0:(q:Int).tdiv 262144=(a0:Int):=tdv ha0
 have v0:IntKind.i64.wrap (a0:Int)=a0:=wrap64 (by omega) (by omega)
 have y0:IntKind.i64.wrap (240+(a0:Int))=240+(a0:Int):=wrap64 (by omega) (by omega)
 have u0:IntKind.u8.wrap (240+(a0:Int))=240+(a0:Int):=ju (by omega) (by omega)
 obtain⟨b1,hb1⟩:∃x,x=q/4096:=⟨_,rfl⟩
 have s1:(q:Int).tdiv 4096=(b1:Int):=tdv hb1
 have z1:IntKind.i64.wrap (b1:Int)=b1:=wrap64 (by omega) (by omega)
 obtain⟨a1,ha1⟩:∃x,x=b1%64:=⟨_,rfl⟩
 have t1:(b1:Int).tmod 64=(a1:Int):=tmd ha1
 have y1:IntKind.i64.wrap (128+(a1:Int))=128+(a1:Int):=wrap64 (by omega) (by omega)
 have u1:IntKind.u8.wrap (128+(a1:Int))=128+(a1:Int):=ju (by omega) (by omega)
 obtain⟨b2,hb2⟩:∃x,x=q/64:=⟨_,rfl⟩
 have s2:(q:Int).tdiv 64=(b2:Int):=tdv hb2
 have z2:IntKind.i64.wrap (b2:Int)=b2:=wrap64 (by omega) (by omega)
 obtain⟨a2,ha2⟩:∃x,x=b2%64:=⟨_,rfl⟩
 have t2:(b2:Int).tmod 64=(a2:Int):=tmd ha2
 have y2:IntKind.i64.wrap (128+(a2:Int))=128+(a2:Int):=wrap64 (by omega) (by omega)
 have u2:IntKind.u8.wrap (128+(a2:Int))=128+(a2:Int):=ju (by omega) (by omega)
 obtain⟨a3,ha3⟩:∃x,x=q%64:=⟨_,rfl⟩
 have t3:(q:Int).tmod 64=(a3:Int):=tmd ha3
 have y3:IntKind.i64.wrap (128+(a3:Int))=128+(a3:Int):=wrap64 (by omega) (by omega)
 have u3:IntKind.u8.wrap (128+(a3:Int))=128+(a3:Int):=ju (by omega) (by omega)
 have e:QH q=[u8 (240+a0),u8 (128+a1),u8 (128+a2),u8 (128+a3)]:=by
  have e0:q/262144=a0:=by omega
  have e1:q/4096%64=a1:=by omega
  have e2:q/64%64=a2:=by omega
  have e3:q%64=a3:=by omega
  unfold QH
  rw[if_neg (by omega),if_neg (by omega),if_neg (by omega),e0,e1,e2,e3]
 have k0:¬(q:Int)<128:=by omega
 have k1:¬(q:Int)<2048:=by omega
 have k2:¬(q:Int)<65536:=by omega
 rw[e]
 simp (maxSteps:=1000000) [go_sem,Tryz.f176,w0]
 refine zq g1 ?_
 simp (maxSteps:=1000000) [go_sem,t0,v0,y0,u0,s1,z1,t1,y1,u1,s2,z2,t2,y2,u2,t3,y3,u3,k0,k1,k2]
 exact⟨by decide,ret (hx:=by simp[go_sem,zf,leA,leT];exact⟨Qr 240 a0,Qr 128 a1,Qr 128 a2,Qr 128 a3⟩)⟩
theorem zoF [Gi](r:Int)(hr:qg r)(hv:Zl r=false):CR Tryz.prog 176 [] [.p (.int .i32 r)] [] (is (.p (.str (QH 65533)))):=by
 refine walk Tryz.func176 4 [] [] [] ?_
 obtain⟨q,hq⟩:∃q:Nat,q=65533:=⟨_,rfl⟩
 have hqI:(65533:Int)=(q:Int):=by omega
 have g1:=wh r
 have w0:IntKind.i64.wrap r=r:=wrap64 (by have:=hr.1;omega) (by have:=hr.2;omega)
 rw[hv]at g1
 obtain⟨a0,ha0⟩:∃x,x=q/4096:=⟨_,rfl⟩
 have t0:(q:Int).tdiv 4096=(a0:Int):=tdv ha0
 have v0:IntKind.i64.wrap (a0:Int)=a0:=wrap64 (by omega) (by omega)
 have y0:IntKind.i64.wrap (224+(a0:Int))=224+(a0:Int):=wrap64 (by omega) (by omega)
 have u0:IntKind.u8.wrap (224+(a0:Int))=224+(a0:Int):=ju (by omega) (by omega)
 obtain⟨b1,hb1⟩:∃x,x=q/64:=⟨_,rfl⟩
 have s1:(q:Int).tdiv 64=(b1:Int):=tdv hb1
 have z1:IntKind.i64.wrap (b1:Int)=b1:=wrap64 (by omega) (by omega)
 obtain⟨a1,ha1⟩:∃x,x=b1%64:=⟨_,rfl⟩
 have t1:(b1:Int).tmod 64=(a1:Int):=tmd ha1
 have y1:IntKind.i64.wrap (128+(a1:Int))=128+(a1:Int):=wrap64 (by omega) (by omega)
 have u1:IntKind.u8.wrap (128+(a1:Int))=128+(a1:Int):=ju (by omega) (by omega)
 obtain⟨a2,ha2⟩:∃x,x=q%64:=⟨_,rfl⟩
 have t2:(q:Int).tmod 64=(a2:Int):=tmd ha2
 have y2:IntKind.i64.wrap (128+(a2:Int))=128+(a2:Int):=wrap64 (by omega) (by omega)
 have u2:IntKind.u8.wrap (128+(a2:Int))=128+(a2:Int):=ju (by omega) (by omega)
 have e:QH 65533=[u8 (224+a0),u8 (128+a1),u8 (128+a2)]:=by
  have e0:65533/4096=a0:=by omega
  have e1:65533/64%64=a1:=by omega
  have e2:65533%64=a2:=by omega
  unfold QH
  rw[if_neg (by omega),if_neg (by omega),if_pos (by omega),e0,e1,e2]
 have k0:¬(q:Int)<128:=by omega
 have k1:¬(q:Int)<2048:=by omega
 have k2:(q:Int)<65536:=by omega
 rw[e]
 simp (maxSteps:=1000000) [go_sem,Tryz.f176,w0]
 refine zq g1 ?_
 simp (maxSteps:=1000000) [go_sem,t0,v0,y0,u0,s1,z1,t1,y1,u1,t2,y2,u2,k0,k1,k2,hqI]
 exact⟨by decide,ret (hx:=by simp[go_sem,zf,leA,leT];exact⟨Qr 224 a0,Qr 128 a1,Qr 128 a2⟩)⟩
theorem zlb [Gi](r:Int)(hr:qg r):CR Tryz.prog 176 [] [.p (.int .i32 r)] [] (is (.p (.str (jc r)))):=by
 unfold jc zcG
 cases hv:Zl r with
 |false=>exact zoF r hr hv
 |true=>
  have h:(0≤r∧r<55296)∨(57343<r∧r≤1114111):=by unfold Zl at hv;simpa using hv
  obtain⟨q,rfl⟩:∃q:Nat,r=q:=⟨r.toNat,by omega⟩
  rw[if_pos rfl,Int.toNat_natCast]
  by_cases c1:q<128
  ·exact zoX q c1 hv
  ·by_cases c2:q<2048
   ·exact zoA q (by omega) c2 hv
   ·by_cases c3:q<65536
    ·exact znZ q (by omega) c3 hv
    ·exact znJ q (by omega) (by omega) hv
def u8s(s:List UInt8):List PV:=s.map fun c=>.int .u8 (c.toNat:Int)
theorem zif(s:List UInt8):je (u8s s)=some s:=by
 induction s with
 |nil=>rfl
 |cons c s ih=>
  have e:u8s (c::s)=.int .u8 (c.toNat:Int)::u8s s:=rfl
  rw[e,je,ih]
  simp
theorem zls(a b:List UInt8):u8s a++u8s b=u8s (a++b):=by simp[u8s]
theorem zgx(s:List UInt8):(u8s s).length=s.length:=by simp[u8s]
theorem zap {l:List Int} {i:Nat}(h:i<l.length):yg (l.take (i+1))=yg (l.take i)++jc l[i]:=by
 unfold yg
 rw[List.take_add_one,List.getElem?_eq_getElem h,List.flatMap_append]
 simp
theorem UR(r:Int):1≤(jc r).length∧(jc r).length≤4:=zcR _
theorem zba [Gi](l:List Int)(h0:l≠ [])(hn:l.length≤100000):CR Tryz.prog 191 [] [.p (zE l)] [] (is (.p (.str (yg l)))):=by
 refine walk Tryz.func191 9 [] [] [] ?_
 have hp:0<l.length:=List.length_pos_iff.2 h0
 simp (maxSteps:=1000000) [go_sem,Tryz.f191]
 refine loop (fun i:Nat=>i≤l.length) (fun i=>[(3,.os [3] 1 (u8s (yg (l.take i)))),(5,.zY),(8,.p (.int .i64 i))]) (fun _=>[]) (fun i=>l.length-i) 0 (Nat.zero_le _) (fun i hi=>?_) (h0:=by simp[go_sem,LeS,leV,leR,leA,yg,u8s])
 by_cases c:i<l.length
 ·have em:elemAt (zP l) i=.int .i32 l[i]:=by rw[zP,zp (fun r=>PV.int .i32 r) l i c]
  have hs:=zap c
  have hl:=J4 (l.take i)
  have hl2:=(UR l[i]).2
  have w1:IntKind.i64.wrap ((i:Int)+1)=((i+1:Nat):Int):=zG (by omega)
  have hP:=znt l[i]
  rw[List.length_take]at hl
  generalize jc l[i]=q at hP hs hl2
  have e2:u8s (yg (l.take i))++q.map (fun c=>PV.int .u8 (c.toNat:Int))=u8s (yg (l.take (i+1))):=by rw[hs];exact zls _ _
  have l3:(u8s (yg (l.take i))).length≤400000:=by rw[zgx];omega
  simp (maxSteps:=1000000) [go_sem,c,em]
  refine zq hP ?_
  simp (maxSteps:=1000000) [go_sem,w1,e2]
  refine⟨by omega,?_⟩
  exact next (i+1) c (h3:=by show l.length- (i+1)<l.length-i;omega)
 ·obtain rfl:i=l.length:=by omega
  rw[List.take_length]
  have hne:u8s (yg l)≠ []:=by
   intro e
   have:=congrArg List.length e
   rw[zgx]at this
   obtain⟨x,l',rfl⟩:∃x l',l=x::l':=by
    cases l with
    |nil=>exact absurd rfl h0
    |cons x l'=>exact⟨x,l',rfl⟩
   have e2:yg (x::l')=jc x++yg l':=rfl
   have h1:=(UR x).1
   rw[e2,List.length_append]at this
   simp only[List.length_nil]at this
   omega
  have hb:=zif (yg l)
  simp (maxSteps:=1000000) [go_sem,hb,hne]
  exact ret
theorem KW [Gi](l:List Int)(hn:l.length≤100000)(hr:∀x∈l,qg x):CR Tryz.prog 147 [] [.p (zE l)] [] (is (.p (.str (yg l)))):=by
 refine walk Tryz.func147 5 [] [] [] ?_
 simp (maxSteps:=1000000) [go_sem,Tryz.f147]
 refine loop (fun i:Nat=>i≤l.length) (fun i=>[(3,.p (.str (yg (l.take i)))),(4,.p (.int .i64 i))]) (fun _=>[]) (fun i=>l.length-i) 0 (Nat.zero_le _) (fun i hi=>?_) (h0:=by simp[go_sem,LeS,leV,leR,leA,yg])
 by_cases c:i<l.length
 ·have em:elemAt (zP l) i=.int .i32 l[i]:=by rw[zP,zp (fun r=>PV.int .i32 r) l i c]
  have hs:=zap c
  have hl:=J4 (l.take i)
  have hl2:=(UR l[i]).2
  have w1:IntKind.i64.wrap ((i:Int)+1)=((i+1:Nat):Int):=zG (by omega)
  have hP:=zlb l[i] (hr _ (List.getElem_mem c))
  rw[List.length_take]at hl
  generalize jc l[i]=q at hP hs hl2
  simp (maxSteps:=1000000) [go_sem,c,em]
  refine zq hP ?_
  simp (maxSteps:=1000000) [go_sem,w1,←hs]
  refine⟨by omega,?_⟩
  exact next (i+1) c (h3:=by show l.length- (i+1)<l.length-i;omega)
 ·obtain rfl:i=l.length:=by omega
  rw[List.take_length]
  simp (maxSteps:=1000000) [go_sem]
  exact ret
theorem zjs [Gi](r:Int)(hr:qg r):CR Tryz.prog 210 [] [.p (.int .i32 r)] [] (is (.p (qe (qy r)))):=by
 refine walk Tryz.func210 3 [] [] [] ?_
 by_cases h:0≤r∧r<32
 ·have u1:IntKind.u8.wrap r=r:=ju h.1 (by omega)
  have u2:IntKind.u8.wrap (r+64)=r+64:=ju (by omega) (by omega)
  have e:qy r=[zbA,⟨[u8 (r.toNat+64)],1⟩]:=by unfold qy;rw[if_pos h]
  have e2:(r+64).toNat=r.toNat+64:=by omega
  rw[e]
  simp (maxSteps:=1000000) [go_sem,Tryz.f210,h.1,h.2,u1,u2]
  exact⟨by decide,ret (hx:=by simp[go_sem,zf,leA,leT,clP,zbA,u8,e2])⟩
 ·by_cases h2:r=127
  ·subst h2
   have e:qy 127=[zbA,⟨[63],1⟩]:=rfl
   rw[e]
   simp (maxSteps:=1000000) [go_sem,Tryz.f210]
   exact⟨by decide,ret (hx:=by simp[go_sem,zf,leA,leT,clP,zbA])⟩
  ·have e:qy r=[⟨[239,191,189],1⟩]:=by unfold qy;rw[if_neg h,if_neg h2]
   have hb:=znt 65533
   have e3:jc 65533=[239,191,189]:=by decide
   rw[e3]at hb
   rw[e]
   by_cases q:0≤r
   ·have q2:¬r<32:=fun k=>h ⟨q,k⟩
    simp (maxSteps:=1000000) [go_sem,Tryz.f210,h2,q,q2]
    refine zq hb ?_
    simp (maxSteps:=1000000) [go_sem]
    exact ret (hx:=by simp[go_sem,zf,leA,leT,clP])
   ·simp (maxSteps:=1000000) [go_sem,Tryz.f210,h2,q]
    refine zq hb ?_
    simp (maxSteps:=1000000) [go_sem]
    exact ret (hx:=by simp[go_sem,zf,leA,leT,clP])
theorem zf0 {l:List PV} {n:Int}(h:n=l.length):AM.cut l 0 n=l:=by
 subst h
 simp[AM.cut]
theorem Yv {f:Int→List Cl} {c:List Int} {i:Nat}(h:i<c.length):(c.take (i+1)).flatMap f=(c.take i).flatMap f++f c[i]:=by
 rw[List.take_add_one,List.getElem?_eq_getElem h,List.flatMap_append]
 simp
theorem zkC [Gi] {e:PV}(hT:xn e)(c:List Int)(h0:c≠ [])(hn:c.length≤10000)(hr:∀x∈c,qg x):CR Tryz.prog 168 [] [.p e,.p (zE c)] [] (is (.p (qe (ofG c)))):=by
 refine walk Tryz.func168 8 [15,16,20,21,22,32] [] [] ?_
 obtain⟨c0,c',rfl⟩:∃a l,c=a::l:=by
  cases c with
  |nil=>exact absurd rfl h0
  |cons a l=>exact⟨a,l,rfl⟩
 have hc0:(c0::c').headD 0=c0:=rfl
 have g1:=uG hT (hr c0 (by simp))
 have e0:elemAt (zP (c0::c')) 0=.int .i32 c0:=rfl
 have hp:0< (c0::c').length:=by simp
 have hof:ofG (c0::c')=if zD za c0=1∨zD za c0=2∨zD za c0=3 then(c0::c').flatMap qy else [⟨yg (Z6 (c0::c')),KJ (Z6 (c0::c'))⟩]:=rfl
 have hsh:Z6 (c0::c')=(if zD za c0=4∨zD za c0=5∨zD za c0=8 then [KB]else [])++(c0::c')++(if zD za ((c0::c').getLastD 0)=7 then [KB]else []):=rfl
 generalize (c0::c')=c at*
 rw[hof]
 generalize zD za c0=b at g1 hof hsh⊢
 have hcl:¬c.length=0:=by omega
 simp (maxSteps:=1000000) [go_sem,Tryz.f168,e0,hp,hcl]
 refine zq g1 ?_
 simp (maxSteps:=1000000) [go_sem]
 refine Zp (ι:=Unit) (fun _=>True) (fun _=>[(16,.p (.bool (decide (b=1∨b=2∨b=3))))]) (fun _=>[]) ?_ ?_
 ·refine zh (fun q1=>?_) (fun q1=>?_)
  ·have q1':b=1:=by simpa using q1
   simp (maxSteps:=1000000) [go_sem]
   exact zO () trivial (by simp[go_sem,q1'])
  ·have q1':¬b=1:=by simpa using q1
   simp (maxSteps:=1000000) [go_sem]
   refine zh (fun q2=>?_) (fun q2=>?_)
   ·have q2':b=2:=by simpa using q2
    simp (maxSteps:=1000000) [go_sem]
    exact zO () trivial (by simp[go_sem,q2'])
   ·have q2':¬b=2:=by simpa using q2
    simp (maxSteps:=1000000) [go_sem]
    exact zO () trivial (by simp[go_sem,q1',q2'])
 ·intro _ ts _
  by_cases hb:b=1∨b=2∨b=3
  ·rw[if_pos hb]
   simp (maxSteps:=1000000) [go_sem,hb]
   refine loop (fun i:Nat=>i≤c.length) (fun i=>[(5,.os [5] 2 (((c.take i).flatMap qy).map clP)),(7,.zY),(22,.p (.int .i64 i))]) (fun _=>[]) (fun i=>c.length-i) 0 (Nat.zero_le _) (fun i hi=>?_) (h0:=by simp[go_sem,LeS,leV,leR,leA])
   by_cases hil:i<c.length
   ·obtain⟨y,hy⟩:∃y,c[i]=y:=⟨_,rfl⟩
    have ry:qg y:=hr y (by rw[←hy];exact List.getElem_mem _)
    have em:elemAt (zP c) i=.int .i32 y:=by rw[ZY hil,hy]
    have w1:IntKind.i64.wrap ((i:Int)+1)=((i+1:Nat):Int):=zG (by omega)
    have hC:=zjs y ry
    have st:=Yv (f:=qy) hil
    rw[hy]at st
    have l1:=Vz qy 2 (c.take i) fun x _=>vd x
    rw[List.length_take]at l1
    have l2:=vd y
    have st2:((c.take i).flatMap qy).map clP++(qy y).map clP=((c.take (i+1)).flatMap qy).map clP:=by rw[st,List.map_append]
    have l3:(((c.take i).flatMap qy).map clP).length≤20000:=by rw[List.length_map];omega
    generalize qy y=cy at hC st2 l2
    generalize ((c.take i).flatMap qy).map clP=A at st2 l3⊢
    simp (maxSteps:=1000000) [go_sem,hil,em]
    refine zq hC ?_
    simp (maxSteps:=1000000) [go_sem,w1,st2]
    refine⟨by omega,?_⟩
    exact next (i+1) hil (h3:=by show c.length- (i+1)<c.length-i;omega)
   ·obtain rfl:i=c.length:=by omega
    rw[List.take_length]
    simp (maxSteps:=1000000) [go_sem]
    exact ret
  ·rw[if_neg hb]
   simp (maxSteps:=1000000) [go_sem,hb]
   obtain⟨z,hz⟩:∃z,z=c.getLastD 0:=⟨_,rfl⟩
   rw[←hz]at hsh
   have ez:elemAt (zP c) (c.length-1)=.int .i32 z:=by
    rw[ZY (by omega),hz]
    have e1:c.getLastD 0=c[c.length-1]:=by
     rw[List.getLastD_eq_getLast?,List.getLast?_eq_getElem?,List.getElem?_eq_getElem (by omega)];rfl
    rw[e1]
   have rz:qg z:=by
    rw[hz,List.getLastD_eq_getLast?,List.getLast?_eq_getElem?,List.getElem?_eq_getElem (by omega)]
    exact hr _ (List.getElem_mem _)
   have gz:=uG hT rz
   generalize zD za z=bz at gz hsh
   refine Zp (ι:=Unit) (fun _=>True) (fun _=>[(32,.p (.bool (decide (b=4∨b=5∨b=8))))]) (fun _=>[]) ?_ ?_
   ·refine zh (fun q1=>?_) (fun q1=>?_)
    ·have q1':b=4:=by simpa using q1
     simp (maxSteps:=1000000) [go_sem]
     exact zO () trivial (by simp[go_sem,q1'])
    ·have q1':¬b=4:=by simpa using q1
     simp (maxSteps:=1000000) [go_sem]
     refine zh (fun q2=>?_) (fun q2=>?_)
     ·have q2':b=5:=by simpa using q2
      simp (maxSteps:=1000000) [go_sem]
      exact zO () trivial (by simp[go_sem,q2'])
     ·have q2':¬b=5:=by simpa using q2
      simp (maxSteps:=1000000) [go_sem]
      exact zO () trivial (by simp[go_sem,q1',q2'])
   ·intro _ ts _
    have w1:IntKind.i64.wrap ((c.length:Int)-1)=((c.length-1:Nat):Int):=by
     rw[wrap64 (by omega) (by omega)];omega
    have lt1:((c.length-1:Nat):Int)<c.length:=by omega
    by_cases hd:b=4∨b=5∨b=8
    ·rw[if_pos hd]at hsh
     have eS:elemAt (PV.int .i32 9676::zP c) c.length=.int .i32 z:=by
      obtain⟨m,hm⟩:∃m,c.length=m+1:=⟨c.length-1,by omega⟩
      rw[hm]at ez⊢
      exact ez
     have wL:IntKind.i64.wrap (c.length:Int)=c.length:=wrap64 (by omega) (by omega)
     simp (maxSteps:=1000000) [go_sem,hd,wL,eS]
     refine⟨by omega,by omega,zq gz ?_⟩
     by_cases q7:bz=7
     ·have ns:(9676::c++[9676]).length≤20000:=by simp;omega
      have rs:∀x∈(9676::c++[9676]),qg x:=by
       intro x hx
       simp only[List.mem_cons,List.mem_append,List.not_mem_nil,or_false]at hx
       by_cases hxc:x∈c
       ·exact hr x hxc
       ·have:x=9676:=by simpa[hxc]using hx
        rw[this];exact⟨by decide,by decide⟩
      have gE:=zba (9676::c++[9676]) (by simp) (by omega)
      have gW:=uQ hT (9676::c++[9676]) (by omega) rs
      have hS:Z6 c=9676::c++[9676]:=by rw[hsh];simp[q7,KB]
      rw[hS]
      have hI:(PV.int .i32 9676::zP c)++[.int .i32 9676]=zP (9676::c++[9676]):=by simp[zP]
      simp (maxSteps:=1000000) [go_sem,q7]
      have hcut:cut (PV.int .i32 9676::zP c) 0 ((c.length:Int)+1)=PV.int .i32 9676::zP c:=zf0 (by rw[List.length_cons,qf];omega)
      have hlen:(PV.int .i32 9676::zP c).length=c.length+1:=by rw[List.length_cons,qf]
      rw[hcut,hI,hlen]
      refine⟨by omega,by omega,zq gE ?_⟩
      simp (maxSteps:=1000000) [go_sem]
      refine zq gW ?_
      simp (maxSteps:=1000000) [go_sem]
      exact ret (hx:=by simp[go_sem,zf,leA,leT,clP])
     ·have ns:(9676::c).length≤20000:=by simp;omega
      have rs:∀x∈(9676::c),qg x:=by
       intro x hx
       simp only[List.mem_cons]at hx
       by_cases hxc:x∈c
       ·exact hr x hxc
       ·have:x=9676:=by simpa[hxc]using hx
        rw[this];exact⟨by decide,by decide⟩
      have gE:=zba (9676::c) (by simp) (by omega)
      have gW:=uQ hT (9676::c) (by omega) rs
      have hS:Z6 c=9676::c:=by rw[hsh];simp[q7,KB]
      rw[hS]
      have hI:(PV.int .i32 9676::zP c)=zP (9676::c):=by simp[zP]
      simp (maxSteps:=1000000) [go_sem,q7,hI]
      refine zq gE ?_ (ha':=by simp[go_sem])
      simp (maxSteps:=1000000) [go_sem]
      refine zq gW ?_ (ha':=by simp[go_sem])
      simp (maxSteps:=1000000) [go_sem]
      exact ret (hx:=by simp[go_sem,zf,leA,leT,clP])
    ·rw[if_neg hd]at hsh
     simp (maxSteps:=1000000) [go_sem,hd,w1,ez,lt1]
     refine zq gz ?_
     by_cases q7:bz=7
     ·have ns:(c++[9676]).length≤20000:=by simp;omega
      have rs:∀x∈(c++[9676]),qg x:=by
       intro x hx
       simp only[List.mem_cons,List.mem_append,List.not_mem_nil,or_false]at hx
       by_cases hxc:x∈c
       ·exact hr x hxc
       ·have:x=9676:=by simpa[hxc]using hx
        rw[this];exact⟨by decide,by decide⟩
      have gE:=zba (c++[9676]) (by simp) (by omega)
      have gW:=uQ hT (c++[9676]) (by omega) rs
      have hS:Z6 c=c++[9676]:=by rw[hsh];simp[q7,KB]
      rw[hS]
      have hI:zP c++[.int .i32 9676]=zP (c++[9676]):=by simp[zP]
      simp (maxSteps:=1000000) [go_sem,q7]
      have hcut:cut (zP c) 0 (c.length:Int)=zP c:=zf0 (by rw[qf])
      rw[hcut,hI,qf]
      refine⟨by omega,zq gE ?_⟩
      simp (maxSteps:=1000000) [go_sem]
      refine zq gW ?_
      simp (maxSteps:=1000000) [go_sem]
      exact ret (hx:=by simp[go_sem,zf,leA,leT,clP])
     ·have gE:=zba c h0 (by omega)
      have gW:=uQ hT c (by omega) hr
      have hS:Z6 c=c:=by rw[hsh];simp[q7]
      rw[hS]
      simp (maxSteps:=1000000) [go_sem,q7]
      refine zq gE ?_
      simp (maxSteps:=1000000) [go_sem]
      refine zq gW ?_
      simp (maxSteps:=1000000) [go_sem]
      exact ret (hx:=by simp[go_sem,zf,leA,leT,clP])
end
end Go.Proofs.YtfjdbbpimklecaaGreatDoor
