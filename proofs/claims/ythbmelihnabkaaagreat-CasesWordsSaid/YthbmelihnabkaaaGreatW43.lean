/- A part of the proof of this seat's statements, by an abstract machine: what each operation does to values, and what the law's functions compute. Conditions: as each law says. -/
import Derived.Test.YthbmelihnabkaaaGreatW42
import Derived.Test.YthbmelihnabkaaaGreatW41
section
namespace Go.Proofs.YthbmelihnabkaaaGreat
open Go.AM
set_option maxHeartbeats 4000000
set_option maxRecDepth 10000
attribute [local irreducible] za
structure Tx where
 g:List Int
 f:Nat
 t:Nat
def txR(e:PV)(x:Tx)(L:List (List Int)):List (Tok×List AV):=
 [([0],[.p e,.lp [0,1] 0,.p (zaz (pl L)),.p (.int .i64 (Zz L:Nat))]),([0,1],[.la [0,2] 1 0 x.g.length,.p (.int .i64 (x.f:Nat)),.p (.int .i64 (x.t:Nat))]),([0,2],rcs x.g)]
def txT:List Tok:=[[0],[0,1],[0,2]]
def V3:List (Tok×Tok):=[([0],[0,1]),([0,0],[0,2])]
attribute [go_sem] txR txT V3 ZN Zq
structure wK(x:Tx)(L:List (List Int)):Prop where
 ft:x.f≤x.t
 tl:x.t≤x.g.length
 n:(x.g.length:Int)≤4398046511104
 held:held x.g x.f x.t=L.flatten
 cl:ClL L
theorem wK.len {x:Tx} {L:List (List Int)}(h:wK x L):(x.g.length:Int)- (x.t-x.f)=Zz L:=by
 have:=xw x.g x.f x.t h.ft h.tl
 rw[h.held,yH]at this
 have h1:=h.ft
 have h2:=h.tl
 omega
theorem qA {e:PV}(h:qB e):∃z y,e=.pt z y:=by
 obtain⟨c,b,j,f,p,_,rfl⟩:=h
 exact⟨_,_,rfl⟩
theorem zaq [Gi](e:PV) {x:Tx} {L:List (List Int)}(h:wK x L)(a:Int):CR Tryz.prog 18 txT [.lp [0] 0,.p (.int .i64 a)] (txR e x L) (keeps (txR e x L) (.int .i64 (plc L (kf L a):Nat))):=by
 refine zcG Tryz.func18 5 [] [] [] ?_
 simp (maxSteps:=1000000) [go_sem,Tryz.f18]
 refine zk (jQ h.cl a) ?_
 simp (maxSteps:=1000000) [go_sem]
 exact Xm
theorem zai [Gi](e:PV) {x:Tx} {L:List (List Int)}(h:wK x L):CR Tryz.prog 19 txT [.lp [0] 0] (txR e x L) (keeps (txR e x L) (zh L.flatten)):=by
 refine zcG Tryz.func19 3 [] [] [] ?_
 simp (maxSteps:=1000000) [go_sem,Tryz.f19]
 refine call V3 (uy x.g x.f x.t h.ft h.tl h.n) ?_
 rintro _ _ ⟨rfl,rfl⟩
 rw[h.held]
 simp (maxSteps:=1000000) [go_sem]
 exact Xm
theorem zdT [Gi](e:PV) {x:Tx} {L:List (List Int)}(h:wK x L)(a b:Int):CR Tryz.prog 34 txT [.lp [0] 0,.p (.int .i64 a),.p (.int .i64 b)] (txR e x L) (keeps (txR e x L) (zh (sliced L.flatten a b))):=by
 refine zcG Tryz.func34 7 [] [] [] ?_
 simp (maxSteps:=1000000) [go_sem,Tryz.f34]
 refine call V3 (Kl x.g x.f x.t a b h.ft h.tl h.n) ?_
 rintro _ _ ⟨rfl,rfl⟩
 rw[h.held]
 simp (maxSteps:=1000000) [go_sem]
 exact Xm
def zoc(e:PV)(L:List (List Int)):AV→List (Tok×List AV)→Prop:=fun x rs=>∃X:Tx,wK X L∧X.g.length=Zz L+8∧x=.lp [0] 0∧rs=txR e X L
def zod(e:PV)(L:List (List Int)):AV→List (Tok×List AV)→Prop:=fun x rs=>∃X:Tx,wK X L∧X.g.length=Zz L+8∧x=.lp [18] 0∧rs=[([13,0],[.la [13,0,0] 1 0 X.g.length,.p (.int .i64 (X.f:Nat)),.p (.int .i64 (X.t:Nat))]),([13,0,0],rcs X.g),([18],[.p e,.lp [13,0] 0,.p (zaz (pl L)),.p (.int .i64 (Zz L:Nat))])]
theorem ziT(l:List Int)(hn:l.length<2^31)(hr:∀x∈l,zu x):ClL (qn za l)where
 full:=Yi l hn hr
 sum:=by rw[kd.sum];exact hn
theorem jY [Gi] {e:PV}(hT:qB e)(l:List Int)(hn:l.length<2^20)(hr:∀x∈l,zu x):CR Tryz.prog 58 [] [.p e,.p (zh l)] [] (is (.p (zh (qN za l)))):=by
 obtain⟨c,b,j,f,p,h,rfl⟩:=hT
 have:=zmt h Z0 UJ M0.1 (ZD M0.2) (qd M0.2) l hn hr
 rw[zlo]at this
 exact this
theorem zk1 [Gi] {e:PV}(hT:qB e)(l:List Int)(hn:l.length<2^20)(hr:∀x∈l,zu x)(hs:(qN za l).length≤65536):CR Tryz.prog 17 [] [.p e,.p (zh l)] [] (zoc e (qn za (qN za l))):=by
 refine CR.ren (R:=zod e (qn za (qN za l))) ?_ 100 ?_
 ·refine walk Tryz.func17 5 [] [] [] ?_
  have hr2:=kd.rune l hn hr
  have hnf:=jY hT l hn hr
  generalize qN za l=s at hs hr2 hnf
  have hcl:=ziT s (by omega) hr2
  have hio:=zeG hT s (by omega) hr2
  have hsum:Zz (qn za s)=s.length:=kd.sum s
  have hfl:(qn za s).flatten=s:=kd.flat s
  generalize qn za s=L at hcl hio hsum hfl
  obtain⟨z,y,rfl⟩:=qA hT
  simp (maxSteps:=1000000) [go_sem,Tryz.f17]
  refine zk hnf ?_
  have g:¬(65536:Int)<s.length:=by omega
  simp (maxSteps:=1000000) [go_sem,g]
  refine call [] (zhG s (by omega)) ?_
  rintro _ _ ⟨l',rfl,hl',rfl,hh⟩
  simp (maxSteps:=1000000) [go_sem]
  refine zk hio ?_
  simp (maxSteps:=1000000) [go_sem]
  refine zi [[13,0],[13,0,0],[18]] (.lp [18] 0) (by simp) (by simp[go_sem,zd,leA,leT]) ⟨⟨l',s.length,s.length+8⟩,⟨by simp,by simp[hl'],by simp only[hl'];omega,by rw[hfl];exact hh,hcl⟩,by rw[hl',hsum],rfl,?_⟩
  simp (maxSteps:=1000000) [go_sem]
 ·rintro x rs ⟨X,h1,h2,rfl,rfl⟩
  exact⟨[([0],[18]),([0,1],[13,0]),([0,2],[13,0,0])],by simp[go_sem],by simp,X,h1,h2,by simp[go_sem],by simp[go_sem]⟩
end Go.Proofs.YthbmelihnabkaaaGreat
end
section
namespace Go.Proofs.YthbmelihnabkaaaGreat
open Go.AM
set_option maxHeartbeats 4000000
set_option maxRecDepth 10000
attribute [local irreducible] za
structure Ln(l:List Int)(L:List (List Int)):Prop where
 eq:L=qn za l
 n:l.length<2^31
 r:∀x∈l,zu x
theorem Ln.cl {l:List Int} {L:List (List Int)}(h:Ln l L):ClL L where
 full:=by rw[h.eq];exact Yi l h.n h.r
 sum:=by rw[h.eq,kd.sum];exact h.n
theorem Ln.sum {l:List Int} {L:List (List Int)}(h:Ln l L):Zz L=l.length:=by rw[h.eq];exact kd.sum l
theorem Ln.flat {l:List Int} {L:List (List Int)}(h:Ln l L):L.flatten=l:=by rw[h.eq];exact kd.flat l
theorem zjI(L:List (List Int)):isB L 0=true:=by
 have:=uX L 0 (by omega)
 exact decide_eq_true (by omega)
theorem za9 {L:List (List Int)}(h:ClL L) {k:Nat}(hk:k≤L.length):isB L (plc L k)=true:=decide_eq_true (by rw[zbV h hk])
theorem zgw {L:List (List Int)}(h:ClL L) {i:Int}(hi:i<0∨(Zz L:Int)<i):isB L i=false:=by
 refine decide_eq_false (fun e=>?_)
 have:=jW h (vf L i)
 omega
theorem JL [Gi](l:List Int):CR Tryz.prog 75 [] [.p (zJ za),.p (zh l),.p (.int .i64 0)] [] (is (.p (.bool true))):=by
 refine walk Tryz.func75 9 [] [3] [] ?_
 simp (maxSteps:=1000000) [go_sem,Tryz.f75]
 exact ret
theorem kg [Gi] {l:List Int} {L:List (List Int)}(h:Ln l L)(i:Int):CR Tryz.prog 27 [] [.p (zJ za),.p (zh l),.p (.int .i64 i)] [] (is (.p (.bool (isB L i)))):=by
 refine walk Tryz.func27 7 [] [] [] ?_
 have hs:=h.sum
 by_cases c1:i<0
 ·rw[zgw h.cl (.inl c1)]
  simp (maxSteps:=1000000) [go_sem,Tryz.f27,c1]
  exact ret
 ·by_cases c2:(l.length:Int)<i
  ·rw[zgw h.cl (.inr (by omega))]
   simp (maxSteps:=1000000) [go_sem,Tryz.f27,c1,c2]
   exact ret
  ·by_cases c3:i=l.length
   ·have e:isB L i=true:=by rw[c3,←hs,←qP];exact za9 h.cl (Nat.le_refl _)
    rw[e]
    subst c3
    have c1':¬((l.length:Int)<0):=by omega
    simp (maxSteps:=1000000) [go_sem,Tryz.f27,c1']
    exact ret
   ·obtain⟨n,rfl⟩:∃n:Nat,i=n:=⟨i.toNat,by omega⟩
    have c3':¬n=l.length:=by omega
    by_cases c4:n=0
    ·subst c4
     have e:isB L ((0:Nat):Int)=true:=zjI L
     rw[e]
     have c2':¬((l.length:Int)<0):=by omega
     have c5:¬(0:Int)=l.length:=by omega
     have c6:¬l=[]:=fun e=>by subst e;simp at c3
     simp (maxSteps:=1000000) [go_sem,Tryz.f27,c2',c5]
     refine zk (JL l) ?_
     simp (maxSteps:=1000000) [go_sem]
     exact ret
    ·obtain⟨m,rfl⟩:∃m,n=m+1:=⟨n-1,by omega⟩
     have hb:=V8 Zr l (m+1) m rfl (by omega) h.n h.r
     rw[KM l L h.eq h.cl m (by omega)]at hb
     generalize isB L ((m+1:Nat):Int)=q at hb
     have c1':¬((m:Int)+1<0):=by omega
     have c2':¬((l.length:Int)< (m:Int)+1):=by omega
     have c3'':¬((m:Int)+1=l.length):=by omega
     simp (maxSteps:=1000000) [go_sem,Tryz.f27,c1',c2',c3'']
     refine zk hb ?_
     simp (maxSteps:=1000000) [go_sem]
     exact ret
theorem zf4 {L:List (List Int)}(h:ClL L) {i:Nat}(_:(i:Int)≤Zz L)(hb:isB L i=false):∃j,i=j+1∧kf L (j:Nat)=kf L (i:Nat):=by
 have q1:=uX L i (by omega)
 have q2:=YC L i
 have q3:=vf L i
 have hne:¬(plc L (kf L i):Int)=i:=of_decide_eq_false hb
 exact⟨i-1,by omega,Kv h q3 (by omega) (fun c=>by have:=q2 c;omega)⟩
theorem zg0 [Gi] {l:List Int} {L:List (List Int)}(h:Ln l L)(a:Int):CR Tryz.prog 26 [] [.p (zJ za),.p (zh l),.p (.int .i64 a)] [] (is (.p (.int .i64 (plc L (kf L a):Nat)))):=by
 refine walk Tryz.func26 7 [] [] [] ?_
 have hs:=h.sum
 have hcl:=h.cl
 have hln:=h.n
 by_cases c1:a<0
 ·rw[zbl L c1,Zy]
  have c2:¬(l.length:Int)<a:=by omega
  have c3:¬0<a:=by omega
  simp (maxSteps:=1000000) [go_sem,Tryz.f26,c2]
  refine loop (fun _:Unit=>True) (fun _=>[]) (fun _=>[]) (fun _=>0) () trivial (fun _ _=>?_)
  simp (maxSteps:=1000000) [go_sem,c1,c3]
  exact ret
 ·obtain⟨i0,hi0,hle,hk⟩:∃i0:Nat,(i0:Int)=min a l.length∧i0≤l.length∧kf L a=kf L (i0:Nat):=by
   by_cases c2:(l.length:Int)≤a
   ·exact⟨l.length,by omega,Nat.le_refl _,by rw[zaX hcl (by omega),zaX hcl (by omega)]⟩
   ·exact⟨a.toNat,by omega,by omega,by congr 1;omega⟩
  rw[hk]
  obtain⟨N,hN⟩:∃N,N=plc L (kf L (i0:Nat)):=⟨_,rfl⟩
  rw[←hN]
  by_cases c2:(l.length:Int)<a
  ·have e:i0=l.length:=by omega
   simp (maxSteps:=1000000) [go_sem,Tryz.f26,c2]
   refine loop (fun i:Nat=>i≤l.length∧N=plc L (kf L (i:Nat))) (fun i=>[(2,.p (.int .i64 (i:Nat)))]) (fun _=>[]) (fun i=>i) l.length ⟨Nat.le_refl _,by rw[hN,e]⟩ (fun i hi=>?_)
   obtain⟨h1,h2⟩:=hi
   by_cases c3:isB L i=true
   ·have e:N=i:=by have:(plc L (kf L i):Int)=i:=of_decide_eq_true c3;omega
    rw[e]
    by_cases c4:i=0
    ·subst c4
     simp (maxSteps:=1000000) [go_sem]
     exact ret
    ·have c4':(0:Int)<i:=by omega
     have c4'':0<i:=by omega
     have c5:¬(i:Int)<0:=by omega
     simp (maxSteps:=1000000) [go_sem,c4'',c5]
     refine zk (kg h i) ?_
     simp (maxSteps:=1000000) [go_sem,c3,c5]
     exact ret
   ·have c3':isB L i=false:=by simpa using c3
    obtain⟨j,hij,hj⟩:=zf4 hcl (by omega) c3'
    have c4:(0:Int)<i:=by omega
    have c4':0<i:=by omega
    have w:IntKind.i64.wrap ((i:Int)-1)=(j:Int):=zq (by omega) hij
    simp (maxSteps:=1000000) [go_sem,c4']
    refine zk (kg h i) ?_
    simp (maxSteps:=1000000) [go_sem,c3',w]
    exact next j ⟨by omega,by rw[h2,hj]⟩ (by omega)
  ·have e:(i0:Int)=a:=by omega
   subst e
   have c2':¬l.length<i0:=by omega
   simp (maxSteps:=1000000) [go_sem,Tryz.f26,c2]
   refine loop (fun i:Nat=>i≤l.length∧N=plc L (kf L (i:Nat))) (fun i=>[(2,.p (.int .i64 (i:Nat)))]) (fun _=>[]) (fun i=>i) i0 ⟨hle,hN⟩ (fun i hi=>?_)
   obtain⟨h1,h2⟩:=hi
   by_cases c3:isB L i=true
   ·have e:N=i:=by have:(plc L (kf L i):Int)=i:=of_decide_eq_true c3;omega
    rw[e]
    by_cases c4:i=0
    ·subst c4
     simp (maxSteps:=1000000) [go_sem]
     exact ret
    ·have c4':(0:Int)<i:=by omega
     have c4'':0<i:=by omega
     have c5:¬(i:Int)<0:=by omega
     simp (maxSteps:=1000000) [go_sem,c4'',c5]
     refine zk (kg h i) ?_
     simp (maxSteps:=1000000) [go_sem,c3,c5]
     exact ret
   ·have c3':isB L i=false:=by simpa using c3
    obtain⟨j,hij,hj⟩:=zf4 hcl (by omega) c3'
    have c4:(0:Int)<i:=by omega
    have c4':0<i:=by omega
    have w:IntKind.i64.wrap ((i:Int)-1)=(j:Int):=zq (by omega) hij
    simp (maxSteps:=1000000) [go_sem,c4']
    refine zk (kg h i) ?_
    simp (maxSteps:=1000000) [go_sem,c3',w]
    exact next j ⟨by omega,by rw[h2,hj]⟩ (by omega)
theorem zjr [Gi] {l:List Int} {L:List (List Int)}(h:Ln l L) {k:Nat}(hk:k<L.length):CR Tryz.prog 77 [] [.p (zJ za),.p (zh l),.p (.int .i64 (plc L k:Nat))] [] (is (.p (.int .i64 (plc L (k+1):Nat)))):=by
 have hlt:plc L k<l.length:=by have:=Zx h.cl hk (Nat.le_refl _);rw[qP,h.sum]at this;exact this
 have:=ziY Zr l (plc L k) hlt h.n h.r
 rw[Yv l _ hlt,←h.eq,zbV h.cl (by omega)]at this
 exact this
end Go.Proofs.YthbmelihnabkaaaGreat
end
section
namespace Go.Proofs.YthbmelihnabkaaaGreat
open Go.AM
set_option maxHeartbeats 4000000
set_option maxRecDepth 100000
def zbD(v:Row):Bool:=decide (v.a=4) || decide (v.a=5) || decide (v.a=8)
def zow:Bool:=((yA 5).filter fun w=>decide (w.a=1)).all fun w=>(decide (w.t<44032) || decide (55203<w.f))&&(yA 4).all fun v=>ze5 w v || zbD v
def zoL:Bool:=((yA 6).filter fun w=>decide (w.a=2)).all fun w=>(decide (w.t<44032) || decide (55203<w.f))&&(yA 4).all fun v=>ze5 w v || zbD v
theorem ziW:zow=true:=by decide+kernel
theorem zjH:zoL=true:=by decide+kernel
attribute [local irreducible] za
theorem Xw {k n x:Int}(hf:(((yA k).filter fun w=>decide (w.a=n)).all fun w=>(decide (w.t<44032) || decide (55203<w.f))&&(yA 4).all fun v=>ze5 w v || zbD v)=true)(h:aL za k x=n)(hn:n≠0):
  zL za x=0∨zL za x=4∨zL za x=5∨zL za x=8:=by
 obtain⟨w,h1,h2,h3,h4⟩:=row_in (k:=k) (x:=x) (by rw[h];exact hn)
 have f:=List.all_eq_true.1 hf w (List.mem_filter.2 ⟨h1,decide_eq_true (by omega)⟩)
 simp only[Bool.and_eq_true,Bool.or_eq_true,decide_eq_true_eq]at f
 by_cases b0:zL za x=0
 ·exact .inl b0
 ·have e:zL za x=aL za 4 x:=by unfold zL;rw[if_neg (by omega)]
  obtain⟨v,g1,g2,g3,g4⟩:=row_in (k:=4) (x:=x) (by rw[←e];exact b0)
  have f2:=List.all_eq_true.1 f.2 v g1
  rw[zbt h2 h3 g2 g3]at f2
  simp only[zbD,Bool.false_or,Bool.or_eq_true,decide_eq_true_eq]at f2
  omega
theorem zfO {x:Int}(h:aL za 5 x=1):zL za x=0∨zL za x=4∨zL za x=5∨zL za x=8:=Xw ziW h (by decide)
theorem zfy {x:Int}(h:ZI za x=2):zL za x=0∨zL za x=4∨zL za x=5∨zL za x=8:=by
 unfold ZI at h
 split at h
 ·exact Xw zjH h (by decide)
 ·split at h<;>exact absurd h (by decide)
def Yo(p x:Int):Bool:=
 if zL za x=6 then decide (zL za p=6)
 else if zL za x=0 then((decide (zL za p=5)&&pcD x) || (decide (ZI za x=2)&&decide (ZI za p≠0)&&decide (ZI za p≠2)))
 else false
theorem zko {p x:Int}(h1:y9 za p [] x=true)(h2:Yo p x=false)(pre:List Int):y9 za p pre x=true:=by
 unfold y9 at h1⊢
 by_cases c1:zL za p=1∧zL za x=2
 ·rw[if_pos c1]at h1;exact absurd h1 (by decide)
 rw[if_neg c1]at h1⊢
 by_cases c2:(QZ (zL za p) || QZ (zL za x))=true
 ·rw[if_pos c2]
 rw[if_neg c2]at h1⊢
 by_cases c3:QD (zL za p) (zL za x)=true
 ·rw[if_pos c3]at h1;exact absurd h1 (by decide)
 rw[if_neg c3]at h1⊢
 by_cases c4:zL za x=4∨zL za x=5∨zL za x=8∨zL za p=7
 ·rw[if_pos c4]at h1;exact absurd h1 (by decide)
 rw[if_neg c4]
 unfold Yo at h2
 have hc:We za (p::pre) x=false:=by
  unfold We
  split
  ·rename_i hx
   have hb:zL za x=0:=by have:=zfy hx;omega
   rw[if_neg (by omega),if_pos hb]at h2
   simp only[Bool.or_eq_false_iff,Bool.and_eq_false_iff,decide_eq_false_iff_not]at h2
   rw[Qw]
   by_cases q:ZI za p=2
   ·rw[if_pos q]
   ·rw[if_neg q,if_pos (by omega)]
  ·rfl
 have hp:u9 za p pre x=false:=by
  unfold u9
  split
  ·rename_i hx
   have hb:zL za x=0:=by have:=zfO hx;omega
   rw[if_neg (by omega),if_pos hb]at h2
   simp only[Bool.or_eq_false_iff,Bool.and_eq_false_iff,decide_eq_false_iff_not,pcD]at h2
   rw[if_neg (by omega)]
  ·rfl
 have hf:ue za (p::pre) x=false:=by
  unfold ue
  split
  ·rename_i hx
   rw[if_pos hx]at h2
   have h2':=of_decide_eq_false h2
   rw[QA,if_neg h2'];rfl
  ·rfl
 rw[hc,hp,hf];rfl
theorem zan [Gi] {e:PV}(hT:qB e) {r:Int}(hr:zu r):CR Tryz.prog 193 [] [.p e,.p (.int .i32 r)] [] (is (.p (.int .i64 (zL za r)))):=by
 obtain⟨c,b,j,f,p,h,rfl⟩:=hT
 rw[←JQ]
 exact VO h _ _ _ _ Z0 hr
theorem zcX [Gi] {e:PV}(hT:qB e) {r:Int}(hr:zu r):CR Tryz.prog 195 [] [.p e,.p (.int .i32 r)] [] (is (.p (.int .i64 (ZI za r)))):=by
 obtain⟨c,b,j,f,p,h,rfl⟩:=hT
 rw[←zb8]
 exact zdr h _ _ _ _ Z0 hr
theorem zjV [Gi] {e:PV}(hT:qB e) {r:Int}(hr:zu r):CR Tryz.prog 194 [] [.p e,.p (.int .i32 r)] [] (is (.p (.bool (pcD r)))):=by
 obtain⟨c,b,j,f,p,h,rfl⟩:=hT
 rw[pcD,←zga]
 exact zch h _ _ _ _ Z0 hr
theorem zfR [Gi] {e:PV}(hT:qB e) {r:Int}(hr:zu r):CR Tryz.prog 172 [] [.p e,.p (.int .i32 r)] [] (is (.p (.bool (decide (aL za 8 r=1))))):=by
 obtain⟨c,b,j,f,p,h,rfl⟩:=hT
 rw[←zlx]
 exact zep h _ _ _ _ Z0 hr
theorem zcn [Gi] {e:PV}(hT:qB e) {p x:Int}(hp:zu p)(hx:zu x):CR Tryz.prog 200 [] [.p e,.p (.int .i32 p),.p (.int .i32 x)] [] (is (.p (.bool (Yo p x)))):=by
 refine walk Tryz.func200 7 [9,10,16] [] [] ?_
 have b1:=zan hT hp
 have b2:=zan hT hx
 have k1:=zcX hT hp
 have k2:=zcX hT hx
 have k3:=zjV hT hx
 unfold Yo
 generalize zL za p=bp at b1
 generalize zL za x=bx at b2
 generalize ZI za p=cp at k1
 generalize ZI za x=cx at k2
 generalize pcD x=px at k3
 simp (maxSteps:=1000000) [go_sem,Tryz.f200]
 refine zk b2 ?_
 by_cases c1:bx=6
 ·simp (maxSteps:=1000000) [go_sem,c1]
  refine zk b1 ?_
  simp (maxSteps:=1000000) [go_sem]
  exact ret
 by_cases c2:bx=0
 ·simp (maxSteps:=1000000) [go_sem,c2]
  refine zk b1 ?_
  by_cases c3:bp=5
  ·simp (maxSteps:=1000000) [go_sem,c3]
   refine zk k3 ?_
   cases px with
   |true=>
    simp (maxSteps:=1000000) [go_sem]
    exact ret
   |false=>
    simp (maxSteps:=1000000) [go_sem]
    refine zk k2 ?_
    by_cases c4:cx=2
    ·simp (maxSteps:=1000000) [go_sem,c4]
     refine zk k1 ?_
     by_cases c5:cp=0
     ·simp (maxSteps:=1000000) [go_sem,c5]
      exact ret
     ·simp (maxSteps:=1000000) [go_sem,c5]
      refine zk k1 ?_
      simp (maxSteps:=1000000) [go_sem]
      exact ret
    ·simp (maxSteps:=1000000) [go_sem,c4]
     exact ret
  ·simp (maxSteps:=1000000) [go_sem,c3]
   refine zk k2 ?_
   by_cases c4:cx=2
   ·simp (maxSteps:=1000000) [go_sem,c4]
    refine zk k1 ?_
    by_cases c5:cp=0
    ·simp (maxSteps:=1000000) [go_sem,c5]
     exact ret
    ·simp (maxSteps:=1000000) [go_sem,c5]
     refine zk k1 ?_
     simp (maxSteps:=1000000) [go_sem]
     exact ret
   ·simp (maxSteps:=1000000) [go_sem,c4]
    exact ret
 ·simp (maxSteps:=1000000) [go_sem,c1,c2]
  exact ret
theorem y7 [Gi] {e:PV}(hT:qB e) {l:List Int} {L:List (List Int)}(h:Ln l L) {k:Nat}(hk:k<L.length):CR Tryz.prog 136 [] [.p e,.p (zh l),.p (.int .i64 (plc L k:Nat))] [] (is (.p (.int .i64 (plc L (k+1):Nat)))):=by
 have hlt:plc L k<l.length:=by have:=Zx h.cl hk (Nat.le_refl _);rw[qP,h.sum]at this;exact this
 obtain⟨c,b,j,f,p,hv,rfl⟩:=hT
 have hd:=List.drop_eq_getElem_cons hlt
 have:=zkS hv Z0 (ckP M0.1) (cxP M0.1) (ZD M0.2) (qd M0.2) l h.n h.r (plc L k) l[plc L k] _ hd
 have hb:Beg (l.take (plc L k)).reverse l[plc L k]:=by
  by_cases c0:plc L k=0
  ·left;simp[c0]
  ·obtain⟨i,hi⟩:∃i,plc L k=i+1:=⟨plc L k-1,by omega⟩
   have hb:=KM l L h.eq h.cl i (by omega)
   have hb2:isB L ((i+1:Nat):Int)=true:=by rw[←hi];exact za9 h.cl (by omega)
   rw[hb2]at hb
   refine .inr ⟨l[i]'(by omega),(l.take i).reverse,?_,?_⟩
   ·rw[hi];exact uL (by omega)
   ·simp only[hi];exact hb
 have e:yp T0 (Zf T0 Qy l[plc L k]).1 (l.drop (plc L k+1))=jd za l[plc L k] (l.take (plc L k)).reverse (l.drop (plc L k+1)):=by
  rw[yP]
  exact zbx _ _ _ _ (VY.start hb)
 rw[e,Yv l _ hlt,←h.eq,zbV h.cl (by omega)]at this
 exact this
theorem ziJ [Gi](e:PV)(l:List Int):CR Tryz.prog 136 [] [.p e,.p (zh l),.p (.int .i64 (l.length:Nat))] [] (is (.p (.int .i64 (l.length:Nat)))):=by
 refine walk Tryz.func136 11 [] [200007] [] ?_
 have g1:¬(l.length:Int)<0:=by omega
 simp (maxSteps:=1000000) [go_sem,Tryz.f136,g1]
 exact ret
end Go.Proofs.YthbmelihnabkaaaGreat
end
section
namespace Go.Proofs.YthbmelihnabkaaaGreat
open Go.AM
set_option maxHeartbeats 4000000
set_option maxRecDepth 10000
attribute [local irreducible] za
def zl2:OT:=.now 0 0 (.now 1 0 (.now 2 0 (.now 3 0 (.now 4 0 (.now 5 0 (.now 6 0 (.mk [(7,.now 8 0 (.now 9 0 (.now 10 2 (.mk [(11,.mk [])]))))])))))))
def zi0(L:List (List Int))(a:Nat):AV→List (Tok×List AV)→Prop:=fun y rs=>∃k,(k<L.length∧plc L k≤a∧y=.p (.int .i64 (plc L k:Nat)))∧rs=[]
theorem zlk [Gi] {e:PV}(hT:qB e) {l:List Int} {L:List (List Int)}(h:Ln l L)(a:Nat)(ha:a<l.length):CR Tryz.prog 171 [] [.p e,.p (zh l),.p (.int .i64 a)] [] (zi0 L a):=by
 refine walk Tryz.func171 10 [] [200004,200005] [] ?_
 have hs:=h.sum
 have hcl:=h.cl
 have hln:=h.n
 have h0:0<L.length:=by
  cases L with
  |nil=>rw[show Zz []=0 from rfl]at hs;omega
  |cons c L=>simp
 simp (maxSteps:=1000000) [go_sem,Tryz.f171]
 refine loop (fun i:Nat=>i≤a) (fun i=>[(2,.p (.int .i64 (i:Nat))),(7,.zU),(8,.zU),(9,.zU)]) (fun _=>[]) (fun i=>i) a (Nat.le_refl _) (fun i hi=>?_)
 by_cases c0:i=0
 ·subst c0
  simp (maxSteps:=1000000) [go_sem]
  exact zg (.p (.int .i64 0)) rfl (by simp[go_sem,zd,leA,leT]) ⟨0,⟨h0,by rw[Zy];omega,by rw[Zy];rfl⟩,rfl⟩
 ·obtain⟨j,hj⟩:∃j,i=j+1:=⟨i-1,by omega⟩
  have c1:(0:Int)<i:=by omega
  have c1':0<i:=by omega
  have w1:IntKind.i64.wrap ((i:Int)-1)=(j:Int):=zq (by omega) hj
  have hjl:j<l.length:=by omega
  have hil:i<l.length:=by omega
  obtain⟨p,hp⟩:∃p,l[j]=p:=⟨_,rfl⟩
  obtain⟨x,hx⟩:∃x,l[i]=x:=⟨_,rfl⟩
  have em1:elemAt (zr l) j=.int .i32 p:=by rw[Qv hjl,hp]
  have em2:elemAt (zr l) i=.int .i32 x:=by rw[Qv hil,hx]
  have hpr:zu p:=h.r p (by rw[←hp];exact List.getElem_mem _)
  have hxr:zu x:=h.r x (by rw[←hx];exact List.getElem_mem _)
  have g1:(j:Int)<l.length:=by omega
  have g2:(i:Int)<l.length:=by omega
  have hst:=JA hT (Zf T0 Qy p).1 x hxr
  have hcut:(Zf T0 (Zf T0 Qy p).1 x).2=y9 za p [] x:=by
   have e1:(Zf T0 Qy p).1=Zn Qy (zL za p) (pcD p) (ZI za p):=by rw[yP]
   rw[e1,yP]
   have hv:=VY.start (pre:=[]) (x:=p) (.inl rfl)
   have:=hv.cut x
   simp only[hv.so,Bool.not_true,Bool.false_or]
   exact this
  have hall:y9 za p [] x=true→Yo p x=false→∃k,k<L.length∧plc L k=i:=fun b1 b2=>by
   have b3:=KM l L h.eq hcl j (by omega)
   simp only[hp,←hj,hx]at b3
   rw[zko b1 b2]at b3
   have b4:(plc L (kf L i):Int)=i:=of_decide_eq_true b3.symm
   exact⟨kf L i,Vw hcl (by omega) (by omega),by omega⟩
  simp (maxSteps:=1000000) [go_sem,c1']
  refine Zh zl2 (by kernel_rfl) ?_
  simp (maxSteps:=1000000) [go_sem,zl2,w1,em1,g1]
  refine zk (JA hT Qy p hpr) ?_ (ha':=by simp[go_sem,jT,Qy])
  simp (maxSteps:=1000000) [go_sem,jT]
  refine Zh zgx (by kernel_rfl) ?_
  simp (maxSteps:=1000000) [go_sem,zgx,em2,g2]
  constructor
  ·refine zk hst ?_ (ha':=by simp[go_sem,jT])
   rw[hcut]
   cases hb:y9 za p [] x with
   |true=>
    simp (maxSteps:=1000000) [go_sem,jT,w1,em1,em2,g1,g2]
    refine zk (zcn hT hpr hxr) ?_
    cases hh:Yo p x with
    |true=>
     simp (maxSteps:=1000000) [go_sem,w1]
     exact next j (by omega) (by omega)
    |false=>
     obtain⟨k,k1,k2⟩:=hall hb hh
     simp (maxSteps:=1000000) [go_sem]
     exact zg (.p (.int .i64 (i:Nat))) rfl (by simp[go_sem,zd,leA,leT]) ⟨k,⟨k1,by omega,by rw[k2]⟩,rfl⟩
   |false=>
    simp (maxSteps:=1000000) [go_sem,jT,w1,em1,em2,g1,g2]
    exact next j (by omega) (by omega)
  ·refine zk hst ?_ (ha':=by simp[go_sem,jT])
   rw[hcut]
   cases hb:y9 za p [] x with
   |true=>
    simp (maxSteps:=1000000) [go_sem,jT,w1,em1,em2,g1,g2]
    refine zk (zcn hT hpr hxr) ?_
    cases hh:Yo p x with
    |true=>
     simp (maxSteps:=1000000) [go_sem,w1]
     exact next j (by omega) (by omega)
    |false=>
     obtain⟨k,k1,k2⟩:=hall hb hh
     simp (maxSteps:=1000000) [go_sem]
     exact zg (.p (.int .i64 (i:Nat))) rfl (by simp[go_sem,zd,leA,leT]) ⟨k,⟨k1,by omega,by rw[k2]⟩,rfl⟩
   |false=>
    simp (maxSteps:=1000000) [go_sem,jT,w1,em1,em2,g1,g2]
    exact next j (by omega) (by omega)
end Go.Proofs.YthbmelihnabkaaaGreat
end
section
namespace Go.Proofs.YthbmelihnabkaaaGreat
open Go.AM
set_option maxHeartbeats 1000000
set_option maxRecDepth 10000
attribute [local irreducible] za
theorem Xr(t:zR):∀(xs ys:List Int) (s:xe) (m:Nat),yp t s xs<m→m≤xs.length→xs.take m=ys.take m→yp t s ys=yp t s xs
 |xs,ys,_,0,h,_,_=>absurd h (Nat.not_lt_zero _)
 | [],_,_,m+1,_,h,_=>by simp at h
 |x::xs,[],_,m+1,_,_,h=>by simp at h
 |x::xs,y::ys,s,m+1,h1,h2,h3=>by
  simp only[List.take_succ_cons,List.cons.injEq]at h3
  obtain⟨rfl,h3⟩:=h3
  unfold yp at h1⊢
  split
  ·rfl
  ·rename_i hc
   rw[if_neg hc]at h1
   rw[Xr t xs ys _ m (by omega) (by simpa using h2) h3]
theorem XP(t:zR):∀(k:Nat) (l l':List Int) (n:Nat),plc (ku t l) k<n→k≤(ku t l).length→n≤l.length→l.take n=l'.take n→(ku t l').take k=(ku t l).take k
 |0,_,_,_,_,_,_,_=>by simp
 |k+1,[],_,_,_,h,_,_=>by simp[ku,xx]at h
 |k+1,x::xs,l',n,h1,h2,h3,h4=>by
  rw[Wk]at h1 h2⊢
  obtain⟨r,hr⟩:∃r,r=yp t (Zf t Qy x).1 xs:=⟨_,rfl⟩
  have hrl:=zbi t xs (Zf t Qy x).1
  rw[←hr]at h1 h2 hrl⊢
  rw[k8]at h1
  simp only[List.length_cons,List.length_take]at h1 h2 h3
  obtain⟨n,rfl⟩:∃n',n=n'+1:=⟨n-1,by omega⟩
  cases l' with
  |nil=>simp at h4
  |cons y ys=>
   simp only[List.take_succ_cons,List.cons.injEq]at h4
   obtain⟨rfl,h4⟩:=h4
   have er:yp t (Zf t Qy x).1 ys=r:=by rw[hr];exact Xr t xs ys _ n (by rw[←hr];omega) (by omega) h4
   have e1:ys.take r=xs.take r:=by
    have:=congrArg (List.take r) h4
    rw[List.take_take,List.take_take,Nat.min_eq_left (by omega)]at this
    exact this.symm
   have e2:(xs.drop r).take (n-r)=(ys.drop r).take (n-r):=by
    have:=congrArg (List.drop r) h4
    rw[List.drop_take,List.drop_take]at this
    exact this
   rw[Wk,er,e1,List.take_succ_cons,List.take_succ_cons]
   congr 1
   exact XP t k _ _ (n-r) (by omega) (by omega) (by rw[List.length_drop];omega) e2
theorem Uy(t:zR):∀(k:Nat) (l:List Int),k≤(ku t l).length→ku t (l.drop (plc (ku t l) k))=(ku t l).drop k
 |0,l,_=>by rw[Zy];simp
 |k+1,[],h=>by simp[ku,xx]at h
 |k+1,x::xs,h=>by
  rw[Wk]at h⊢
  obtain⟨r,hr⟩:∃r,r=yp t (Zf t Qy x).1 xs:=⟨_,rfl⟩
  have hrl:=zbi t xs (Zf t Qy x).1
  rw[←hr]at h hrl⊢
  have e:(x::xs.take r).length=r+1:=by rw[List.length_cons,List.length_take];omega
  rw[k8,e,List.drop_succ_cons]
  have e2:(x::xs).drop (r+1+plc (ku t (xs.drop r)) k)=(xs.drop r).drop (plc (ku t (xs.drop r)) k):=by
   have:r+1+plc (ku t (xs.drop r)) k=(r+plc (ku t (xs.drop r)) k)+1:=by omega
   rw[this,List.drop_succ_cons,List.drop_drop]
  rw[e2]
  exact Uy t k (xs.drop r) (by simpa using h)
theorem zcL(L:List (List Int))(i d:Nat):plc L (i+d)=plc L i+plc (L.drop i) d:=by
 unfold plc Zz
 rw[List.take_add,List.map_append,List.sum_append]
theorem zeC {l l':List Int} {L L':List (List Int)}(hL:L=qn za l)(hL':L'=qn za l') {b k:Nat}(hb:b≤l.length)(hs:l.take b=l'.take b)(hk:k≤L.length)(hp:k=0∨plc L k<b):L'.take k=L.take k:=by
 rcases hp with rfl|hp
 ·simp
 ·subst hL;subst hL'
  rw[←W7,←W7]at*
  exact XP T0 k l l' b hp hk hb hs
theorem zho {l l':List Int} {L L':List (List Int)}(hL:L=qn za l)(hL':L'=qn za l') {i j:Nat}(hi:i≤L'.length)(hj:j≤L.length)(hs:l.drop (plc L j)=l'.drop (plc L' i)):L'.drop i=L.drop j:=by
 subst hL;subst hL'
 rw[←W7]at*
 rw[←W7]at*
 rw[←Uy T0 i l' hi,←Uy T0 j l hj,hs]
end Go.Proofs.YthbmelihnabkaaaGreat
end
section
namespace Go.Proofs.YthbmelihnabkaaaGreat
open Go.AM
set_option maxHeartbeats 4000000
set_option maxRecDepth 10000
theorem ziu(l:List Int)(f t k:Nat)(h1:f≤t)(h2:t≤l.length)(h:k≤f):
  held (l.take (k+t-f)++((l.drop k).take (f-k)++l.drop t)) k (k+t-f)=held l f t:=by
 unfold held
 (apply List.ext_getElem?;intro j;simp only[List.getElem?_append,List.getElem?_take,List.getElem?_drop,List.length_append,List.length_take,List.length_drop];(repeat' split);all_goals first|rfl|omega|(congr 1;omega)|(symm;apply List.getElem?_eq_none;omega)|(apply List.getElem?_eq_none;omega))
theorem zlr(l:List Int)(f t k:Nat)(h1:f≤t)(h2:t≤l.length)(h:f≤k)(h4:k+t≤l.length+f):
  held (l.take f++((l.drop t).take (k-f)++l.drop k)) k (k+t-f)=held l f t:=by
 unfold held
 (apply List.ext_getElem?;intro j;simp only[List.getElem?_append,List.getElem?_take,List.getElem?_drop,List.length_append,List.length_take,List.length_drop];(repeat' split);all_goals first|rfl|omega|(congr 1;omega)|(symm;apply List.getElem?_eq_none;omega)|(apply List.getElem?_eq_none;omega))
def zog(l:List Int)(f t at_:Nat):AV→List (Tok×List AV)→Prop:=fun _ rs=>∃l',rs=ZN l' at_ (at_+t-f)∧l'.length=l.length∧held l' at_ (at_+t-f)=held l f t
theorem zfw [Gi](l:List Int)(f t at_:Nat)(h1:f≤t)(h2:t≤l.length)(h3:(l.length:Int)≤140737488355328)(h4:at_+t≤l.length+f):
  CR Tryz.prog 167 Zq [.lp [0] 0,.p (.int .i64 at_)] (ZN l f t) (zog l f t at_):=by
 refine zn mixed 6 [] Tryz.func167 rfl (by kernel_rfl) rfl (by simp) (by simp) ?_
 simp (maxSteps:=1000000) [go_sem,Tryz.f167,ZN,Zq]
 refine zw (fun h=>?_) (fun h=>?_)
 ·simp (maxSteps:=1000000) (disch:=omega) [go_sem,wrap64]
  have e1:((t:Int)- ((f:Int)- (at_:Int))).toNat=at_+t-f:=by omega
  have e2:at_+t-f+(f-at_)=t:=by omega
  have e3:((t:Int)- ((f:Int)- (at_:Int)))=((at_+t-f:Nat):Int):=by omega
  refine⟨by omega,by omega,by omega,?_⟩
  rw[e1,e2,e3,List.take_take,Nat.min_self]
  refine zi Zq (.tup []) (by simp[Zq]) (by simp (maxSteps:=1000000) [go_sem,zd]) ?_
  refine⟨_,?_,?_,ziu l f t at_ h1 h2 (by omega)⟩
  ·simp (maxSteps:=1000000) [go_sem,Zq,ZN];omega
  ·simp;omega
 ·simp (maxSteps:=1000000) (disch:=omega) [go_sem]
  refine zw (fun h'=>?_) (fun h'=>?_)
  ·simp (maxSteps:=1000000) (disch:=omega) [go_sem,wrap64]
   have e1:((t:Int)+((at_:Int)- (f:Int))).toNat-t=at_-f:=by omega
   have e2:f+(at_-f)=at_:=by omega
   have e3:((t:Int)+((at_:Int)- (f:Int)))=((at_+t-f:Nat):Int):=by omega
   refine⟨by omega,by omega,by omega,?_⟩
   rw[e1,e2,e3,List.take_take,Nat.min_self]
   refine zi Zq (.tup []) (by simp[Zq]) (by simp (maxSteps:=1000000) [go_sem,zd]) ?_
   refine⟨_,?_,?_,zlr l f t at_ h1 h2 (by omega) h4⟩
   ·simp (maxSteps:=1000000) [go_sem,Zq,ZN];omega
   ·simp;omega
  ·simp (maxSteps:=1000000) (disch:=omega) [go_sem]
   have e:f=at_:=by omega
   subst e
   have e2:f+t-f=t:=by omega
   refine zi Zq (.tup []) (by simp[Zq]) (by simp (maxSteps:=1000000) [go_sem,zd]) ?_
   refine⟨l,?_,rfl,by rw[e2]⟩
   rw[e2]
   simp (maxSteps:=1000000) [go_sem,Zq,ZN]
def znX(l:List Int)(f t n:Nat):AV→List (Tok×List AV)→Prop:=fun _ rs=>∃l' t',rs=ZN l' f t'∧f+n≤t'∧t'≤l'.length∧(l'.length=l.length∨t<f+n∧l'.length=2*l.length+n)∧held l' f t'=held l f t
def zoi(l:List Int)(f t n:Nat):AV→List (Tok×List AV)→Prop:=fun _ rs=>∃(l':List Int) (t':Nat) (u:Tok),(u=[0,0]∨u=[25])∧rs=[([0],[.la u 1 0 l'.length,.p (.int .i64 (f:Int)),.p (.int .i64 (t':Int))]),(u,rcs l')]∧f+n≤t'∧t'≤l'.length∧(l'.length=l.length∨t<f+n∧l'.length=2*l.length+n)∧held l' f t'=held l f t
theorem zgS(l:List Int)(f t n T N:Nat)(h1:f≤t)(h2:t≤l.length)(hN:N=2*l.length+n)(hT:T+l.length=N+t):
  held ((l.take f++List.replicate (N-f) 0).take T++((l.drop t).take (l.length-t)++(l.take f++List.replicate (N-f) 0).drop (T+(l.length-t)))) f T=held l f t:=by
 unfold held
 (apply List.ext_getElem?;intro j;simp only[List.getElem?_append,List.getElem?_take,List.getElem?_drop,List.length_append,List.length_take,List.length_drop,List.getElem?_replicate,List.length_replicate];(repeat' split);all_goals first|rfl|omega|(congr 1;omega)|(symm;apply List.getElem?_eq_none;omega)|(apply List.getElem?_eq_none;omega))
theorem ze7 [Gi](l:List Int)(f t n:Nat)(h1:f≤t)(h2:t≤l.length)(h3:(2*l.length+n:Int)≤17592186044416):
  CR Tryz.prog 168 [[0]] [.lp [0] 0,.p (.int .i64 n)] (ZN l f t) (znX l f t n):=by
 refine CR.ren (R:=zoi l f t n) ?_ 100 ?_
 ·refine zn mixed 6 [] Tryz.func168 rfl (by kernel_rfl) rfl (by simp) (by simp) ?_
  simp (maxSteps:=1000000) (disch:=omega) [go_sem,Tryz.f168,ZN,wrap64]
  refine zw (fun h=>?_) (fun h=>?_)
  ·simp (maxSteps:=1000000) (disch:=omega) [go_sem]
   refine zi [[0],[0,0]] (.tup []) (by simp) (by simp (maxSteps:=1000000) [go_sem,zd]) ?_
   refine⟨l,t,[0,0],.inl rfl,?_,by omega,h2,.inl rfl,rfl⟩
   simp (maxSteps:=1000000) [go_sem]
  ·obtain⟨N,hN⟩:∃N:Nat,N=2*l.length+n:=⟨_,rfl⟩
   obtain⟨T,hT⟩:∃T:Nat,T+l.length=N+t:=⟨N+t-l.length,by omega⟩
   have hN':(2*(l.length:Int)+n)=N:=by omega
   have hT':((N:Int)- (l.length-t))=T:=by omega
   simp (maxSteps:=1000000) (disch:=omega) [go_sem,wrap64,hN',hT']
   refine⟨by omega,by omega,by omega,by omega,by omega,by omega,?_⟩
   refine zi [[0],[25]] (.tup []) (by simp) (by simp (maxSteps:=1000000) [go_sem,zd]) ?_
   rw[List.take_take,List.take_take,Nat.min_self,Nat.min_self]
   refine⟨_,T,[25],.inr rfl,?_,by omega,?_,?_,zgS l f t n T N h1 h2 hN hT⟩
   ·simp (maxSteps:=1000000) [go_sem];omega
   ·simp;omega
   ·right;constructor
    ·omega
    ·simp;omega
 ·rintro x rs ⟨l',t',u,hu,rfl,r1,r2,r3,r4⟩
  refine⟨[([0],[0]),([0,0],u)],?_,by simp (maxSteps:=1000000) [go_sem],l',t',?_,r1,r2,r3,r4⟩
  ·rcases hu with rfl|rfl<;>rfl
  ·rcases hu with rfl|rfl<;>simp (maxSteps:=1000000) [go_sem,ZN]
def spliced(l:List Int)(a b:Nat)(ins:List Int):List Int:=l.take a++ins++l.drop b
theorem zcF(l1 l2 l3 H ins:List Int)(A B t1 t2 t3:Nat)(hH:held l1 A t1=H)(hA:A≤t1)(hB:A≤B)(h2:t2=t1+B-A)(h1:t2≤l1.length)(hl2:l2=l1.take t1++(List.replicate (t2-t1) 0++l1.drop t2))
  (r1:A+ins.length≤t3) (r2:t3≤l3.length) (r4:held l3 A t3=held l2 A t2):held (l3.take A++(ins++l3.drop (A+ins.length))) (A+ins.length) t3=spliced H A B ins:=by
 have q1:l2.take A=l1.take A:=by rw[hl2];(apply List.ext_getElem?;intro j;simp only[List.getElem?_append,List.getElem?_take,List.getElem?_drop,List.length_take,List.getElem?_replicate,List.length_replicate];(repeat' split);all_goals first|rfl|omega|(congr 1;omega)|(symm;apply List.getElem?_eq_none;omega)|(apply List.getElem?_eq_none;omega))
 have q2:l2.drop t2=l1.drop t2:=by rw[hl2];(apply List.ext_getElem?;intro j;simp only[List.getElem?_append,List.getElem?_take,List.getElem?_drop,List.length_take,List.getElem?_replicate,List.length_replicate];(repeat' split);all_goals first|rfl|omega|(congr 1;omega)|(symm;apply List.getElem?_eq_none;omega)|(apply List.getElem?_eq_none;omega))
 unfold held at r4
 obtain⟨p1,p2⟩:=List.append_inj r4 (by rw[hl2];simp;omega)
 have e1:held (l3.take A++(ins++l3.drop (A+ins.length))) (A+ins.length) t3=l3.take A++ins++l3.drop t3:=by
  unfold held
  (apply List.ext_getElem?;intro j;simp only[List.getElem?_append,List.getElem?_take,List.getElem?_drop,List.length_append,List.length_take,List.length_drop];(repeat' split);all_goals first|rfl|omega|(congr 1;omega)|(symm;apply List.getElem?_eq_none;omega)|(apply List.getElem?_eq_none;omega))
 have e2:H.take A=l1.take A:=by rw[←hH];unfold held;(apply List.ext_getElem?;intro j;simp only[List.getElem?_append,List.getElem?_take,List.getElem?_drop,List.length_take];(repeat' split);all_goals first|rfl|omega|(congr 1;omega)|(symm;apply List.getElem?_eq_none;omega)|(apply List.getElem?_eq_none;omega))
 have e3:H.drop B=l1.drop t2:=by rw[←hH];unfold held;(apply List.ext_getElem?;intro j;simp only[List.getElem?_append,List.getElem?_take,List.getElem?_drop,List.length_take];(repeat' split);all_goals first|rfl|omega|(congr 1;omega)|(symm;apply List.getElem?_eq_none;omega)|(apply List.getElem?_eq_none;omega))
 rw[e1,p1,p2,q1,q2]
 unfold spliced
 rw[e2,e3]
def okS(l:List Int)(f t:Nat)(a b:Int):Bool:=decide (0≤a∧a≤b∧b+t≤l.length+f)
def zlD(l:List Int)(f t:Nat)(a b:Int)(ins:List Int):AV→List (Tok×List AV)→Prop:=fun x rs=>∃(l':List Int) (f' t':Nat),rs=ZN l' f' t'∧f'≤t'∧t'≤l'.length∧(l'.length=l.length∨t<f+ins.length∧l'.length=2*l.length+ins.length)∧x=.p (.bool (okS l f t a b))∧
 held l' f' t'=if okS l f t a b=true then spliced (held l f t) a.toNat b.toNat ins else held l f t
theorem zbC [Gi](l:List Int)(f t:Nat)(a b:Int)(ins:List Int)(h1:f≤t)(h2:t≤l.length)(h3:(2*l.length+ins.length:Int)≤17592186044416):
  CR Tryz.prog 121 [[0]] [.lp [0] 0,.p (.int .i64 a),.p (.int .i64 b),.p (zh ins)] (ZN l f t) (zlD l f t a b ins):=by
 refine zn mixed 9 [] Tryz.func121 rfl (by kernel_rfl) rfl (by simp) (by simp) ?_
 simp (maxSteps:=1000000) (disch:=omega) [go_sem,Tryz.f121,ZN,zh]
 refine⟨fun ha hab=>⟨⟨rfl,by simp[Tryz.f63]⟩,?_⟩,?_⟩
 ·refine zc [([0],[0]),([0,0],[0,0])] (yK l f t h1 h2 (by omega)) (by simp (maxSteps:=1000000) [go_sem,Zq]) ⟨by simp (maxSteps:=1000000) [go_sem];omega,by simp (maxSteps:=1000000) [go_sem,ha,hab]⟩ (by simp (maxSteps:=1000000) [go_sem,ZN]) ?_
  rintro x rs ⟨rfl,rfl⟩
  obtain⟨A,rfl⟩:=Int.eq_ofNat_of_zero_le ha
  obtain⟨B,rfl⟩:=Int.eq_ofNat_of_zero_le (show 0≤b by omega)
  have hab':¬(B:Int)<A:=by omega
  have hA':¬(A:Int)<0:=by omega
  simp (maxSteps:=1000000) (disch:=omega) [go_sem,ZN,Zq,hA',hab']
  refine zw (fun h=>?_) (fun h=>?_)
  ·simp (maxSteps:=1000000) (disch:=omega) [go_sem]
   have hno:okS l f t A B=false:=by simp[okS];omega
   refine zi Zq (.p (.bool false)) (by simp[Zq]) (by simp (maxSteps:=1000000) [go_sem,zd,leA]) ?_
   refine⟨l,f,t,?_,h1,h2,.inl rfl,by rw[hno],by rw[hno];simp⟩
   simp (maxSteps:=1000000) [go_sem,ZN,Zq]
  ·simp (maxSteps:=1000000) (disch:=omega) [go_sem]
   refine⟨⟨rfl,by simp[Tryz.f167]⟩,zc [([0],[0]),([0,0],[0,0])] (zfw l f t A h1 h2 (by omega) (by omega)) (by simp (maxSteps:=1000000) [go_sem,Zq]) ⟨by simp (maxSteps:=1000000) [go_sem],by simp (maxSteps:=1000000) [go_sem]⟩ (by simp (maxSteps:=1000000) [go_sem,ZN]) ?_⟩
   rintro x rs ⟨l1,rfl,hl1,hh1⟩
   obtain⟨t1,ht1⟩:∃t1:Nat,t1=A+t-f:=⟨_,rfl⟩
   rw[←ht1]at hh1⊢
   obtain⟨t2,ht2⟩:∃t2:Nat,t2=t1+B-A:=⟨_,rfl⟩
   have e1:((t1:Int)+(B:Int)- (A:Int))=t2:=by omega
   have e2:((t1:Int)+((B:Int)- (A:Int)))=t2:=by omega
   simp (maxSteps:=1000000) (disch:=omega) [go_sem,ZN,Zq,wrap64,e1,e2]
   refine⟨by omega,by omega,⟨rfl,by simp[Tryz.f168]⟩,?_⟩
   obtain⟨l2,hl2⟩:∃l2,l2=l1.take t1++(List.replicate (t2-t1) 0++l1.drop t2):=⟨_,rfl⟩
   have hl2n:l2.length=l1.length:=by rw[hl2];simp;omega
   rw[←hl2]
   refine zc [([0],[0]),([0,0],[0,0])] (ze7 l2 A t2 ins.length (by omega) (by omega) (by omega)) (by simp (maxSteps:=1000000) [go_sem]) ⟨by simp (maxSteps:=1000000) [go_sem],by simp (maxSteps:=1000000) [go_sem]⟩ (by simp (maxSteps:=1000000) [go_sem,ZN,hl2n]) ?_
   rintro x rs ⟨l3,t3,rfl,r1,r2,r3,r4⟩
   simp (maxSteps:=1000000) (disch:=omega) [go_sem,ZN,wrap64]
   refine⟨by omega,by omega,?_⟩
   have hyes:okS l f t A B=true:=by simp[okS];omega
   refine zi [[0],[0,0]] (.p (.bool true)) (by simp) (by simp (maxSteps:=1000000) [go_sem,zd,leA]) ?_
   refine⟨l3.take A++(ins++l3.drop (A+ins.length)),A+ins.length,t3,?_,r1,?_,?_,by rw[hyes],?_⟩
   ·simp (maxSteps:=1000000) [go_sem,ZN];omega
   ·simp;omega
   ·simp;omega
   ·rw[hyes]
    simpa using zcF l1 l2 l3 (held l f t) ins A B t1 t2 t3 hh1 (by omega) (by omega) ht2 (by omega) hl2 r1 r2 r4
 ·intro hno
  refine⟨hno,by omega,?_⟩
  have hno':okS l f t a b=false:=by simp[okS];omega
  refine zi Zq (.p (.bool false)) (by simp[Zq]) (by simp (maxSteps:=1000000) [go_sem,zd,leA]) ?_
  refine⟨l,f,t,?_,h1,h2,.inl rfl,by rw[hno'],by rw[hno'];simp⟩
  simp (maxSteps:=1000000) [go_sem,ZN,Zq]
end Go.Proofs.YthbmelihnabkaaaGreat
end
