/- A part of the proof of this seat's statements, by an abstract machine: what each operation does to values, and what the law's functions compute. Conditions: as each law says. -/
import Derived.Test.YthbmelihnabkaaaGreatT43
import Derived.Test.YthbmelihnabkaaaGreatT44
import Derived.Test.YthbmelihnabkaaaGreatT45
import Derived.Test.YthbmelihnabkaaaGreatT46
import Derived.Test.YthbmelihnabkaaaGreatT42
import Derived.Test.YthbmelihnabkaaaGreatT37
section
namespace Go.Proofs.YthbmelihnabkaaaGreat
open Go.AM
set_option maxHeartbeats 4000000
set_option maxRecDepth 10000
attribute [local irreducible] za
structure Rep where
 l:List Int
 a:PV
 b:PV
 c:PV
 k:Int
 s:Int
def Rep.edit(r:Rep):PV:=.agg [r.a,r.b,r.c]
def Rep.told(r:Rep):PV:=.agg [r.a,r.b,r.c,.int .i64 r.k]
def zcy:PV:=.opq (.slice none 0 0)
def UR(l:List Int)(f t:Nat)(ins:List Int):Nat:=Zv l f+(uy l f t ins).length
def Yf(l:List Int)(f t:Nat)(ins:List Int):Rep:=
 let n:=yr l (zR l f t ins) (Zv l f) (onL l t) (UR l f t ins)
 ⟨zR l f t ins,.int .i64 n.1,zh (cut l n.1 n.2.1),zh (cut (zR l f t ins) n.1 n.2.2),
  (plc (z8 za (zR l f t ins)) (cnt (pl (z8 za (zR l f t ins))) (QO l (zR l f t ins) (Zv l f) t (onL l t) (UR l f t ins):Nat)):Nat),0⟩
def V5(l:List Int)(f t:Int)(ins:List Int):Rep:=
 if okT (z8 za l) f t=true then
  if(zR l f.toNat t.toNat ins).length≤65536 then Yf l f.toNat t.toNat ins else⟨l,.int .i64 0,zcy,zcy,0,3⟩
 else⟨l,.int .i64 0,zcy,zcy,0,2⟩
theorem zaY {l:List Int}(hr:∀x∈l,zD x)(hn:l.length≤65536) {f t:Nat}(hft:f≤t)(ht:t≤l.length) {ins:List Int}(hi:ins.length≤65536)(hri:∀x∈ins,zD x):
  (∀y∈zR l f t ins,zD y)∧UR l f t ins≤(zR l f t ins).length:=by
 have hb:=vq l f
 have ho:=JV l ht
 constructor
 ·unfold zR
  refine jd (jv hr _) (jd ?_ (jx hr _))
  unfold uy
  refine kj.rune _ ?_ (jd ?_ (jd hri ?_))
  ·simp only[List.length_append,cut,List.length_take,List.length_drop];omega
  ·exact jv (jx hr _) _
  ·exact jv (jx hr _) _
 ·unfold zR UR
  simp only[List.length_append,List.length_take];omega
theorem XW {l:List Int} {L:List (List Int)}(h:Ln l L) {f t:Int}(hok:okT L f t=true):∃f' t':Nat,f=f'∧t=t'∧f'≤t'∧t'≤l.length∧plc L (kf L (f':Nat))=f'∧plc L (kf L (t':Nat))=t':=by
 obtain⟨h1,h2,h3,h4,h5⟩:=of_decide_eq_true hok
 have hs:=h.sum
 obtain⟨f',rfl⟩:∃f':Nat,f=f':=⟨f.toNat,by omega⟩
 obtain⟨t',rfl⟩:∃t':Nat,t=t':=⟨t.toNat,by omega⟩
 exact⟨f',t',rfl,rfl,by omega,by omega,by omega,by omega⟩
theorem zm0 {l:List Int} {L:List (List Int)}(h:Ln l L)(hn:l.length≤65536)(f t:Int) {ins:List Int}(hi:ins.length≤65536)(hri:∀x∈ins,zD x):
  Ln (V5 l f t ins).l (z8 za (V5 l f t ins).l)∧(V5 l f t ins).l.length≤65536:=by
 have hL:=h.eq
 unfold V5
 rw[←hL]
 split
 ·rename_i hok
  obtain⟨f',t',rfl,rfl,h1,h2,_,_⟩:=XW h hok
  simp only[Int.toNat_natCast]
  split
  ·rename_i hl
   refine⟨⟨rfl,?_,(zaY h.r hn h1 h2 hi hri).1⟩,hl⟩
   show(zR l f' t' ins).length<2^31
   omega
  ·exact⟨⟨rfl,h.n,h.r⟩,hn⟩
 ·exact⟨⟨rfl,h.n,h.r⟩,hn⟩
def zoO(e:PV)(r:Rep):AV→List (Tok×List AV)→Prop:=fun y rs=>∃X,yd X (z8 za r.l)∧rs=txR e X (z8 za r.l)∧y=.tup [.p r.told,.p (.int .i64 r.s)]
theorem zkl [Gi] {e:PV}(hT:Zl e) {x:Tx} {l:List Int} {L:List (List Int)}(h:yd x L)(hl:Ln l L)(hn:l.length≤65536)(f t:Int)(ins:List Int)(hi:ins.length≤65536)(hri:∀x∈ins,zD x):
  CR Tryz.prog 20 jA [.lp [0] 0,.p (.int .i64 f),.p (.int .i64 t),.p (zh ins)] (txR e x L) (zoO e (V5 l f t ins)):=by
 have hL:=hl.eq
 have hfl:=hl.flat
 cases hok:okT L f t with
 |false=>
  have hr:V5 l f t ins=⟨l,.int .i64 0,zcy,zcy,0,2⟩:=by unfold V5;rw[←hL,if_neg (by rw[hok];decide)]
  rw[hr]
  refine CR.mono (YC e h f t ins hok) ?_
  rintro y rs ⟨rfl,rfl⟩
  exact⟨x,by rw[←hL];exact h,by rw[←hL],rfl⟩
 |true=>
  obtain⟨f',t',rfl,rfl,h1,h2,h3,h4⟩:=XW hl hok
  subst hfl
  by_cases hs:(zR L.flatten f' t' ins).length≤65536
  ·have hr:V5 L.flatten f' t' ins=Yf L.flatten f' t' ins:=by
    unfold V5;rw[←hL,if_pos hok];simp only[Int.toNat_natCast];rw[if_pos hs]
   rw[hr]
   refine CR.mono (x7 hT h hl hn f' t' h1 h2 h3 h4 ins hi hri hs) ?_
   rintro y rs ⟨⟨X,x1,rfl⟩,rfl⟩
   exact⟨X,x1,rfl,rfl⟩
  ·have hr:V5 L.flatten f' t' ins=⟨L.flatten,.int .i64 0,zcy,zcy,0,3⟩:=by
    unfold V5;rw[←hL,if_pos hok];simp only[Int.toNat_natCast];rw[if_neg hs]
   rw[hr]
   refine CR.mono (YT hT h hl hn f' t' h1 h2 h3 h4 ins hi hri (by omega)) ?_
   rintro y rs ⟨rfl,rfl⟩
   exact⟨x,by rw[←hL];exact h,by rw[←hL],rfl⟩
end Go.Proofs.YthbmelihnabkaaaGreat
end
section
namespace Go.Proofs.YthbmelihnabkaaaGreat
open Go.AM
set_option maxHeartbeats 1000000
set_option maxRecDepth 10000
attribute [local irreducible] za
structure Win(l s:List Int)(f o c:Nat):Prop where
 fo:f≤o
 fc:f≤c
 ol:o≤l.length
 cs:c≤s.length
 t:l.take f=s.take f
 d:l.drop o=s.drop c
theorem Win.back {l s:List Int} {f o c:Nat}(h:Win l s f o c):Win s l f c o:=⟨h.fc,h.fo,h.cs,h.ol,h.t.symm,h.d.symm⟩
theorem zh1 {l s:List Int} {f:Nat}(h:l.take f=s.take f)(h1:f<l.length)(h2:f<s.length)(h3:l.getD f 0=s.getD f 0):l.take (f+1)=s.take (f+1):=by
 rw[List.take_add_one,List.take_add_one,h]
 rw[List.getD_eq_getElem?_getD,List.getD_eq_getElem?_getD,List.getElem?_eq_getElem h1,List.getElem?_eq_getElem h2]at h3
 rw[List.getElem?_eq_getElem h1,List.getElem?_eq_getElem h2]
 simp only[Option.getD_some]at h3
 rw[h3]
theorem zf4 {l s:List Int}:∀n f,f+n≤l.length→f+n≤s.length→l.take f=s.take f→l.take (xx l s n f)=s.take (xx l s n f)
 |0,f,_,_,h=>h
 |n+1,f,h1,h2,h=>by
  unfold xx
  split
  ·rename_i q
   exact zf4 n (f+1) (by omega) (by omega) (zh1 h (by omega) (by omega) q)
  ·exact h
theorem zfQ {l s:List Int}(f:Nat):∀o c,o≤l.length→c≤s.length→l.drop o=s.drop c→l.drop (QK l s f o c).1=s.drop (QK l s f o c).2
 |o+1,c+1,h1,h2,h=>by
  unfold QK
  split
  ·rename_i q
   refine zfQ f o c (by omega) (by omega) ?_
   have e1:l.drop o=l.getD o 0::l.drop (o+1):=by
    rw[List.drop_eq_getElem_cons (by omega),List.getD_eq_getElem?_getD,List.getElem?_eq_getElem (by omega)];rfl
   have e2:s.drop c=s.getD c 0::s.drop (c+1):=by
    rw[List.drop_eq_getElem_cons (by omega),List.getD_eq_getElem?_getD,List.getElem?_eq_getElem (by omega)];rfl
   rw[e1,e2,q.2.2,h]
  ·exact h
 |0,c,h1,h2,h=>by unfold QK;exact h
 |o+1,0,h1,h2,h=>by unfold QK;exact h
theorem zk0 {l s:List Int} {b o c:Nat}(h:Win l s b o c):Win l s (yr l s b o c).1 (yr l s b o c).2.1 (yr l s b o c).2.2:=by
 have h1:=h.fo
 have h2:=h.fc
 have h3:=h.ol
 have h4:=h.cs
 have a:=za1 l s (min o c-b) b
 have a2:=zf4 (l:=l) (s:=s) (min o c-b) b (by omega) (by omega) h.t
 unfold yr
 generalize xx l s (min o c-b) b=f at a a2
 have b1:=za6 l s f o c (by omega) (by omega)
 have b2:=zfQ (l:=l) (s:=s) f o c h3 h4 h.d
 exact⟨b1.1,b1.2.2.1,by simp only;omega,by simp only;omega,a2,b2⟩
theorem zfv {l:List Int} {f t:Nat}(hft:f≤t)(ht:t≤l.length)(ins:List Int):Win l (zR l f t ins) (Zv l f) (onL l t) (UR l f t ins):=by
 have hb:=vq l f
 have ho:=JV l ht
 have lb:(l.take (Zv l f)).length=Zv l f:=by rw[List.length_take];omega
 refine⟨by omega,by unfold UR;omega,ho.2,?_,?_,?_⟩
 ·unfold UR zR;simp only[List.length_append,lb];omega
 ·unfold zR;rw[List.take_left' lb]
 ·unfold UR zR
  rw[←List.append_assoc,List.drop_left' (by rw[List.length_append,lb])]
theorem Win.zeQ {l s:List Int} {f o c:Nat}(h:Win l s f o c):l.take f++(cut s (f:Nat) (c:Nat)++l.drop o)=s:=by
 have h2:=h.fc
 rw[h.t,h.d]
 unfold cut
 rw[Int.toNat_natCast,Int.toNat_natCast]
 have e:s.drop c=(s.drop f).drop (c-f):=by rw[List.drop_drop];congr 1;omega
 rw[e,List.take_append_drop,List.take_append_drop]
theorem Win.old {l s:List Int} {f o c:Nat}(h:Win l s f o c):(cut l (f:Nat) (o:Nat)).length=o-f:=by
 have h1:=h.fo
 have h3:=h.ol
 unfold cut
 rw[Int.toNat_natCast,Int.toNat_natCast,List.length_take,List.length_drop];omega
end Go.Proofs.YthbmelihnabkaaaGreat
end
section
namespace Go.Proofs.YthbmelihnabkaaaGreat
open Go.AM
set_option maxHeartbeats 4000000
set_option maxRecDepth 10000
attribute [local irreducible] za
theorem zjl [Gi](f:Nat)(x y:List Int):CR Tryz.prog 23 [] [.p (Zo f x y)] [] (is (.p (Zo f y x))):=by
 refine walk Tryz.func23 3 [] [] [] ?_
 simp (maxSteps:=1000000) [go_sem,Tryz.f23,Zo]
 exact ret (hx:=by simp[go_sem,zd,leA,leT])
theorem zec [Gi](f:Nat)(x y:List Int)(hf:f<2^31)(hx:x.length<2^31)(hy:y.length<2^31):CR Tryz.prog 72 [] [.p (Zo f x y)] [] (is (.p (kS f (f+x.length) (f+y.length)))):=by
 refine walk Tryz.func72 3 [] [] [] ?_
 have w1:IntKind.i64.wrap ((f:Int)+x.length)=((f+x.length:Nat):Int):=by rw[wrap64 (by omega) (by omega)];omega
 have w2:IntKind.i64.wrap ((f:Int)+y.length)=((f+y.length:Nat):Int):=by rw[wrap64 (by omega) (by omega)];omega
 simp (maxSteps:=1000000) [go_sem,Tryz.f72,Zo,w1,w2]
 exact ret (hx:=by simp[go_sem,zd,leA,leT,kS])
theorem zlN {l:List Int} {f o i:Nat}(h1:f+i<o)(h2:o≤l.length):elemAt (zx (cut l (f:Nat) (o:Nat))) i=elemAt (zx l) (f+i):=by
 have hc:(cut l (f:Nat) (o:Nat)).length=o-f:=by unfold cut;rw[Int.toNat_natCast,Int.toNat_natCast,List.length_take,List.length_drop];omega
 have a1:=Ql (l:=cut l (f:Nat) (o:Nat)) (k:=i) (by omega)
 have a2:=Ql (l:=l) (k:=f+i) (by omega)
 rw[a1,a2]
 congr 1
 unfold cut
 rw[Int.toNat_natCast,Int.toNat_natCast]
 simp only[List.getD_eq_getElem?_getD,List.getElem?_take,List.getElem?_drop]
 rw[if_pos (by omega)]
theorem zmG [Gi] {l s:List Int} {f o c:Nat}(h:Win l s f o c)(hl:l.length<2^31)(hs:s.length<2^31):
  CR Tryz.prog 71 [] [.p (Zo f (cut l f o) (cut s f c)),.p (zh l)] [] (is (.tup [.p (zh s),.p (.bool true)])):=by
 refine walk Tryz.func71 10 [30,31,32] [] [] ?_
 have h1:=h.fo
 have h2:=h.ol
 have h3:=h.fc
 have h4:=h.cs
 have hd:=h.zeQ
 have ho:=h.old
 have hn:(cut s (f:Nat) (c:Nat)).length=c-f:=h.back.old
 have hat:∀i,f+i<o→elemAt (zx (cut l (f:Nat) (o:Nat))) i=elemAt (zx l) (f+i):=fun i hi=>zlN hi h2
 generalize cut l (f:Nat) (o:Nat)=x at ho hat⊢
 generalize cut s (f:Nat) (c:Nat)=y at hn hd⊢
 have w1:IntKind.i64.wrap ((f:Int)+x.length)=(o:Int):=by rw[wrap64 (by omega) (by omega)];omega
 have q0:¬(f:Int)<0:=by omega
 have q1:¬(o:Int)<0:=by omega
 have q2:¬(l.length:Int)<o:=by omega
 simp (maxSteps:=1000000) [go_sem,Tryz.f71,Zo,w1,q0,q1,q2]
 refine loop (fun i:Nat=>i≤x.length) (fun i=>[(32,.p (.int .i64 i)),(7,.zX),(8,.zX)]) (fun _=>[]) (fun i=>x.length-i) 0 (Nat.zero_le _) (fun i hi=>?_)
 by_cases d:i<x.length
 ·have e1:=hat i (by omega)
  have e2:=Ql (l:=l) (k:=f+i) (by omega)
  rw[e2]at e1
  have w2:IntKind.i64.wrap ((f:Int)+i)=(f:Int)+i:=wrap64 (by omega) (by omega)
  have w3:IntKind.i64.wrap ((i:Int)+1)=((i+1:Nat):Int):=zT (by omega)
  have hnat:((f:Int)+i).toNat=f+i:=by omega
  simp (maxSteps:=1000000) [go_sem,d,e1,e2,w2,w3,hnat]
  refine⟨by omega,?_⟩
  exact next (i+1) d (h3:=by show x.length- (i+1)<x.length-i;omega)
 ·obtain rfl:i=x.length:=by omega
  have k1:cut l 0 (f:Nat)=l.take f:=by simp[cut]
  have k2:cut l (o:Nat) (l.length:Nat)=l.drop o:=by simp[cut,List.take_of_length_le]
  have hlen:=congrArg List.length hd
  simp only[List.length_append,List.length_take,List.length_drop]at hlen
  simp (maxSteps:=1000000) [go_sem,k1,k2]
  refine⟨by omega,by omega,by omega,h2,by omega,?_⟩
  rw[hd]
  exact ret
def zol(e:PV)(L:List (List Int)):AV→List (Tok×List AV)→Prop:=fun y rs=>zlS e L y rs∧y=.p (.int .i64 0)
theorem zjY [Gi] {e:PV}(hT:Zl e) {x:Tx} {l s:List Int}(h:yd x (z8 za l))(hl:Ln l (z8 za l))(hs:Ln s (z8 za s)) {f o c:Nat}(w:Win l s f o c)(hn:l.length≤65536)(hsn:s.length≤65536):
  CR Tryz.prog 22 jA [.lp [0] 0,.p (Zo f (cut l f o) (cut s f c))] (txR e x (z8 za l)) (fun y rs=>zgQ e (z8 za s) y rs∧y=.p (.int .i64 0)):=by
 refine CR.ren (R:=zol e (z8 za s)) ?_ 1000000 ?_
 ·refine walk Tryz.func22 8 [] [] [] ?_
  have h1:=w.fo
  have h2:=w.ol
  have h3:=w.fc
  have h4:=w.cs
  have ga:=xI x.g x.f x.t h.ft h.tl h.n
  have hfl:=hl.flat
  have hg:=h.n
  have hd:=zmG w (by omega) (by omega)
  have hx:=w.old
  have hy:(cut s (f:Nat) (c:Nat)).length=c-f:=w.back.old
  have hw:=zec f (cut l (f:Nat) (o:Nat)) (cut s (f:Nat) (c:Nat)) (by omega) (by omega) (by omega)
  rw[hx,hy,Nat.add_sub_cancel' h1,Nat.add_sub_cancel' h3]at hw
  have hp:=zjP hT h (by rw[hfl];exact hl) hs f o c (by rw[hfl];exact h2) h4 h1 h3 (by rw[hfl];exact w.t) (by rw[hfl];exact w.d)
  rw[hfl]at hp
  generalize cut l (f:Nat) (o:Nat)=a at hd hw⊢
  generalize cut s (f:Nat) (c:Nat)=b at hd hw⊢
  have q4:¬(65536:Int)<s.length:=by omega
  simp (maxSteps:=1000000) [go_sem,Tryz.f22,Zo]
  refine call W7 ga ?_
  rintro _ _ ⟨rfl,rfl⟩
  rw[h.held,hfl]
  simp (maxSteps:=1000000) [go_sem]
  refine zn hd ?_ (ha':=by simp[go_sem,Zo])
  simp (maxSteps:=1000000) [go_sem,q4]
  refine zn hw ?_ (ha':=by simp[go_sem,Zo])
  simp (maxSteps:=1000000) [go_sem,kS]
  refine call (idm txT) hp ?_ (ha':=by simp[go_sem,kS])
  rintro _ _ ⟨X,hX,rfl⟩
  simp (maxSteps:=1000000) [go_sem]
  exact zi txT (.p (.int .i64 0)) (by simp[txT]) (by simp[go_sem,zd,leA,leT]) ⟨⟨X,hX,by simp[go_sem]⟩,rfl⟩
 ·rintro y rs ⟨⟨X,x1,x2⟩,rfl⟩
  exact⟨idm txT,by decide,by decide,⟨X,x1,x2⟩,rfl⟩
end Go.Proofs.YthbmelihnabkaaaGreat
end
section
namespace Go.Proofs.YthbmelihnabkaaaGreat
open Go.AM
set_option maxHeartbeats 1000000
set_option maxRecDepth 10000
attribute [local irreducible] za
def kR(l:List Int):Nat:=(Zs za l).length
theorem xG(a b:List Int):kR (a++b)=kR a+kR b:=by unfold kR Zs;rw[List.flatMap_append,List.length_append]
theorem WK:∀l:List Int,l.length≤kR l
 | []=>Nat.zero_le _
 |x::l=>by
  have ih:=WK l
  have h:=Wy x
  have hp:0< (z5 za 8 x).length:=List.length_pos_iff.2 h
  have e:kR (x::l)=(z5 za 8 x).length+kR l:=by unfold kR Zs;rw[List.flatMap_cons,List.length_append]
  rw[e,List.length_cons];omega
theorem K4(l:List Int):kR (qv za l)=kR l:=by
 have h:jM za (qv za l)=jM za l:=Xk zjF l
 have:=congrArg List.length h
 unfold jM at this
 rw[yy,yy]at this
 exact this
theorem Xr {P R:List Int}(h1:qv za (P++R)=qv za P++qv za R)(h2:qv za (P++R)=P++R):qv za P=P∧qv za R=R:=by
 have e:qv za P++qv za R=P++R:=h1.symm.trans h2
 have d1:=K4 P
 rcases Nat.lt_trichotomy (qv za P).length P.length with q|q|q
 ·exfalso
  have hp:P=qv za P++P.drop (qv za P).length:=by
   have:=congrArg (List.take (qv za P).length) e
   rw[List.take_left',List.take_append_of_le_length (by omega)]at this
   ·conv=>lhs;rw[←List.take_append_drop (qv za P).length P]
    rw[←this]
   ·rfl
  have:=congrArg kR hp
  rw[xG,d1]at this
  have g:=WK (P.drop (qv za P).length)
  rw[List.length_drop]at g
  omega
 ·exact List.append_inj e q
 ·exfalso
  have hp:qv za P=P++(qv za P).drop P.length:=by
   have:=congrArg (List.take P.length) e
   rw[List.take_append_of_le_length (by omega),List.take_left]at this
   conv=>lhs;rw[←List.take_append_drop P.length (qv za P)]
   rw[this]
  have:=congrArg kR hp
  rw[xG,d1]at this
  have g:=WK ((qv za P).drop P.length)
  rw[List.length_drop]at g
  omega
theorem UY(l:List Int):∀n,kI l n=0∨yJ (l.getD (kI l n) 0)=true
 |0=>.inl rfl
 |n+1=>by
  rw[kI]
  split
  ·rename_i h;exact .inr h
  ·exact UY l n
theorem zhg {l:List Int} {f:Nat}(_:f≤l.length):Zv l f=0∨(Zv l f<f∧yJ (l.getD (Zv l f) 0)=true):=by
 unfold Zv
 split
 ·exact .inl rfl
 ·have h1:=UY l (f-1)
  have h2:=VW l (f-1)
  rcases h1 with h1|h1
  ·exact .inl h1
  ·exact .inr ⟨by omega,h1⟩
theorem Y6(l:List Int):∀n k,k+n=l.length→YR l n k=l.length∨(YR l n k<l.length∧yJ (l.getD (YR l n k) 0)=true)
 |0,k,h=>.inl (by rw[YR];omega)
 |n+1,k,h=>by
  rw[YR]
  split
  ·rename_i hs;exact .inr ⟨by omega,hs⟩
  ·exact Y6 l n (k+1) (by omega)
theorem zkE {l:List Int} {t:Nat}(ht:t≤l.length):onL l t=l.length∨(onL l t<l.length∧yJ (l.getD (onL l t) 0)=true):=Y6 l _ t (by omega)
theorem VJ {l:List Int} {k:Nat}(h:k<l.length):l.drop k=l.getD k 0::l.drop (k+1):=by
 rw[List.drop_eq_getElem_cons h,List.getD_eq_getElem?_getD,List.getElem?_eq_getElem h];rfl
theorem uU {l:List Int} {o:Nat}(h:o=l.length∨(o<l.length∧yJ (l.getD o 0)=true))(M:List Int):qv za (M++l.drop o)=qv za M++qv za (l.drop o):=by
 have hn:qv za []=[]:=by decide+kernel
 rcases h with rfl|⟨h1,h2⟩
 ·rw[List.drop_length,List.append_nil,hn,List.append_nil]
 ·rw[VJ h1];exact Ux h2 M _
theorem zbC {l:List Int}(hl:qv za l=l) {f t:Nat}(hft:f≤t)(ht:t≤l.length)(ins:List Int):zR l f t ins=qv za (l.take f++(ins++l.drop t)):=by
 have hn:qv za []=[]:=by decide+kernel
 have hb:=vq l f
 have ho:=JV l ht
 have sb:=zhg (l:=l) (f:=f) (by omega)
 have so:=zkE (l:=l) ht
 unfold zR uy
 generalize Zv l f=b at hb sb⊢
 generalize onL l t=o at ho so⊢
 have hQ:qv za (l.drop o)=l.drop o:=by
  have h1:=uU so (l.take o)
  rw[List.take_append_drop]at h1
  exact(Xr (P:=l.take o) (R:=l.drop o) (by rw[List.take_append_drop];exact h1) (by rw[List.take_append_drop];exact hl)).2
 have hA:cut l (b:Nat) (f:Nat)=(l.take f).drop b:=by
  unfold cut;rw[Int.toNat_natCast,Int.toNat_natCast,List.drop_take]
 have hB:cut l (t:Nat) (o:Nat)=(l.drop t).take (o-t):=by
  unfold cut;rw[Int.toNat_natCast,Int.toNat_natCast]
 rw[hA,hB]
 obtain⟨M,hM⟩:∃M,M=(l.take f).drop b++(ins++(l.drop t).take (o-t)):=⟨_,rfl⟩
 rw[←hM]
 have hW:l.take f++(ins++l.drop t)=l.take b++(M++l.drop o):=by
  have e1:l.take f=l.take b++(l.take f).drop b:=by
   conv=>lhs;rw[←List.take_append_drop b (l.take f)]
   rw[List.take_take,Nat.min_eq_left hb]
  have e2:l.drop t=(l.drop t).take (o-t)++l.drop o:=by
   conv=>lhs;rw[←List.take_append_drop (o-t) (l.drop t)]
   rw[List.drop_drop]
   congr 2;omega
  rw[hM]
  conv=>lhs;rw[e1,e2]
  simp only[List.append_assoc]
 rw[hW]
 rcases sb with rfl|⟨b1,b2⟩
 ·rw[List.take_zero,List.nil_append,List.nil_append,uU so,hQ]
 ·have bl:b<l.length:=by omega
  have hP:qv za (l.take b)=l.take b:=by
   have h1:=Ux b2 (l.take b) (l.drop (b+1))
   rw[←VJ bl]at h1
   exact(Xr h1 (by rw[List.take_append_drop];exact hl)).1
  have hM1:∃M',M=l.getD b 0::M':=by
   rw[hM,List.drop_take,VJ bl]
   obtain⟨n,hn⟩:∃n,f-b=n+1:=⟨f-b-1,by omega⟩
   rw[hn]
   exact⟨_,rfl⟩
  obtain⟨M',hM'⟩:=hM1
  have h2:qv za (l.take b++(M++l.drop o))=qv za (l.take b)++qv za (M++l.drop o):=by
   rw[hM',List.cons_append];exact Ux b2 _ _
  rw[h2,hP,uU so,hQ]
end Go.Proofs.YthbmelihnabkaaaGreat
end
section
namespace Go.Proofs.YthbmelihnabkaaaGreat
open Go.AM
set_option maxHeartbeats 4000000
set_option maxRecDepth 10000
attribute [local irreducible] za
theorem zoP [Gi](n:Int):∃m:Nat,m≤3∧IntKind.i64.wrap (BitVec.ofInt IntKind.i64.bits n&&& BitVec.ofInt IntKind.i64.bits 3).toNat=(m:Int):=by
 have h:(BitVec.ofInt IntKind.i64.bits n&&& BitVec.ofInt IntKind.i64.bits 3).toNat≤3:=by
  have e:(BitVec.ofInt IntKind.i64.bits 3).toNat=3:=rfl
  rw[BitVec.toNat_and,e]
  exact Nat.and_le_right
 exact⟨_,h,wrap64 (by omega) (by omega)⟩
theorem zj0(l:List Int) {a b:Nat}(hab:a≤b):kR (l.take a)+kR (l.drop b)≤kR l:=by
 have e:l=l.take a++((l.drop a).take (b-a)++l.drop b):=by
  have e2:(l.drop a).take (b-a)++l.drop b=l.drop a:=by
   have:l.drop b=(l.drop a).drop (b-a):=by rw[List.drop_drop];congr 1;omega
   rw[this,List.take_append_drop]
  rw[e2,List.take_append_drop]
 have:=congrArg kR e
 rw[xG,xG]at this
 omega
theorem zft {l:List Int} {L:List (List Int)}(hl:Ln l L)(hnf:qv za l=l) {d:Nat}(hd:kR l≤d)(hdd:d+45≤60000) {a b:Nat}(hab:a≤b)(hb:b≤l.length)(pa:plc L (kf L (a:Nat))=a)(pb:plc L (kf L (b:Nat))=b) {ks:List Int}(hk:ks.length≤15)(_:∀x∈ks,zD x):
  V5 l a b ks=Yf l a b ks∧(Yf l a b ks).l=qv za (l.take a++(ks++l.drop b))∧qv za (Yf l a b ks).l=(Yf l a b ks).l∧kR (Yf l a b ks).l≤d+45:=by
 have e1:zR l a b ks=qv za (l.take a++(ks++l.drop b)):=zbC hnf hab hb ks
 have e2:=zj0 l hab
 have e3:kR ks≤3*ks.length:=y9 ks
 have e4:kR (zR l a b ks)≤d+45:=by rw[e1,K4,xG,xG];omega
 have e5:=WK (zR l a b ks)
 have hs:=hl.sum
 have hok:okT (z8 za l) a b=true:=by
  rw[←hl.eq]
  exact decide_eq_true ⟨by omega,by omega,by omega,by omega,by omega⟩
 refine⟨?_,e1,?_,e4⟩
 ·unfold V5
  rw[if_pos hok]
  simp only[Int.toNat_natCast]
  rw[if_pos (by omega)]
 ·show qv za (zR l a b ks)=zR l a b ks
  rw[e1,vS]
end Go.Proofs.YthbmelihnabkaaaGreat
end
section
namespace Go.Proofs.YthbmelihnabkaaaGreat
open Go.AM
set_option maxHeartbeats 4000000
set_option maxRecDepth 10000
attribute [local irreducible] za
end Go.Proofs.YthbmelihnabkaaaGreat
end
section
namespace Go.Proofs.YthbmelihnabkaaaGreat
open Go.AM
set_option maxHeartbeats 4000000
set_option maxRecDepth 10000
attribute [local irreducible] za
theorem zhk [Gi]:CR Tryz.prog 137 [] [.p (Q2 [])] [] (is (.p (Q2 []))):=by
 intro w g vs hargs hG
 have hv:∃a cap,vs=[.slice a 0 cap]:=by
  simp only[zo,zb,Q2,Z2,List.map_nil,zk]at hargs
  obtain⟨v,vs',rfl,h,rfl⟩:=hargs
  rcases h with ⟨_,a,cap,rfl⟩|⟨b,o,cap,rfl,_⟩
  ·exact⟨_,_,rfl⟩
  ·exact⟨_,_,rfl⟩
 obtain⟨a,cap,rfl⟩:=hv
 have hres:∀(g':Gh) (w':World) (a':Option Addr) (c':Nat),zb g' w' (.p (Q2 [])) (.slice a' 0 c'):=fun g' w' a' c'=>by
  simp only[zb,Q2,Z2,List.map_nil,zk];exact .inl ⟨trivial,_,_,rfl⟩
 cases a with
 |none=>
  refine(zcn cap w).mono ?_
  rintro e w' ⟨rfl,rfl⟩
  let g2:Gh:=⟨g.fr,fun _=>.prot⟩
  exact⟨_,.p (Q2 []),[],g2,rfl,⟨rfl,rfl⟩,hres _ _ _ _,⟨fun b t h=>(by cases h),fun b b' t h=>(by cases h),fun b b' t h=>(by cases h),fun b h=>absurd rfl h,hG.frb,fun b arr e=>⟨rfl,(hG.gl b arr e).2⟩⟩,
   ⟨fun d _ _=>⟨rfl,rfl,rfl⟩,Ext.refl _ _,⟨rfl,rfl,rfl⟩,Nat.le_refl _,fun b t _ ht=>(by cases ht)⟩⟩
 |some q=>
  refine(zbU q cap w).mono ?_
  rintro e w' ⟨v',rfl,⟨_,hv⟩,hne,hB⟩
  rcases hv with ⟨rfl,_⟩|⟨b,c',cur,rfl,h1,h2,_⟩
  ·exact absurd rfl hne
  ·have hlt:w.heap.size<w'.heap.size:=by
    have:b<w'.heap.size:=by
     rcases Nat.lt_or_ge b w'.heap.size with q|q
     ·exact q
     ·rw[Array.getElem?_eq_none q]at h2;cases h2
    omega
   have c:Chg g w w' w.heap.size:=⟨fun d hd _=>hB.block d hd,hG.frb _ (Nat.le_refl _),.inl (Nat.le_refl _),hlt,hB.size,⟨hB.os,hB.tape,hB.output⟩⟩
   exact⟨_,.p (Q2 []),[],ngh g w.heap.size 0 .prot,rfl,⟨rfl,rfl⟩,hres _ _ _ _,c.zkw hG 0 [],c.aft hG 0 .prot⟩
theorem zhG [Gi](l:List Nat)(hn:l.length<2^31):CR Tryz.prog 137 [] [.p (Q2 l)] [] (is (.p (Q2 l))):=by
 cases l with
 |nil=>exact zhk
 |cons x l=>
  refine walk Tryz.func137 3 [] [] [] ?_
  have e:Z2 (x::l)=.int .i64 x::Z2 l:=rfl
  simp only[List.length_cons]at hn
  simp (maxSteps:=1000000) [go_sem,Tryz.f137,Q2,e]
  refine⟨by omega,?_⟩
  exact ret (hx:=by simp[go_sem,zd,leA,leT])
theorem zfs [Gi](L:List (List Int))(hn:L.length<2^31):CR Tryz.prog 81 [] [.p (YQ L)] [] (is (.p (Q2 (pl L)))):=by
 refine walk Tryz.func81 3 [] [] [] ?_
 simp (maxSteps:=1000000) [go_sem,Tryz.f81]
 refine zn (zhG (pl L) (by rw[qq];exact hn)) ?_ (ha':=by simp[go_sem])
 simp (maxSteps:=1000000) [go_sem]
 exact ret
theorem zfr [Gi](e:PV) {x:Tx} {L:List (List Int)}(h:yd x L):CR Tryz.prog 33 txT [.lp [0] 0] (txR e x L) (keeps (txR e x L) (Q2 (pl L))):=by
 refine Yr Tryz.func33 3 [] [] [] ?_
 simp (maxSteps:=1000000) [go_sem,Tryz.f33]
 refine zn (zfs L h.cl.full.n) ?_
 simp (maxSteps:=1000000) [go_sem]
 exact KT
theorem zdL [Gi] {l:List Int} {L:List (List Int)}(h:Ln l L)(i:Nat)(hi:i<l.length):CR Tryz.prog 75 [] [.p (zI za),.p (zh l),.p (.int .i64 i)] [] (is (.p (.bool (isB L i)))):=by
 rcases Nat.eq_zero_or_pos i with rfl|h0
 ·have:=Wj l
  rw[←zcZ L]at this
  exact this
 ·obtain⟨m,hm⟩:∃m,i=m+1:=⟨i-1,by omega⟩
  have hb:=ue yS l i m hm hi h.n h.r
  have e:=Vh l L h.eq h.cl m (by omega)
  subst hm
  rw[e]at hb
  exact hb
theorem zeo [Gi] {l:List Int} {L:List (List Int)}(h:Ln l L):CR Tryz.prog 74 [] [.p (zI za),.p (zh l)] [] (is (.p (Q2 (pl L)))):=by
 refine walk Tryz.func74 7 [] [] [] ?_
 have hs:=h.sum
 have hn:=h.n
 have hcl:=h.cl
 have hfin:(pl L).take (cnt (pl L) (l.length:Nat))=pl L:=by
  have e2:=KC hcl (k:=L.length) (Nat.le_refl _)
  rw[qF,hs]at e2
  rw[e2]
  exact List.take_of_length_le (by rw[qq];omega)
 simp (maxSteps:=1000000) [go_sem,Tryz.f74]
 refine loop (fun i:Nat=>i≤l.length) (fun i=>[(5,.os [5] 1 (Z2 ((pl L).take (cnt (pl L) i)))),(6,.p (.int .i64 i))]) (fun _=>[]) (fun i=>l.length-i) 0 (Nat.zero_le _) (fun i hi=>?_) (h0:=by simp[go_sem,LeS,leV,leR,leA,WN,Z2])
 by_cases c:i<l.length
 ·have hb:=zdL h i c
  have w1:IntKind.i64.wrap ((i:Int)+1)=((i+1:Nat):Int):=zT (by omega)
  have hc:=zjR hcl (i:=i) (by omega)
  have e:((i+1:Nat):Int)=(i:Int)+1:=by omega
  have hl:=Ur (pl L) ((i+1:Nat):Int)
  have hlen:(pl L).length≤l.length:=by rw[qq,←hs];exact hcl.len
  have hlt:((pl L).take (cnt (pl L) i)).length≤l.length:=by rw[List.length_take];omega
  simp (maxSteps:=1000000) [go_sem,c]
  refine zn hb ?_
  cases hv:isB L i with
  |true=>
   rw[hv,if_pos rfl]at hc
   rw[e,hc]at hl
   have t1:Z2 ((pl L).take (cnt (pl L) i))++[.int .i64 (i:Nat)]=Z2 ((pl L).take (cnt (pl L) ((i+1:Nat):Int))):=by
    rw[e,hc,List.take_succ_eq_append_getElem (by omega),KN,ZM,Xx hcl hv];rfl
   simp (maxSteps:=1000000) [go_sem,w1,t1]
   refine⟨by omega,?_⟩
   exact next (i+1) c (h3:=by show l.length- (i+1)<l.length-i;omega)
  |false=>
   rw[hv,if_neg (by decide),Nat.add_zero]at hc
   have t1:(pl L).take (cnt (pl L) i)=(pl L).take (cnt (pl L) ((i+1:Nat):Int)):=by rw[e,hc]
   simp (maxSteps:=1000000) [go_sem,w1,t1]
   exact next (i+1) c (h3:=by show l.length- (i+1)<l.length-i;omega)
 ·obtain rfl:i=l.length:=by omega
  simp (maxSteps:=1000000) [go_sem,hfin]
  exact ret
theorem zjJ [Gi](l:List Nat)(hn:l.length<2^31):CR Tryz.prog 73 [] [.p (Q2 l),.p (Q2 l)] [] (is (.p (.bool true))):=by
 refine walk Tryz.func73 6 [] [] [] ?_
 simp (maxSteps:=1000000) [go_sem,Tryz.f73,Q2]
 refine loop (fun i:Nat=>i≤l.length) (fun i=>[(5,.p (.int .i64 i))]) (fun _=>[]) (fun i=>l.length-i) 0 (Nat.zero_le _) (fun i hi=>?_)
 by_cases c:i<l.length
 ·have em:=Vo c
  have w1:IntKind.i64.wrap ((i:Int)+1)=((i+1:Nat):Int):=zT (by omega)
  simp (maxSteps:=1000000) [go_sem,c,em,w1]
  exact next (i+1) c (h3:=by show l.length- (i+1)<l.length-i;omega)
 ·obtain rfl:i=l.length:=by omega
  simp (maxSteps:=1000000) [go_sem]
  exact ret
end Go.Proofs.YthbmelihnabkaaaGreat
end
section
namespace Go.Proofs.YthbmelihnabkaaaGreat
open Go.AM
set_option maxHeartbeats 4000000
set_option maxRecDepth 10000
attribute [local irreducible] za
theorem zcM [Gi](e:PV) {x:Tx} {L:List (List Int)}(h:yd x L) {l:List Int}(hl:Ln l L):CR Tryz.prog 24 txT [.lp [0] 0,.p (zI za),.p (zh l)] (txR e x L) (keeps (txR e x L) (.bool true)):=by
 refine Yr Tryz.func24 7 [] [] [] ?_
 have h1:=ug e h
 rw[hl.flat]at h1
 have h2:=zgb l hl.n
 have h3:=zi0 e h
 have h4:=zfr e h
 have h5:=zeo hl
 have h6:=zjJ (pl L) (by rw[qq];exact h.cl.full.n)
 have hs:=hl.sum.symm
 simp (maxSteps:=1000000) [go_sem,Tryz.f24]
 refine call (idm txT) h1 ?_
 rintro _ _ ⟨rfl,rfl⟩
 simp (maxSteps:=1000000) [go_sem]
 refine zn h2 ?_
 simp (maxSteps:=1000000) [go_sem]
 refine call (idm txT) h3 ?_
 rintro _ _ ⟨rfl,rfl⟩
 simp (maxSteps:=1000000) [go_sem,hs]
 refine call (idm txT) h4 ?_
 rintro _ _ ⟨rfl,rfl⟩
 simp (maxSteps:=1000000) [go_sem]
 refine zn h5 ?_
 simp (maxSteps:=1000000) [go_sem]
 refine zn h6 ?_ (ha':=by simp[go_sem])
 simp (maxSteps:=1000000) [go_sem]
 exact KT
end Go.Proofs.YthbmelihnabkaaaGreat
end
section
namespace Go.Proofs.YthbmelihnabkaaaGreat
open Go.AM
set_option maxHeartbeats 8000000
set_option maxRecDepth 10000
attribute [local irreducible] za
structure Und where
 l:List Int
 s:List Int
 f:Nat
 o:Nat
 c:Nat
def Und.e(u:Und):PV:=Zo u.f (cut u.l u.f u.o) (cut u.s u.f u.c)
structure zlC(u:Und):Prop where
 w:Win u.l u.s u.f u.o u.c
 l:Ln u.l (z8 za u.l)
 s:Ln u.s (z8 za u.s)
 ll:u.l.length≤65536
 sl:u.s.length≤65536
def Chn:List Und→List Int→List Int→Prop
 | [],a,b=>a=b
 |u::us,a,b=>u.l=a∧Chn us u.s b
def Ui(us:List Und)(b:List Int)(k:Nat):List Int:=((us[k]?).map Und.l).getD b
theorem Chn.snoc:∀{us:List Und} {a b:List Int} {u:Und},Chn us a b→u.l=b→Chn (us++[u]) a u.s
 | [],_,_,_,h,hu=>⟨hu.trans h.symm,rfl⟩
 |_::_,_,_,_,h,hu=>⟨h.1,Chn.snoc h.2 hu⟩
theorem Chn.next:∀{us:List Und} {a b:List Int},Chn us a b→∀{k:Nat} (h:k<us.length),us[k].s=Ui us b (k+1)
 |u::us,a,b,h,0,_=>by
  cases us with
  |nil=>exact h.2
  |cons v us=>exact h.2.1.symm
 |u::us,a,b,h,k+1,hk=>Chn.next (us:=us) h.2 (by simpa using hk)
theorem zfG {us:List Und} {b:List Int} {k:Nat}(h:k<us.length):Ui us b k=us[k].l:=by unfold Ui;rw[List.getElem?_eq_getElem h];rfl
theorem zi4(us:List Und)(b:List Int):Ui us b us.length=b:=by unfold Ui;rw[List.getElem?_eq_none (Nat.le_refl _)];rfl
theorem zci [Gi] {P:Program} {l:List Oper} {K:St→Prop} {S:St} {b c:Bool} {ι:Type}(t:OT)(p:ι→Prop)(S1:ι→St)(h1:(Region.noSelect l.toArray&&Go.AM.okT l.toArray l.toArray.size (Array.replicate l.toArray.size false) t)=true)(h2:jL P l.toArray (fun S'=>∃i,p i∧LeS S' (S1 i)) t S)(h3:∀i,p i→K (S1 i)):XB P l K S true b c:=
 ⟨t,_,h1,h2,fun _ ⟨i,hi,h⟩=>.inr ⟨S1 i,.inl h,h3 i hi⟩⟩
def zly:OT:=.now 0 2 (.now 1 2 (.now 2 1 (.now 3 1 (.now 4 1 (.now 5 1 (.now 6 1 (.now 8 2 (.mk [(7,.now 9 1 (.mk [(10,.mk [(11,.now 12 1 (.now 13 1 (.now 14 2 (.mk [(15,.mk [(16,.now 17 0 (.mk []))])])))),(15,.mk [(11,.now 12 0 (.now 13 0 (.now 14 2 (.mk [(16,.now 17 0 (.mk []))]))))])]),(15,.mk [(10,.mk [(11,.now 12 0 (.now 13 0 (.now 14 2 (.mk [(16,.now 17 0 (.mk []))]))))])])])),(9,.mk [(7,.mk [(10,.mk [(11,.now 12 1 (.now 13 1 (.now 14 2 (.mk [(15,.mk [(16,.now 17 0 (.mk []))])])))),(15,.mk [(11,.now 12 0 (.now 13 0 (.now 14 2 (.mk [(16,.now 17 0 (.mk []))]))))])]),(15,.mk [(10,.mk [(11,.now 12 0 (.now 13 0 (.now 14 2 (.mk [(16,.now 17 0 (.mk []))]))))])])]),(15,.mk [(7,.mk [(10,.mk [(11,.now 12 0 (.now 13 0 (.now 14 2 (.mk [(16,.now 17 0 (.mk []))]))))])])])]),(15,.mk [(7,.now 9 0 (.mk [(10,.mk [(11,.now 12 0 (.now 13 0 (.now 14 2 (.mk [(16,.now 17 0 (.mk []))]))))])])),(9,.mk [(7,.mk [(10,.mk [(11,.now 12 0 (.now 13 0 (.now 14 2 (.mk [(16,.now 17 0 (.mk []))]))))])])])])]))))))))
theorem YB [Gi](s:List Int)(es:List zcI)(hs:∀x∈s,zD x)(he:∀o∈es,VZ o):CR Tryz.prog 4 [] [.p (zh s),.p (Yd es)] [] (is (.p (.bool true))):=by
 refine walk Tryz.func4 17 [] [200014] [] ?_
 simp (maxSteps:=1000000) [go_sem,Tryz.f4]
 refine zn (zaQ s 40 (by decide)) ?_
 have hl:(s.take 40).length≤40:=by rw[List.length_take];omega
 have hr:∀x∈s.take 40,zD x:=fun x hx=>hs x (List.mem_of_mem_take hx)
 generalize s.take 40=l at hl hr
 simp (maxSteps:=1000000) [go_sem]
 refine zn zbg ?_
 simp (maxSteps:=1000000) [go_sem]
 refine call [] Wk ?_
 rintro _ _ ⟨rfl,e,rfl,hT⟩
 have hsh:=uf l
 have hnew:=zbq hT l (by omega) hr (by omega)
 have hln:=lnC l (by omega) hr
 have hd0:kR (qv za l)≤120:=by
  have:kR l≤3*l.length:=y9 l
  rw[K4];omega
 have hn0:=vS l
 generalize qv za l=t at hnew hln hd0 hn0
 obtain⟨z0,e0,rfl⟩:=ym hT
 simp (maxSteps:=1000000) [go_sem]
 refine call [] hnew ?_
 rintro _ _ ⟨X,hX,_,rfl,rfl⟩
 simp (maxSteps:=1000000) [go_sem]
 refine loop (fun r:List Und×List Int×Tx=>r.1.length≤es.length∧r.1.length≤8∧Ln r.2.1 (z8 za r.2.1)∧qv za r.2.1=r.2.1∧kR r.2.1≤120+45*r.1.length∧yd r.2.2 (z8 za r.2.1)∧Chn r.1 t r.2.1∧∀u∈r.1,zlC u)
  (fun r=>[(0,.zX),(7,.os [7] 1 (r.1.map fun u=>zh u.l)),(8,.os [8] 3 (r.1.map Und.e)),(9,.p (.int .i64 r.1.length)),(10,.zX),(11,.zX),(12,.zX),(13,.zX)])
  (fun r=>[([23,0],[.p (.pt z0 e0),.lp [23,0,1] 0,.p (.sl 1 (Z2 (pl (z8 za r.2.1)))),.p (.int .i64 (Zd (z8 za r.2.1):Nat))]),([23,0,1],[.la [23,0,2] 1 0 r.2.2.g.length,.p (.int .i64 (r.2.2.f:Nat)),.p (.int .i64 (r.2.2.t:Nat))]),([23,0,2],rcs r.2.2.g)])
  (fun r=>8-r.1.length) ([],t,X) ⟨Nat.zero_le _,Nat.zero_le _,hln,hn0,by show kR t≤120+45*0;omega,hX,rfl,by simp⟩ (fun r hi=>?_)
 obtain⟨us,l,X⟩:=r
 obtain⟨i1,i2,hl,hnf,hd,hX,hch,hus⟩:=hi
 simp only at i1 i2 hl hnf hd hX hch hus
 by_cases c1:us.length<es.length∧us.length<8
 ·obtain⟨c1,c2⟩:=c1
  have em:elemAt (es.map Kj) us.length=Kj es[us.length]:=zq Kj es us.length c1
  have hk:=he es[us.length] (List.getElem_mem c1)
  generalize es[us.length]=x at em hk
  obtain⟨xf,xb,xk⟩:=x
  simp only[VZ]at hk
  have c2':(us.length:Int)<8:=by omega
  have lk:(xk.take 15).length≤15:=by rw[List.length_take];omega
  have rk:∀y∈xk.take 15,zD y:=fun y hy=>hk y (List.mem_of_mem_take hy)
  have hfew:=zaQ xk 15 (by decide)
  generalize xk.take 15=ks at lk rk hfew
  have w3:IntKind.i64.wrap ((us.length:Int)+1)=((us.length+1:Nat):Int):=zT (by omega)
  obtain⟨m,hm,hw⟩:=zoP xb
  simp (maxSteps:=1000000) [go_sem]at hw
  have hfl:=hl.flat
  have hsum:=hl.sum
  have hcl:=hl.cl
  have hLd:=hl.eq
  obtain⟨L,hL⟩:∃L,L=z8 za l:=⟨_,rfl⟩
  rw[←hL]at hfl hsum hcl
  have hX':=hX
  have hl':=hl
  rw[←hL]at hX' hl'
  have gr:=ug (.pt z0 e0) hX'
  rw[hfl]at gr
  have gf:=Xf (.pt z0 e0) hX' xf
  have ka:=yp L xf
  obtain⟨a,ha⟩:∃a,a=plc L (kf L xf):=⟨_,rfl⟩
  rw[←ha]at gf
  have go:=zih (.pt z0 e0) hX' (a:Nat) (m:Nat)
  have kg:=zi3 L (a:Nat) (m:Nat)
  obtain⟨b,hb⟩:∃b,b=plc L (goK L (a:Nat) (m:Nat)):=⟨_,rfl⟩
  have ea:kf L (a:Nat)=kf L xf:=by rw[ha];exact VO hcl ka
  have hab:a≤b:=by
   rw[ha,hb]
   refine ju hcl ?_ kg
   unfold goK
   rw[ea];omega
  have hbl:b≤l.length:=by rw[hb,←hsum];exact yY hcl kg
  have pa:plc L (kf L (a:Nat))=a:=by rw[ea,ha]
  have pb:plc L (kf L (b:Nat))=b:=by
   have:kf L (b:Nat)=goK L (a:Nat) (m:Nat):=by rw[hb];exact VO hcl kg
   rw[this,hb]
  rw[←hb]at go
  have hlen:=WK l
  obtain⟨r1,r2,r3,r4⟩:=zft hl' hnf (d:=120+45*us.length) hd (by omega) hab hbl pa pb lk rk
  have hM:=zkl hT hX' hl' (by omega) a b ks (by omega) rk
  have hO:=zm0 hl' (by omega) a b (ins:=ks) (by omega) rk
  rw[r1]at hM hO
  have hW:=zk0 (zfv (l:=l) hab hbl ks)
  obtain⟨u,hu1,hu2,hu3,hu4⟩:∃u:Und,u.l=l∧u.s=(Yf l a b ks).l∧(Yf l a b ks).edit=u.e∧Win u.l u.s u.f u.o u.c:=⟨⟨l,zR l a b ks,_,_,_⟩,rfl,rfl,rfl,hW⟩
  have hst:(Yf l a b ks).s=0:=rfl
  have hue:zlC u:=⟨hu4,by rw[hu1];exact hl,by rw[hu2];exact hO.1,by rw[hu1];omega,by rw[hu2];exact hO.2⟩
  clear r1 hW
  generalize Yf l a b ks=rp at hM hO r2 r3 r4 hst hu2 hu3
  obtain⟨l',qa,qb,qc,kk,st⟩:=rp
  simp only at hO r2 r3 r4 hst hu2
  simp only[Rep.edit]at hu3
  subst hst
  simp (maxSteps:=1000000) [go_sem,Yd,Kj,c1,c2',em,←hL]
  refine call (xm 23) gf ?_
  rintro _ _ ⟨rfl,rfl⟩
  simp (maxSteps:=1000000) [go_sem]
  refine call (xm 23) gr ?_
  rintro _ _ ⟨rfl,rfl⟩
  simp (maxSteps:=1000000) [go_sem]
  refine⟨by omega,?_⟩
  refine zci zly (fun Y:Tx=>yd Y (z8 za l')) (fun Y=>{n:=118,nv:=17,vs:=[(1,.p (.sl 3 (es.map Kj))),(4,.p (.bool false)),(5,.p (.sl 5 (za.map rowP))),(6,.lp [23,0] 0),(7,.os [7] 1 (us.map (fun u=>zh u.l)++[.sl 1 (zx l)])),(8,.os [8] 3 (us.map Und.e)),(9,.p (.int .i64 us.length)),(12,.lp [12] 0),(13,.p (.int .i64 0))],ts:=[],rs:=[([12],[qa,qb,qc,.int .i64 kk].map .p),([23,0],[.p (.pt z0 e0),.lp [23,0,1] 0,.p (.sl 1 (Z2 (pl (z8 za l')))),.p (.int .i64 (Zd (z8 za l'):Nat))]),([23,0,1],[.la [23,0,2] 1 0 Y.g.length,.p (.int .i64 (Y.f:Nat)),.p (.int .i64 (Y.t:Nat))]),([23,0,2],rcs Y.g)]}) (by kernel_rfl) ?_ ?_
  ·simp (maxSteps:=1000000) [go_sem,zly,hw]
   repeat'(first
    |(refine call (xm 23) go ?_;rintro _ _ ⟨rfl,rfl⟩;simp (maxSteps:=1000000) [go_sem])
    |(refine zn hfew ?_;simp (maxSteps:=1000000) [go_sem])
    |(refine call (xm 23) hM ?_;rintro _ _ ⟨Y,hY,rfl,rfl⟩;simp (maxSteps:=1000000) [go_sem,Rep.told];exact⟨Y,hY,by simp[go_sem,LeS,leV,leR,leA,leL,zj]⟩)
    |constructor)
  ·intro Y hY
   simp (maxSteps:=1000000) [go_sem]
   refine⟨by omega,?_⟩
   have hu5:PV.agg [qa,qb,qc]=u.e:=hu3
   rw[hu5]
   have hlen1:(us++[u]).length=us.length+1:=by rw[List.length_append,List.length_singleton]
   have hch':=hch.snoc hu1
   rw[hu2]at hch'
   refine next (us++[u],l',Y) ⟨by rw[hlen1];exact c1,by rw[hlen1];exact c2,hO.1,r3,by show kR l'≤120+45*(us++[u]).length;rw[hlen1];omega,hY,hch',fun v hv=>?_⟩ (h3:=by show 8- (us++[u]).length<8-us.length;rw[hlen1];omega)
    (h2:=by simp[go_sem,LeS,leV,leR,leA,leL,zj,w3,hu1])
   rcases List.mem_append.1 hv with hv|hv
   ·exact hus v hv
   ·rw[List.mem_singleton.1 hv];exact hue
 ·have hbool:(decide (us.length<es.length)&&decide ((us.length:Int)<8))=false:=by
   cases hb:(decide (us.length<es.length)&&decide ((us.length:Int)<8))with
   |false=>rfl
   |true=>
    simp only[Bool.and_eq_true,decide_eq_true_eq]at hb
    exact absurd ⟨hb.1,by omega⟩ c1
  have gr:=ug (.pt z0 e0) hX
  rw[hl.flat]at gr
  have w0:IntKind.i64.wrap ((us.length:Int)-1)=(us.length:Int)-1:=wrap64 (by omega) (by omega)
  simp (maxSteps:=1000000) [go_sem,Yd,hbool]
  refine call (xm 23) gr ?_
  rintro _ _ ⟨rfl,rfl⟩
  simp (maxSteps:=1000000) [go_sem,w0]
  have hle:us.length≤8:=i2
  have hend:=zi4 us l
  refine loop (fun r:Nat×Tx=>r.1≤us.length∧yd r.2 (z8 za (Ui us l r.1))) (fun r=>[(15,.p (.int .i64 ((r.1:Int)-1)))])
   (fun r=>[([23,0],[.p (.pt z0 e0),.lp [23,0,1] 0,.p (.sl 1 (Z2 (pl (z8 za (Ui us l r.1))))),.p (.int .i64 (Zd (z8 za (Ui us l r.1)):Nat))]),([23,0,1],[.la [23,0,2] 1 0 r.2.g.length,.p (.int .i64 (r.2.f:Nat)),.p (.int .i64 (r.2.t:Nat))]),([23,0,2],rcs r.2.g)]) (fun r=>r.1) (us.length,X) ⟨Nat.le_refl _,by rw[hend];exact hX⟩ (fun r hi=>?_) (h0:=by simp[go_sem,LeS,leV,leR,leA,leL,zj,hend])
  obtain⟨n,X⟩:=r
  obtain⟨j1,hX⟩:=hi
  simp only at j1 hX
  cases n with
  |succ m=>
   have hm:((m+1:Nat):Int)-1=(m:Int):=by omega
   have hge:(0:Int)≤m:=by omega
   have w1:IntKind.i64.wrap ((m:Int)-1)=(m:Int)-1:=wrap64 (by omega) (by omega)
   have em:elemAt (us.map Und.e) m=us[m].e:=zq Und.e us m j1
   have em2:elemAt (us.map (fun u=>PV.sl 1 (zx u.l))) m=.sl 1 (zx us[m].l):=zq (fun u:Und=>PV.sl 1 (zx u.l)) us m j1
   have hu:=hus us[m] (List.getElem_mem j1)
   have hs:=hch.next j1
   have htx:Ui us l m=us[m].l:=zfG j1
   rw[←hs]at hX
   generalize us[m]=u at em em2 hu hs htx hX
   have hdo:=zjY hT hX hu.s hu.l hu.w.back hu.sl hu.ll
   have hbk:=zjl u.f (cut u.l u.f u.o) (cut u.s u.f u.c)
   rw[←hs]
   simp only[hm]
   simp (maxSteps:=1000000) [go_sem,em,hge,Und.e,Zo]
   refine⟨j1,zn hbk ?_ (ha':=by simp[go_sem,Zo])⟩
   simp (maxSteps:=1000000) [go_sem,Zo]
   refine call (xm 23) hdo ?_ (ha':=by simp[go_sem,Zo])
   rintro _ _ ⟨⟨Y,hY,rfl⟩,rfl⟩
   simp (maxSteps:=1000000) [go_sem,em2]
   refine⟨j1,call (xm 23) (zcM (.pt z0 e0) hY hu.l) ?_⟩
   rintro _ _ ⟨rfl,rfl⟩
   simp (maxSteps:=1000000) [go_sem,w1]
   exact next (m,Y) ⟨by omega,by rw[htx];exact hY⟩ (h3:=by show m<m+1;omega) (h2:=by simp[go_sem,LeS,leV,leR,leA,leL,zj,htx])
  |zero=>
   simp (maxSteps:=1000000) [go_sem]
   refine loop (fun r:Nat×Tx=>r.1≤us.length∧yd r.2 (z8 za (Ui us l r.1))) (fun r=>[(16,.p (.int .i64 r.1))])
    (fun r=>[([23,0],[.p (.pt z0 e0),.lp [23,0,1] 0,.p (.sl 1 (Z2 (pl (z8 za (Ui us l r.1))))),.p (.int .i64 (Zd (z8 za (Ui us l r.1)):Nat))]),([23,0,1],[.la [23,0,2] 1 0 r.2.g.length,.p (.int .i64 (r.2.f:Nat)),.p (.int .i64 (r.2.t:Nat))]),([23,0,2],rcs r.2.g)]) (fun r=>us.length-r.1) (0,X) ⟨Nat.zero_le _,hX⟩ (fun r hi=>?_) (h0:=by simp[go_sem,LeS,leV,leR,leA,leL,zj])
   obtain⟨k,X⟩:=r
   obtain⟨j1,hX⟩:=hi
   simp only at j1 hX
   by_cases d:k<us.length
   ·have w1:IntKind.i64.wrap ((k:Int)+1)=((k+1:Nat):Int):=zT (by omega)
    have em:elemAt (us.map Und.e) k=us[k].e:=zq Und.e us k d
    have hu:=hus us[k] (List.getElem_mem d)
    have hs:=hch.next d
    have htx:Ui us l k=us[k].l:=zfG d
    rw[htx]at hX
    rw[htx]
    generalize us[k]=u at em hu hs hX
    have hdo:=zjY hT hX hu.l hu.s hu.w hu.ll hu.sl
    simp (maxSteps:=1000000) [go_sem,em,d,Und.e,Zo]
    refine call (xm 23) hdo ?_ (ha':=by simp[go_sem,Zo])
    rintro _ _ ⟨⟨Y,hY,rfl⟩,rfl⟩
    simp (maxSteps:=1000000) [go_sem,w1]
    exact next (k+1,Y) ⟨d,by rw[←hs];exact hY⟩ (h3:=by show us.length- (k+1)<us.length-k;omega) (h2:=by simp[go_sem,LeS,leV,leR,leA,leL,zj,hs])
   ·obtain rfl:k=us.length:=by omega
    rw[hend]at hX
    rw[hend]
    simp (maxSteps:=1000000) [go_sem]
    refine call (xm 23) (zcM (.pt z0 e0) hX hl) ?_
    rintro _ _ ⟨rfl,rfl⟩
    simp (maxSteps:=1000000) [go_sem]
    refine zn ye ?_
    simp (maxSteps:=1000000) [go_sem]
    exact ret
end Go.Proofs.YthbmelihnabkaaaGreat
end
