/- A part of the proof of this seat's statements, by an abstract machine: what each operation does to values, and what the law's functions compute. Conditions: as each law says. -/
import Derived.Test.YtjefahhmkcfiiaaGreatT38
import Derived.Test.YtjefahhmkcfiiaaGreatT37
section
namespace Go.Proofs.YtjefahhmkcfiiaaGreat
open Go.AM
set_option maxHeartbeats 4000000
set_option maxRecDepth 10000
attribute [local irreducible] za
structure Tx where
 g:List Int
 f:Nat
 t:Nat
def txR(e:PV)(x:Tx)(L:List (List Int)):List (Tok×List AV):=
 [([0],[.p e,.lp [0,1] 0,.p (QL (pl L)),.p (.int .i64 (qd L:Nat))]),([0,1],[.la [0,2] 1 0 x.g.length,.p (.int .i64 (x.f:Nat)),.p (.int .i64 (x.t:Nat))]),([0,2],rcs x.g)]
def txT:List Tok:=[[0],[0,1],[0,2]]
def KT:List (Tok×Tok):=[([0],[0,1]),([0,0],[0,2])]
attribute [go_sem] txR txT KT ZV ZD
structure yP(x:Tx)(L:List (List Int)):Prop where
 ft:x.f≤x.t
 tl:x.t≤x.g.length
 n:(x.g.length:Int)≤4398046511104
 held:held x.g x.f x.t=L.flatten
 cl:ClL L
theorem yP.len {x:Tx} {L:List (List Int)}(h:yP x L):(x.g.length:Int)- (x.t-x.f)=qd L:=by
 have:=xQ x.g x.f x.t h.ft h.tl
 rw[h.held,z8]at this
 have h1:=h.ft
 have h2:=h.tl
 omega
theorem jB {e:PV}(h:Zc e):∃z y,e=.pt z y:=by
 obtain⟨c,b,j,f,p,_,rfl⟩:=h
 exact⟨_,_,rfl⟩
theorem Ws [Gi](e:PV) {x:Tx} {L:List (List Int)}(h:yP x L)(a:Int):CR Tryz.prog 44 txT [.lp [0] 0,.p (.int .i64 a)] (txR e x L) (keeps (txR e x L) (.int .i64 (plc L (kf L a):Nat))):=by
 refine JE Tryz.func44 5 [] [] [] ?_
 simp (maxSteps:=1000000) [go_sem,Tryz.f44]
 refine zo (jy h.cl a) ?_
 simp (maxSteps:=1000000) [go_sem]
 exact U4
theorem zgg [Gi](e:PV) {x:Tx} {L:List (List Int)}(h:yP x L)(a n:Int):CR Tryz.prog 52 txT [.lp [0] 0,.p (.int .i64 a),.p (.int .i64 n)] (txR e x L) (keeps (txR e x L) (.int .i64 (plc L (goK L a n):Nat))):=by
 refine JE Tryz.func52 7 [] [] [] ?_
 simp (maxSteps:=1000000) [go_sem,Tryz.f52]
 refine zo (zn3 h.cl a n) ?_
 simp (maxSteps:=1000000) [go_sem]
 exact U4
theorem yA [Gi](e:PV) {x:Tx} {L:List (List Int)}(h:yP x L):CR Tryz.prog 46 txT [.lp [0] 0] (txR e x L) (keeps (txR e x L) (.int .i64 (qd L:Nat))):=by
 refine JE Tryz.func46 3 [] [] [] ?_
 simp (maxSteps:=1000000) [go_sem,Tryz.f46]
 have hn:=h.n
 refine call KT (kW x.g x.f x.t h.ft h.tl (by omega)) ?_
 rintro _ _ ⟨rfl,rfl⟩
 simp (maxSteps:=1000000) [go_sem,h.len]
 exact U4
theorem WR [Gi](e:PV) {x:Tx} {L:List (List Int)}(h:yP x L):CR Tryz.prog 51 txT [.lp [0] 0] (txR e x L) (keeps (txR e x L) (zg L.flatten)):=by
 refine JE Tryz.func51 3 [] [] [] ?_
 simp (maxSteps:=1000000) [go_sem,Tryz.f51]
 refine call KT (WC x.g x.f x.t h.ft h.tl h.n) ?_
 rintro _ _ ⟨rfl,rfl⟩
 rw[h.held]
 simp (maxSteps:=1000000) [go_sem]
 exact U4
def zqH(e:PV)(L:List (List Int)):AV→List (Tok×List AV)→Prop:=fun x rs=>∃X:Tx,yP X L∧X.g.length=qd L+8∧x=.lp [0] 0∧rs=txR e X L
def zp5(e:PV)(L:List (List Int)):AV→List (Tok×List AV)→Prop:=fun x rs=>∃X:Tx,yP X L∧X.g.length=qd L+8∧x=.lp [18] 0∧rs=[([13,0],[.la [13,0,0] 1 0 X.g.length,.p (.int .i64 (X.f:Nat)),.p (.int .i64 (X.t:Nat))]),([13,0,0],rcs X.g),([18],[.p e,.lp [13,0] 0,.p (QL (pl L)),.p (.int .i64 (qd L:Nat))])]
theorem zlT(l:List Int)(hn:l.length<2^31)(hr:∀x∈l,zB x):ClL (zL za l)where
 full:=VD l hn hr
 sum:=by rw[Zr.sum];exact hn
theorem zck [Gi] {e:PV}(hT:Zc e)(l:List Int)(hn:l.length<2^20)(hr:∀x∈l,zB x):CR Tryz.prog 72 [] [.p e,.p (zg l)] [] (is (.p (zg (zZ za l)))):=by
 obtain⟨c,b,j,f,p,h,rfl⟩:=hT
 have:=zgX h Z3 Xk M0.1 (Zl M0.2) (qi M0.2) l hn hr
 rw[zhW]at this
 exact this
theorem WB [Gi] {e:PV}(hT:Zc e)(l:List Int)(hn:l.length<2^20)(hr:∀x∈l,zB x)(hs:(zZ za l).length≤65536):CR Tryz.prog 33 [] [.p e,.p (zg l)] [] (zqH e (zL za (zZ za l))):=by
 refine CR.ren (R:=zp5 e (zL za (zZ za l))) ?_ 100 ?_
 ·refine walk Tryz.func33 5 [] [] [] ?_
  have hr2:=Zr.rune l hn hr
  have hnf:=zck hT l hn hr
  generalize zZ za l=s at hs hr2 hnf
  have hcl:=zlT s (by omega) hr2
  have hio:=zgJ hT s (by omega) hr2
  have hsum:qd (zL za s)=s.length:=Zr.sum s
  have hfl:(zL za s).flatten=s:=Zr.flat s
  generalize zL za s=L at hcl hio hsum hfl
  obtain⟨z,y,rfl⟩:=jB hT
  simp (maxSteps:=1000000) [go_sem,Tryz.f33]
  refine zo hnf ?_
  have g:¬(65536:Int)<s.length:=by omega
  simp (maxSteps:=1000000) [go_sem,g]
  refine call [] (ziQ s (by omega)) ?_
  rintro _ _ ⟨l',rfl,hl',rfl,hh⟩
  simp (maxSteps:=1000000) [go_sem]
  refine zo hio ?_
  simp (maxSteps:=1000000) [go_sem]
  refine zi [[13,0],[13,0,0],[18]] (.lp [18] 0) (by simp) (by simp[go_sem,zd,leA,leT]) ⟨⟨l',s.length,s.length+8⟩,⟨by simp,by simp[hl'],by simp only[hl'];omega,by rw[hfl];exact hh,hcl⟩,by rw[hl',hsum],rfl,?_⟩
  simp (maxSteps:=1000000) [go_sem]
 ·rintro x rs ⟨X,h1,h2,rfl,rfl⟩
  exact⟨[([0],[18]),([0,1],[13,0]),([0,2],[13,0,0])],by simp[go_sem],by simp,X,h1,h2,by simp[go_sem],by simp[go_sem]⟩
end Go.Proofs.YtjefahhmkcfiiaaGreat
end
section
namespace Go.Proofs.YtjefahhmkcfiiaaGreat
open Go.AM
set_option maxHeartbeats 4000000
set_option maxRecDepth 10000
attribute [local irreducible] za
structure Ln(l:List Int)(L:List (List Int)):Prop where
 eq:L=zL za l
 n:l.length<2^31
 r:∀x∈l,zB x
theorem Ln.cl {l:List Int} {L:List (List Int)}(h:Ln l L):ClL L where
 full:=by rw[h.eq];exact VD l h.n h.r
 sum:=by rw[h.eq,Zr.sum];exact h.n
theorem Ln.sum {l:List Int} {L:List (List Int)}(h:Ln l L):qd L=l.length:=by rw[h.eq];exact Zr.sum l
theorem Ln.flat {l:List Int} {L:List (List Int)}(h:Ln l L):L.flatten=l:=by rw[h.eq];exact Zr.flat l
theorem zeO(L:List (List Int)):isB L 0=true:=by
 have:=VW L 0 (by omega)
 exact decide_eq_true (by omega)
theorem zcE {L:List (List Int)}(h:ClL L) {k:Nat}(hk:k≤L.length):isB L (plc L k)=true:=decide_eq_true (by rw[yT h hk])
theorem zhP {L:List (List Int)}(h:ClL L) {i:Int}(hi:i<0∨(qd L:Int)<i):isB L i=false:=by
 refine decide_eq_false (fun e=>?_)
 have:=vV h (uq L i)
 omega
theorem zah [Gi](l:List Int):CR Tryz.prog 90 [] [.p (zK za),.p (zg l),.p (.int .i64 0)] [] (is (.p (.bool true))):=by
 refine walk Tryz.func90 9 [] [3] [] ?_
 simp (maxSteps:=1000000) [go_sem,Tryz.f90]
 exact ret
theorem xW [Gi] {l:List Int} {L:List (List Int)}(h:Ln l L)(i:Int):CR Tryz.prog 37 [] [.p (zK za),.p (zg l),.p (.int .i64 i)] [] (is (.p (.bool (isB L i)))):=by
 refine walk Tryz.func37 7 [] [] [] ?_
 have hs:=h.sum
 by_cases c1:i<0
 ·rw[zhP h.cl (.inl c1)]
  simp (maxSteps:=1000000) [go_sem,Tryz.f37,c1]
  exact ret
 ·by_cases c2:(l.length:Int)<i
  ·rw[zhP h.cl (.inr (by omega))]
   simp (maxSteps:=1000000) [go_sem,Tryz.f37,c1,c2]
   exact ret
  ·by_cases c3:i=l.length
   ·have e:isB L i=true:=by rw[c3,←hs,←Zj];exact zcE h.cl (Nat.le_refl _)
    rw[e]
    subst c3
    have c1':¬((l.length:Int)<0):=by omega
    simp (maxSteps:=1000000) [go_sem,Tryz.f37,c1']
    exact ret
   ·obtain⟨n,rfl⟩:∃n:Nat,i=n:=⟨i.toNat,by omega⟩
    have c3':¬n=l.length:=by omega
    by_cases c4:n=0
    ·subst c4
     have e:isB L ((0:Nat):Int)=true:=zeO L
     rw[e]
     have c2':¬((l.length:Int)<0):=by omega
     have c5:¬(0:Int)=l.length:=by omega
     have c6:¬l=[]:=fun e=>by subst e;simp at c3
     simp (maxSteps:=1000000) [go_sem,Tryz.f37,c2',c5]
     refine zo (zah l) ?_
     simp (maxSteps:=1000000) [go_sem]
     exact ret
    ·obtain⟨m,rfl⟩:∃m,n=m+1:=⟨n-1,by omega⟩
     have hb:=KN ZN l (m+1) m rfl (by omega) h.n h.r
     rw[Ye l L h.eq h.cl m (by omega)]at hb
     generalize isB L ((m+1:Nat):Int)=q at hb
     have c1':¬((m:Int)+1<0):=by omega
     have c2':¬((l.length:Int)< (m:Int)+1):=by omega
     have c3'':¬((m:Int)+1=l.length):=by omega
     simp (maxSteps:=1000000) [go_sem,Tryz.f37,c1',c2',c3'']
     refine zo hb ?_
     simp (maxSteps:=1000000) [go_sem]
     exact ret
end Go.Proofs.YtjefahhmkcfiiaaGreat
end
section
namespace Go.Proofs.YtjefahhmkcfiiaaGreat
open Go.AM
set_option maxHeartbeats 4000000
set_option maxRecDepth 100000
def zcT(v:Row):Bool:=decide (v.a=4) || decide (v.a=5) || decide (v.a=8)
def zpZ:Bool:=((yX 5).filter fun w=>decide (w.a=1)).all fun w=>(decide (w.t<44032) || decide (55203<w.f))&&(yX 4).all fun v=>zgj w v || zcT v
def zpR:Bool:=((yX 6).filter fun w=>decide (w.a=2)).all fun w=>(decide (w.t<44032) || decide (55203<w.f))&&(yX 4).all fun v=>zgj w v || zcT v
theorem zke:zpZ=true:=by decide+kernel
theorem zlG:zpR=true:=by decide+kernel
attribute [local irreducible] za
theorem zbo {k n x:Int}(hf:(((yX k).filter fun w=>decide (w.a=n)).all fun w=>(decide (w.t<44032) || decide (55203<w.f))&&(yX 4).all fun v=>zgj w v || zcT v)=true)(h:aL za k x=n)(hn:n≠0):
  zP za x=0∨zP za x=4∨zP za x=5∨zP za x=8:=by
 obtain⟨w,h1,h2,h3,h4⟩:=row_in (k:=k) (x:=x) (by rw[h];exact hn)
 have f:=List.all_eq_true.1 hf w (List.mem_filter.2 ⟨h1,decide_eq_true (by omega)⟩)
 simp only[Bool.and_eq_true,Bool.or_eq_true,decide_eq_true_eq]at f
 by_cases b0:zP za x=0
 ·exact .inl b0
 ·have e:zP za x=aL za 4 x:=by unfold zP;rw[if_neg (by omega)]
  obtain⟨v,g1,g2,g3,g4⟩:=row_in (k:=4) (x:=x) (by rw[←e];exact b0)
  have f2:=List.all_eq_true.1 f.2 v g1
  rw[zcW h2 h3 g2 g3]at f2
  simp only[zcT,Bool.false_or,Bool.or_eq_true,decide_eq_true_eq]at f2
  omega
theorem zgW {x:Int}(h:aL za 5 x=1):zP za x=0∨zP za x=4∨zP za x=5∨zP za x=8:=zbo zke h (by decide)
theorem zgk {x:Int}(h:ZT za x=2):zP za x=0∨zP za x=4∨zP za x=5∨zP za x=8:=by
 unfold ZT at h
 split at h
 ·exact zbo zlG h (by decide)
 ·split at h<;>exact absurd h (by decide)
def YD(p x:Int):Bool:=
 if zP za x=6 then decide (zP za p=6)
 else if zP za x=0 then((decide (zP za p=5)&&pcD x) || (decide (ZT za x=2)&&decide (ZT za p≠0)&&decide (ZT za p≠2)))
 else false
theorem zk3 {p x:Int}(h1:xJ za p [] x=true)(h2:YD p x=false)(pre:List Int):xJ za p pre x=true:=by
 unfold xJ at h1⊢
 by_cases c1:zP za p=1∧zP za x=2
 ·rw[if_pos c1]at h1;exact absurd h1 (by decide)
 rw[if_neg c1]at h1⊢
 by_cases c2:(ja (zP za p) || ja (zP za x))=true
 ·rw[if_pos c2]
 rw[if_neg c2]at h1⊢
 by_cases c3:QN (zP za p) (zP za x)=true
 ·rw[if_pos c3]at h1;exact absurd h1 (by decide)
 rw[if_neg c3]at h1⊢
 by_cases c4:zP za x=4∨zP za x=5∨zP za x=8∨zP za p=7
 ·rw[if_pos c4]at h1;exact absurd h1 (by decide)
 rw[if_neg c4]
 unfold YD at h2
 have hc:W6 za (p::pre) x=false:=by
  unfold W6
  split
  ·rename_i hx
   have hb:zP za x=0:=by have:=zgk hx;omega
   rw[if_neg (by omega),if_pos hb]at h2
   simp only[Bool.or_eq_false_iff,Bool.and_eq_false_iff,decide_eq_false_iff_not]at h2
   rw[QP]
   by_cases q:ZT za p=2
   ·rw[if_pos q]
   ·rw[if_neg q,if_pos (by omega)]
  ·rfl
 have hp:W5 za p pre x=false:=by
  unfold W5
  split
  ·rename_i hx
   have hb:zP za x=0:=by have:=zgW hx;omega
   rw[if_neg (by omega),if_pos hb]at h2
   simp only[Bool.or_eq_false_iff,Bool.and_eq_false_iff,decide_eq_false_iff_not,pcD]at h2
   rw[if_neg (by omega)]
  ·rfl
 have hf:uz za (p::pre) x=false:=by
  unfold uz
  split
  ·rename_i hx
   rw[if_pos hx]at h2
   have h2':=of_decide_eq_false h2
   rw[QU,if_neg h2'];rfl
  ·rfl
 rw[hc,hp,hf];rfl
theorem zbC [Gi] {e:PV}(hT:Zc e) {r:Int}(hr:zB r):CR Tryz.prog 202 [] [.p e,.p (.int .i32 r)] [] (is (.p (.int .i64 (zP za r)))):=by
 obtain⟨c,b,j,f,p,h,rfl⟩:=hT
 rw[←Xf]
 exact K3 h _ _ _ _ Z3 hr
theorem zd2 [Gi] {e:PV}(hT:Zc e) {r:Int}(hr:zB r):CR Tryz.prog 204 [] [.p e,.p (.int .i32 r)] [] (is (.p (.int .i64 (ZT za r)))):=by
 obtain⟨c,b,j,f,p,h,rfl⟩:=hT
 rw[←zfc]
 exact zeY h _ _ _ _ Z3 hr
theorem zlg [Gi] {e:PV}(hT:Zc e) {r:Int}(hr:zB r):CR Tryz.prog 203 [] [.p e,.p (.int .i32 r)] [] (is (.p (.bool (pcD r)))):=by
 obtain⟨c,b,j,f,p,h,rfl⟩:=hT
 rw[pcD,←zhj]
 exact zd6 h _ _ _ _ Z3 hr
theorem zg4 [Gi] {e:PV}(hT:Zc e) {r:Int}(hr:zB r):CR Tryz.prog 131 [] [.p e,.p (.int .i32 r)] [] (is (.p (.bool (decide (aL za 8 r=1))))):=by
 obtain⟨c,b,j,f,p,h,rfl⟩:=hT
 rw[←zhH]
 exact XS h _ _ _ _ Z3 hr
theorem zdp [Gi] {e:PV}(hT:Zc e) {p x:Int}(hp:zB p)(hx:zB x):CR Tryz.prog 237 [] [.p e,.p (.int .i32 p),.p (.int .i32 x)] [] (is (.p (.bool (YD p x)))):=by
 refine walk Tryz.func237 7 [9,10,16] [] [] ?_
 have b1:=zbC hT hp
 have b2:=zbC hT hx
 have k1:=zd2 hT hp
 have k2:=zd2 hT hx
 have k3:=zlg hT hx
 unfold YD
 generalize zP za p=bp at b1
 generalize zP za x=bx at b2
 generalize ZT za p=cp at k1
 generalize ZT za x=cx at k2
 generalize pcD x=px at k3
 simp (maxSteps:=1000000) [go_sem,Tryz.f237]
 refine zo b2 ?_
 by_cases c1:bx=6
 ·simp (maxSteps:=1000000) [go_sem,c1]
  refine zo b1 ?_
  simp (maxSteps:=1000000) [go_sem]
  exact ret
 by_cases c2:bx=0
 ·simp (maxSteps:=1000000) [go_sem,c2]
  refine zo b1 ?_
  by_cases c3:bp=5
  ·simp (maxSteps:=1000000) [go_sem,c3]
   refine zo k3 ?_
   cases px with
   |true=>
    simp (maxSteps:=1000000) [go_sem]
    exact ret
   |false=>
    simp (maxSteps:=1000000) [go_sem]
    refine zo k2 ?_
    by_cases c4:cx=2
    ·simp (maxSteps:=1000000) [go_sem,c4]
     refine zo k1 ?_
     by_cases c5:cp=0
     ·simp (maxSteps:=1000000) [go_sem,c5]
      exact ret
     ·simp (maxSteps:=1000000) [go_sem,c5]
      refine zo k1 ?_
      simp (maxSteps:=1000000) [go_sem]
      exact ret
    ·simp (maxSteps:=1000000) [go_sem,c4]
     exact ret
  ·simp (maxSteps:=1000000) [go_sem,c3]
   refine zo k2 ?_
   by_cases c4:cx=2
   ·simp (maxSteps:=1000000) [go_sem,c4]
    refine zo k1 ?_
    by_cases c5:cp=0
    ·simp (maxSteps:=1000000) [go_sem,c5]
     exact ret
    ·simp (maxSteps:=1000000) [go_sem,c5]
     refine zo k1 ?_
     simp (maxSteps:=1000000) [go_sem]
     exact ret
   ·simp (maxSteps:=1000000) [go_sem,c4]
    exact ret
 ·simp (maxSteps:=1000000) [go_sem,c1,c2]
  exact ret
theorem uH [Gi] {e:PV}(hT:Zc e) {l:List Int} {L:List (List Int)}(h:Ln l L) {k:Nat}(hk:k<L.length):CR Tryz.prog 125 [] [.p e,.p (zg l),.p (.int .i64 (plc L k:Nat))] [] (is (.p (.int .i64 (plc L (k+1):Nat)))):=by
 have hlt:plc L k<l.length:=by have:=yE h.cl hk (Nat.le_refl _);rw[Zj,h.sum]at this;exact this
 obtain⟨c,b,j,f,p,hv,rfl⟩:=hT
 have hd:=List.drop_eq_getElem_cons hlt
 have:=zhA hv Z3 (ckP M0.1) (cxP M0.1) (Zl M0.2) (qi M0.2) l h.n h.r (plc L k) l[plc L k] _ hd
 have hb:Beg (l.take (plc L k)).reverse l[plc L k]:=by
  by_cases c0:plc L k=0
  ·left;simp[c0]
  ·obtain⟨i,hi⟩:∃i,plc L k=i+1:=⟨plc L k-1,by omega⟩
   have hb:=Ye l L h.eq h.cl i (by omega)
   have hb2:isB L ((i+1:Nat):Int)=true:=by rw[←hi];exact zcE h.cl (by omega)
   rw[hb2]at hb
   refine .inr ⟨l[i]'(by omega),(l.take i).reverse,?_,?_⟩
   ·rw[hi];exact vZ (by omega)
   ·simp only[hi];exact hb
 have e:ku T0 (qQ T0 Z6 l[plc L k]).1 (l.drop (plc L k+1))=Q5 za l[plc L k] (l.take (plc L k)).reverse (l.drop (plc L k+1)):=by
  rw[xF]
  exact zb7 _ _ _ _ (KE.start hb)
 rw[e,zd8 l _ hlt,←h.eq,yT h.cl (by omega)]at this
 exact this
theorem zln [Gi](e:PV)(l:List Int):CR Tryz.prog 125 [] [.p e,.p (zg l),.p (.int .i64 (l.length:Nat))] [] (is (.p (.int .i64 (l.length:Nat)))):=by
 refine walk Tryz.func125 11 [] [200007] [] ?_
 have g1:¬(l.length:Int)<0:=by omega
 simp (maxSteps:=1000000) [go_sem,Tryz.f125,g1]
 exact ret
end Go.Proofs.YtjefahhmkcfiiaaGreat
end
