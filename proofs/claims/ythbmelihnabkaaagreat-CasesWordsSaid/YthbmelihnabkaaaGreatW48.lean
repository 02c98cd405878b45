/- A part of the proof of this seat's statements, by an abstract machine: what each operation does to values, and what the law's functions compute. Conditions: as each law says. -/
import Derived.Test.YthbmelihnabkaaaGreatW47
section
namespace Go.Proofs.YthbmelihnabkaaaGreat
open Go.AM
set_option maxHeartbeats 4000000
set_option maxRecDepth 10000
attribute [local irreducible] za
structure Rep where
 l:List Int
 a:PV
 b:PV
 c:PV
 k:Int
 s:Int
def Rep.edit(r:Rep):PV:=.agg [r.a,r.b,r.c]
def Rep.told(r:Rep):PV:=.agg [r.a,r.b,r.c,.int .i64 r.k]
def KH:PV:=.opq (.slice none 0 0)
def zf6(l:List Int)(f t:Nat)(ins:List Int):Nat:=ZM l f+(vE l f t ins).length
def zmY(l:List Int)(f t:Nat)(ins:List Int):Rep:=
 let n:=jm l (zX l f t ins) (ZM l f) (onL l t) (zf6 l f t ins)
 ⟨zX l f t ins,.int .i64 n.1,zh (cut l n.1 n.2.1),zh (cut (zX l f t ins) n.1 n.2.2),
  (plc (qn za (zX l f t ins)) (cnt (pl (qn za (zX l f t ins))) (Zi l (zX l f t ins) (ZM l f) t (onL l t) (zf6 l f t ins):Nat)):Nat),0⟩
def jK(l:List Int)(f t:Int)(ins:List Int):Rep:=
 if okT (qn za l) f t=true then
  if(zX l f.toNat t.toNat ins).length≤65536 then zmY l f.toNat t.toNat ins else⟨l,.int .i64 0,KH,KH,0,3⟩
 else⟨l,.int .i64 0,KH,KH,0,2⟩
theorem WT {l:List Int}(hr:∀x∈l,zu x)(hn:l.length≤65536) {f t:Nat}(hft:f≤t)(ht:t≤l.length) {ins:List Int}(hi:ins.length≤65536)(hri:∀x∈ins,zu x):
  (∀y∈zX l f t ins,zu y)∧zf6 l f t ins≤(zX l f t ins).length:=by
 have hb:=vW l f
 have ho:=K9 l ht
 constructor
 ·unfold zX
  refine q8 (Qp hr _) (q8 ?_ (ZA hr _))
  unfold vE
  refine kd.rune _ ?_ (q8 ?_ (q8 hri ?_))
  ·simp only[List.length_append,cut,List.length_take,List.length_drop];omega
  ·exact Qp (ZA hr _) _
  ·exact Qp (ZA hr _) _
 ·unfold zX zf6
  simp only[List.length_append,List.length_take];omega
theorem VZ {l:List Int} {L:List (List Int)}(h:Ln l L) {f t:Int}(hok:okT L f t=true):∃f' t':Nat,f=f'∧t=t'∧f'≤t'∧t'≤l.length∧plc L (kf L (f':Nat))=f'∧plc L (kf L (t':Nat))=t':=by
 obtain⟨h1,h2,h3,h4,h5⟩:=of_decide_eq_true hok
 have hs:=h.sum
 obtain⟨f',rfl⟩:∃f':Nat,f=f':=⟨f.toNat,by omega⟩
 obtain⟨t',rfl⟩:∃t':Nat,t=t':=⟨t.toNat,by omega⟩
 exact⟨f',t',rfl,rfl,by omega,by omega,by omega,by omega⟩
theorem znj {l:List Int} {L:List (List Int)}(h:Ln l L)(hn:l.length≤65536)(f t:Int) {ins:List Int}(hi:ins.length≤65536)(hri:∀x∈ins,zu x):
  Ln (jK l f t ins).l (qn za (jK l f t ins).l)∧(jK l f t ins).l.length≤65536:=by
 have hL:=h.eq
 unfold jK
 rw[←hL]
 split
 ·rename_i hok
  obtain⟨f',t',rfl,rfl,h1,h2,_,_⟩:=VZ h hok
  simp only[Int.toNat_natCast]
  split
  ·rename_i hl
   refine⟨⟨rfl,?_,(WT h.r hn h1 h2 hi hri).1⟩,hl⟩
   show(zX l f' t' ins).length<2^31
   omega
  ·exact⟨⟨rfl,h.n,h.r⟩,hn⟩
 ·exact⟨⟨rfl,h.n,h.r⟩,hn⟩
def zoO(e:PV)(r:Rep):AV→List (Tok×List AV)→Prop:=fun y rs=>∃X,wK X (qn za r.l)∧rs=txR e X (qn za r.l)∧y=.tup [.p r.told,.p (.int .i64 r.s)]
theorem zlF [Gi] {e:PV}(hT:qB e) {x:Tx} {l:List Int} {L:List (List Int)}(h:wK x L)(hl:Ln l L)(hn:l.length≤65536)(f t:Int)(ins:List Int)(hi:ins.length≤65536)(hri:∀x∈ins,zu x):
  CR Tryz.prog 20 jG [.lp [0] 0,.p (.int .i64 f),.p (.int .i64 t),.p (zh ins)] (txR e x L) (zoO e (jK l f t ins)):=by
 have hL:=hl.eq
 have hfl:=hl.flat
 cases hok:okT L f t with
 |false=>
  have hr:jK l f t ins=⟨l,.int .i64 0,KH,KH,0,2⟩:=by unfold jK;rw[←hL,if_neg (by rw[hok];decide)]
  rw[hr]
  refine CR.mono (Xj e h f t ins hok) ?_
  rintro y rs ⟨rfl,rfl⟩
  exact⟨x,by rw[←hL];exact h,by rw[←hL],rfl⟩
 |true=>
  obtain⟨f',t',rfl,rfl,h1,h2,h3,h4⟩:=VZ hl hok
  subst hfl
  by_cases hs:(zX L.flatten f' t' ins).length≤65536
  ·have hr:jK L.flatten f' t' ins=zmY L.flatten f' t' ins:=by
    unfold jK;rw[←hL,if_pos hok];simp only[Int.toNat_natCast];rw[if_pos hs]
   rw[hr]
   refine CR.mono (zaW hT h hl hn f' t' h1 h2 h3 h4 ins hi hri hs) ?_
   rintro y rs ⟨⟨X,x1,rfl⟩,rfl⟩
   exact⟨X,x1,rfl,rfl⟩
  ·have hr:jK L.flatten f' t' ins=⟨L.flatten,.int .i64 0,KH,KH,0,3⟩:=by
    unfold jK;rw[←hL,if_pos hok];simp only[Int.toNat_natCast];rw[if_neg hs]
   rw[hr]
   refine CR.mono (Xc hT h hl hn f' t' h1 h2 h3 h4 ins hi hri (by omega)) ?_
   rintro y rs ⟨rfl,rfl⟩
   exact⟨x,by rw[←hL];exact h,by rw[←hL],rfl⟩
end Go.Proofs.YthbmelihnabkaaaGreat
end
section
namespace Go.Proofs.YthbmelihnabkaaaGreat
open Go.AM
set_option maxHeartbeats 1000000
set_option maxRecDepth 10000
attribute [local irreducible] za
structure Win(l s:List Int)(f o c:Nat):Prop where
 fo:f≤o
 fc:f≤c
 ol:o≤l.length
 cs:c≤s.length
 t:l.take f=s.take f
 d:l.drop o=s.drop c
theorem Win.back {l s:List Int} {f o c:Nat}(h:Win l s f o c):Win s l f c o:=⟨h.fc,h.fo,h.cs,h.ol,h.t.symm,h.d.symm⟩
theorem Win.old {l s:List Int} {f o c:Nat}(h:Win l s f o c):(cut l (f:Nat) (o:Nat)).length=o-f:=by
 have h1:=h.fo
 have h3:=h.ol
 unfold cut
 rw[Int.toNat_natCast,Int.toNat_natCast,List.length_take,List.length_drop];omega
end Go.Proofs.YthbmelihnabkaaaGreat
end
