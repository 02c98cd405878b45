/- A part of the proof of this seat's statements, by an abstract machine: what each operation does to values, and what the law's functions compute. Conditions: as each law says. -/
import Derived.Test.YtjefahhmkcfiiaaGreatT43
section
namespace Go.Proofs.YtjefahhmkcfiiaaGreat
open Go.AM
set_option maxHeartbeats 4000000
set_option maxRecDepth 10000
attribute [local irreducible] za
structure Rep where
 l:List Int
 a:PV
 b:PV
 c:PV
 k:Int
 s:Int
def Rep.edit(r:Rep):PV:=.agg [r.a,r.b,r.c]
def Rep.told(r:Rep):PV:=.agg [r.a,r.b,r.c,.int .i64 r.k]
def JX:PV:=.opq (.slice none 0 0)
def YU(l:List Int)(f t:Nat)(ins:List Int):Nat:=qU l f+(yM l f t ins).length
def ux(l:List Int)(f t:Nat)(ins:List Int):Rep:=
 let n:=jo l (zD l f t ins) (qU l f) (onL l t) (YU l f t ins)
 ⟨zD l f t ins,.int .i64 n.1,zg (cut l n.1 n.2.1),zg (cut (zD l f t ins) n.1 n.2.2),
  (plc (zL za (zD l f t ins)) (cnt (pl (zL za (zD l f t ins))) (qE l (zD l f t ins) (qU l f) t (onL l t) (YU l f t ins):Nat)):Nat),0⟩
def yh(l:List Int)(f t:Int)(ins:List Int):Rep:=
 if okT (zL za l) f t=true then
  if(zD l f.toNat t.toNat ins).length≤65536 then ux l f.toNat t.toNat ins else⟨l,.int .i64 0,JX,JX,0,3⟩
 else⟨l,.int .i64 0,JX,JX,0,2⟩
theorem Ui {l:List Int}(hr:∀x∈l,zB x)(hn:l.length≤65536) {f t:Nat}(hft:f≤t)(ht:t≤l.length) {ins:List Int}(hi:ins.length≤65536)(hri:∀x∈ins,zB x):
  (∀y∈zD l f t ins,zB y)∧YU l f t ins≤(zD l f t ins).length:=by
 have hb:=xB l f
 have ho:=VA l ht
 constructor
 ·unfold zD
  refine Qi (QH hr _) (Qi ?_ (QA hr _))
  unfold yM
  refine Zr.rune _ ?_ (Qi ?_ (Qi hri ?_))
  ·simp only[List.length_append,cut,List.length_take,List.length_drop];omega
  ·exact QH (QA hr _) _
  ·exact QH (QA hr _) _
 ·unfold zD YU
  simp only[List.length_append,List.length_take];omega
theorem Kt {l:List Int} {L:List (List Int)}(h:Ln l L) {f t:Int}(hok:okT L f t=true):∃f' t':Nat,f=f'∧t=t'∧f'≤t'∧t'≤l.length∧plc L (kf L (f':Nat))=f'∧plc L (kf L (t':Nat))=t':=by
 obtain⟨h1,h2,h3,h4,h5⟩:=of_decide_eq_true hok
 have hs:=h.sum
 obtain⟨f',rfl⟩:∃f':Nat,f=f':=⟨f.toNat,by omega⟩
 obtain⟨t',rfl⟩:∃t':Nat,t=t':=⟨t.toNat,by omega⟩
 exact⟨f',t',rfl,rfl,by omega,by omega,by omega,by omega⟩
theorem zf7 {l:List Int} {L:List (List Int)}(h:Ln l L)(hn:l.length≤65536)(f t:Int) {ins:List Int}(hi:ins.length≤65536)(hri:∀x∈ins,zB x):
  Ln (yh l f t ins).l (zL za (yh l f t ins).l)∧(yh l f t ins).l.length≤65536:=by
 have hL:=h.eq
 unfold yh
 rw[←hL]
 split
 ·rename_i hok
  obtain⟨f',t',rfl,rfl,h1,h2,_,_⟩:=Kt h hok
  simp only[Int.toNat_natCast]
  split
  ·rename_i hl
   refine⟨⟨rfl,?_,(Ui h.r hn h1 h2 hi hri).1⟩,hl⟩
   show(zD l f' t' ins).length<2^31
   omega
  ·exact⟨⟨rfl,h.n,h.r⟩,hn⟩
 ·exact⟨⟨rfl,h.n,h.r⟩,hn⟩
def zqr(e:PV)(r:Rep):AV→List (Tok×List AV)→Prop:=fun y rs=>∃X,yP X (zL za r.l)∧rs=txR e X (zL za r.l)∧y=.tup [.p r.told,.p (.int .i64 r.s)]
theorem zcb [Gi] {e:PV}(hT:Zc e) {x:Tx} {l:List Int} {L:List (List Int)}(h:yP x L)(hl:Ln l L)(hn:l.length≤65536)(f t:Int)(ins:List Int)(hi:ins.length≤65536)(hri:∀x∈ins,zB x):
  CR Tryz.prog 45 kL [.lp [0] 0,.p (.int .i64 f),.p (.int .i64 t),.p (zg ins)] (txR e x L) (zqr e (yh l f t ins)):=by
 have hL:=hl.eq
 have hfl:=hl.flat
 cases hok:okT L f t with
 |false=>
  have hr:yh l f t ins=⟨l,.int .i64 0,JX,JX,0,2⟩:=by unfold yh;rw[←hL,if_neg (by rw[hok];decide)]
  rw[hr]
  refine CR.mono (zap e h f t ins hok) ?_
  rintro y rs ⟨rfl,rfl⟩
  exact⟨x,by rw[←hL];exact h,by rw[←hL],rfl⟩
 |true=>
  obtain⟨f',t',rfl,rfl,h1,h2,h3,h4⟩:=Kt hl hok
  subst hfl
  by_cases hs:(zD L.flatten f' t' ins).length≤65536
  ·have hr:yh L.flatten f' t' ins=ux L.flatten f' t' ins:=by
    unfold yh;rw[←hL,if_pos hok];simp only[Int.toNat_natCast];rw[if_pos hs]
   rw[hr]
   refine CR.mono (y7 hT h hl hn f' t' h1 h2 h3 h4 ins hi hri hs) ?_
   rintro y rs ⟨⟨X,x1,rfl⟩,rfl⟩
   exact⟨X,x1,rfl,rfl⟩
  ·have hr:yh L.flatten f' t' ins=⟨L.flatten,.int .i64 0,JX,JX,0,3⟩:=by
    unfold yh;rw[←hL,if_pos hok];simp only[Int.toNat_natCast];rw[if_neg hs]
   rw[hr]
   refine CR.mono (Vd hT h hl hn f' t' h1 h2 h3 h4 ins hi hri (by omega)) ?_
   rintro y rs ⟨rfl,rfl⟩
   exact⟨x,by rw[←hL];exact h,by rw[←hL],rfl⟩
end Go.Proofs.YtjefahhmkcfiiaaGreat
end
