/- A part of this seat's proofs, by an abstract machine. Conditions: each law's. -/
import Derived.Test.YtfjdbbpimklecaaGreatDoorT16
import Derived.ProofKit
import Derived.Deep.Slices
set_option maxHeartbeats 400000
set_option maxRecDepth 10000
namespace Go.AM
section
theorem Yj.mono [Gi] {P:Program} {S:St} {f:FuncId} {args:List Operand} {dst:Option Nat} {K K':St→Prop}(hk:∀S,K S→K' S)(h:Yj P S f args dst K):Yj P S f args dst K':=by
 obtain⟨m,pin,R,h1,h2,h3,h4⟩:=h
 exact⟨m,pin,R,h1,h2,h3,fun x rs' hr=>hk _ (h4 x rs' hr)⟩
theorem zc0.mono [Gi] {P:Program} {S:St} {f:FuncId} {cs:List AV} {args:List Operand} {dst:Option Nat} {K K':St→Prop}(hk:∀S,K S→K' S)(h:zc0 P S f cs args dst K):zc0 P S f cs args dst K':=by
 obtain⟨m,pin,R,h1,h2,h3,h4⟩:=h
 exact⟨m,pin,R,h1,h2,h3,fun x rs' hr=>hk _ (h4 x rs' hr)⟩
theorem zfy [Gi] {P:Program} {S:St} {o:Oper} {K K':St→Prop}(hk:∀S,K S→K' S)(h:Kw P S o K):Kw P S o K':=by
 unfold Kw at h⊢
 split at h
 ·split at h
  ·split at h
   ·exact⟨h.1,h.2.mono hk⟩
   ·split at h
    ·exact⟨h.1,h.2.mono hk⟩
    ·exact h.elim
  ·exact h.elim
 ·split at h
  ·exact⟨h.1,fun e=>hk _ (h.2.1 e),fun i hi=>hk _ (h.2.2 i hi)⟩
  ·exact h.elim
 ·exact h.elim
theorem zaq [Gi] {P:Program} {S:St} {o:Oper} {K K':St→Prop}(hk:∀S,K S→K' S)(h:KC P S o K):KC P S o K':=by
 unfold KC at h⊢
 split at h
 ·exact⟨h.1,hk _ h.2⟩
 ·exact zfy hk h
theorem Jf [Gi] {P:Program} {S:St} {o:Oper} {c:Option Bool} {K K':St→Prop}(hk:∀S,K S→K' S)(h:jP P S o c K):jP P S o c K':=by
 unfold jP at h⊢
 split at h
 ·split at h
  ·exact⟨h.1,hk _ h.2⟩
  ·exact⟨h.1,hk _ h.2⟩
 ·split at h
  ·exact zaq hk h
  ·exact⟨fun e=>zaq hk (h.1 e),fun e=>⟨(h.2 e).1,hk _ (h.2 e).2⟩⟩
theorem uy [Gi] {P:Program} {ops:Array Oper}:∀{l:List Oper} {S:St} {K K':St→Prop},(∀S,K S→K' S)→Zu P ops l S K→Zu P ops l S K'
 | [],S,K,K',hk,h=>hk _ h
 |o::l,S,K,K',hk,h=>by
  unfold Zu at h⊢
  split at h
  ·exact Jf (fun S' h'=>uy hk h') h
  ·exact h.elim
theorem Ur [Gi] {P:Program} {ops:Array Oper}:∀{l:List Oper} {S:St} {K K':St→Prop},(∀S,K S→K' S)→ye P ops l S K→ye P ops l S K'
 | [],S,K,K',hk,h=>hk _ h
 |o::l,S,K,K',hk,h=>by
  unfold ye at h⊢
  split
  ·rename_i hh
   rw[if_pos hh]at h
   split at h
   ·obtain⟨x,h1,h2,h3⟩:=h
    exact⟨x,h1,h2,Ur hk h3⟩
   ·exact h.elim
  ·rename_i hh
   rw[if_neg hh]at h
   exact uy hk h
mutual
theorem XN [Gi] {P:Program} {ops:Array Oper} {K K':St→Prop}(hk:∀S,K S→K' S):∀(t:OT) {S:St},kg P ops K t S→kg P ops K' t S
 |.mk [],S,h=>by simp only[kg]at h⊢;exact hk _ h
 |.mk (x::l),S,h=>by simp only[kg]at h⊢;exact YD hk (x::l) h
 |.now i c t,S,h=>by
  simp only[kg]at h⊢
  unfold zdE at h⊢
  split
  ·rename_i o ho
   simp only[ho]at h
   unfold zhi at h⊢
   split
   ·rename_i r hr
    simp only[hr]at h
    exact⟨h.1,h.2.1,XN hk t h.2.2⟩
   ·rename_i hr
    simp only[hr]at h
  ·rename_i ho
   simp only[ho]at h
theorem YD [Gi] {P:Program} {ops:Array Oper} {K K':St→Prop}(hk:∀S,K S→K' S):∀(l:List (Nat×OT)) {S:St},yJ P ops K l S→yJ P ops K' l S
 | [],S,_=>by simp only[yJ]
 |(i,t)::l,S,h=>by
  simp only[yJ]at h⊢
  refine⟨?_,YD hk l h.2⟩
  have h1:=h.1
  cases ho:ops[i]? with
  |none=>rw[ho]at h1;exact h1.elim
  |some o=>
   rw[ho]at h1
   simp only at h1⊢
   cases hg:qj ops S o with
   |none=>rw[hg]at h1;exact h1.2.elim
   |some c=>rw[hg]at h1;exact⟨h1.1,Jf (fun S' h'=>XN hk t h') h1.2⟩
end
theorem ZO [Gi] {P:Program} {D:List Nat}:∀(c:Code) {Q Q':Exit→St→Prop} {S:St},(∀e S,Q e S→Q' e S)→wpA P D c Q S→wpA P D c Q' S
 |.skip,Q,Q',S,hq,h=>by simp only[wpA]at h⊢;exact hq _ _ h
 |.region id ops draw,Q,Q',S,hq,h=>by
  simp only[wpA]at h⊢
  split
  ·rename_i hc;rw[if_pos hc]at h;exact zez (fun S h=>hq _ _ h) h
  rename_i hl0
  rw[if_neg hl0]at h
  split
  ·rename_i hc;rw[if_pos hc]at h
   unfold lfA at h⊢
   split
   ·rename_i hd;rw[if_pos hd]at h;exact Ur (fun S h=>hq _ _ h) h
   ·rename_i hd;rw[if_neg hd]at h;exact zeX (fun S h=>hq _ _ h) h
  ·rename_i hl
   rw[if_neg hl]at h
   split
   ·rename_i hc;rw[if_pos hc]at h;exact Ur (fun S h=>hq _ _ h) h
   ·rename_i hc;rw[if_neg hc]at h;exact uy (fun S h=>hq _ _ h) h
 |.seq x y,Q,Q',S,hq,h=>by
  simp only[wpA]at h⊢
  refine ZO x (fun e S' h'=>?_) h
  cases e with
  |normal=>exact ZO y hq h'
  |_=>exact hq _ _ h'
 |.cond c x y,Q,Q',S,hq,h=>by
  simp only[wpA]at h⊢
  split at h
  ·exact⟨fun e=>ZO x hq (h.1 e),fun e=>ZO y hq (h.2 e)⟩
  ·exact h.elim
 |.block id c,Q,Q',S,hq,h=>by
  simp only[wpA]at h⊢
  refine ZO c (fun e S' h'=>?_) h
  cases e with
  |exit i=>
   simp only[]at h'⊢
   split
   ·rename_i hi;rw[if_pos hi]at h';exact hq _ _ h'
   ·rename_i hi;rw[if_neg hi]at h';exact hq _ _ h'
  |_=>exact hq _ _ h'
 |.loop c,Q,Q',S,hq,h=>by
  simp only[wpA]at h⊢
  obtain⟨ι,st,m,h0,hr⟩:=h
  refine⟨ι,st,m,h0,fun i=>ZO c (fun e S' h'=>?_) (hr i)⟩
  cases e with
  |normal=>exact h'
  |_=>exact hq _ _ h'
 |.exit id,Q,Q',S,hq,h=>by simp only[wpA]at h⊢;exact hq _ _ h
 |.ret,Q,Q',S,hq,h=>by simp only[wpA]at h⊢;exact hq _ _ h
 |.rangeFunc ..,Q,Q',S,hq,h=>by simp only[wpA]at h
 |.scope _,Q,Q',S,hq,h=>by simp only[wpA]at h
 |.label _,Q,Q',S,hq,h=>by simp only[wpA]at h
 |.goto _,Q,Q',S,hq,h=>by simp only[wpA]at h
 |.refuse _,Q,Q',S,hq,h=>by simp only[wpA]at h
def zer {ι:Type}(st:ι→St)(Q:Exit→St→Prop):Exit→St→Prop:=fun e S=>match e with|.normal=>∃i,S=st i|e=>Q e S
@[go_sem] theorem znS {ι : Type} {st : ι → St} {Q : Exit → St → Prop} {S : St} {k : Nat} : zer st Q (.exit k) S = Q (.exit k) S := rfl
@[go_sem] theorem zo5 {ι : Type} {st : ι → St} {Q : Exit → St → Prop} {S : St} : zer st Q .ret S = Q .ret S := rfl
theorem Q5 {ι:Type} {st:ι→St} {Q:Exit→St→Prop} {S:St}(i:ι)(h:S=st i):zer st Q .normal S:=⟨i,h⟩
theorem yP [Gi] {P:Program} {D:List Nat} {x y rest:Code} {Q:Exit→St→Prop} {S:St} {v:AV} {ι:Type}(st:ι→St)(h:kJ P D x y (zer st Q) S v)(hr:∀i,wpA P D rest Q (st i)):kJ P D x y (zbK P D rest Q) S v:=by
 have hq:∀e S,zer st Q e S→zbK P D rest Q e S:=fun e S h=>by
  cases e with
  |normal=>obtain⟨i,rfl⟩:=h;exact hr i
  |_=>exact h
 unfold kJ at h⊢
 split at h
 ·exact⟨fun e=>ZO x hq (h.1 e),fun e=>ZO y hq (h.2 e)⟩
 ·exact h.elim
theorem zj:∀l:List AV,leL l l
 | []=>trivial
 |x::l=>⟨zjn x,zj l⟩
attribute [go_sem] has
end
end Go.AM
namespace Go.Proofs.YtfjdbbpimklecaaGreatDoor
section
open Go.AM
def is(x:AV):AV→List (Tok×List AV)→Prop:=fun y rs=>rs=[]∧y=x
structure Row where
 k:Int
 f:Int
 t:Int
 a:Int
 b:Int
 deriving DecidableEq
def rowP(r:Row):PV:=.agg [.int .i64 r.k,.int .i64 r.f,.int .i64 r.t,.int .i64 r.a,.int .i64 r.b]
def z6(l:List Row):PV:=.sl 5 (l.map rowP)
def rowOf(o:Oper):Option (Nat×Row):=
 match o.dst,o.guard,o.op with
 |some d,none,.build 197 ⟨[(0,.const (.int .i64 k)),(1,.const (.int .i64 f)),(2,.const (.int .i64 t)),(3,.const (.int .i64 a)),(4,.const (.int .i64 b))]⟩=>some (d,⟨k,f,t,a,b⟩)
 |_,_,_=>none
def UT(S:St):Nat→List Row→St
 |_,[]=>S
 |d,r::rs=>UT (S.set d (.p (rowP r))) (d+1) rs
theorem zav:∀(rs:List Row) (S:St) (d:Nat),S.nv≤d→S.ex=[]→∃ts,UT S d rs={S with ts:=ts}
 | [],S,_,_,_=>⟨S.ts,rfl⟩
 |r::rs,S,d,h,he=>by
  have e:S.set d (.p (rowP r))={S with ts:=(d,.p (rowP r))::S.ts}:=by
   unfold St.set St.kept
   rw[he,if_neg (by simp;omega)]
  obtain⟨ts,h'⟩:=zav rs (S.set d (.p (rowP r))) (d+1) (by rw[e];show S.nv≤d+1;omega) (by rw[e];exact he)
  exact⟨ts,by rw[UT,h',e]⟩
theorem zdZ:∀(rs:List Row) (S:St) (d t:Nat),(UT S d rs).get t=if d≤t then match rs[t-d]? with|some r=>.p (rowP r)|none=>S.get t else S.get t
 | [],S,d,t=>by simp[UT]
 |r::rs,S,d,t=>by
  rw[UT,zdZ rs,St.za1]
  rcases Nat.lt_trichotomy t d with h|h|h
  ·rw[if_neg (show ¬d+1≤t by omega),if_neg (show ¬d=t by omega),if_neg (show ¬d≤t by omega)]
  ·subst h
   rw[if_neg (show ¬t+1≤t by omega),if_pos rfl,if_pos (Nat.le_refl _)]
   simp
  ·have e:t-d=(t- (d+1))+1:=by omega
   rw[if_pos (show d+1≤t by omega),if_pos (show d≤t by omega),if_neg (show ¬d=t by omega),e,List.getElem?_cons_succ]
theorem row_step [Gi] {o:Oper} {rest:List Oper} {d:Nat} {r:Row}(h:rowOf o=some (d,r)) {ops:Array Oper} {S:St}(hd:d<S.n) {K:St→Prop}:Zu Tryz.prog ops (o::rest) S K=Zu Tryz.prog ops rest (S.set d (.p (rowP r))) K:=by
 unfold rowOf at h
 split at h
 ·rename_i d' k f t a b h1 h2 h3
  injection h with h;injection h with h4 h5;subst h4;subst h5
  obtain⟨dst,op,ty,pos,af,gu⟩:=o
  simp only at h1 h2 h3
  subst h1;subst h2;subst h3
  simp[go_sem,rowP,hd]
 ·cases h
theorem XK [Gi] {ops:Array Oper} {K:St→Prop}:∀(rows:List Row) (l:List Oper) (d:Nat) (S:St),(l.take rows.length).map rowOf=(rows.zipIdx d).map (fun x=>some (x.2,x.1))→d+rows.length≤S.n→
  Zu Tryz.prog ops (l.drop rows.length) (UT S d rows) K→Zu Tryz.prog ops l S K
 | [],l,d,S,_,_,h=>by simpa[UT]using h
 |r::rows,[],d,S,e,_,_=>by simp at e
 |r::rows,o::l,d,S,e,hn,h=>by
  simp only[List.length_cons,List.take_succ_cons,List.map_cons,List.zipIdx_cons,List.cons.injEq]at e
  simp only[List.length_cons]at hn
  rw[row_step e.1 (by omega)]
  exact XK rows l (d+1) _ e.2 (by rw[St.zfU];omega) (by simpa[UT]using h)
theorem zem {S:St}(d:Nat)(rows:List Row):∀(i:Nat) (l:List (Nat×Operand)),l=((rows.drop i).zipIdx i).map (fun x=>(x.2,.tmp (d+x.2)))→
  ∃c:Prop,c∧Zz (UT S d rows) l=(c,some (((rows.drop i).zipIdx i).map fun x=>(x.2,rowP x.1))):=by
 intro i l
 induction l generalizing i with
 |nil=>
  intro e
  cases hr:rows.drop i with
  |nil=>exact⟨True,trivial,rfl⟩
  |cons r rs=>rw[hr]at e;simp at e
 |cons x l ih=>
  intro e
  cases hr:rows.drop i with
  |nil=>rw[hr]at e;simp at e
  |cons r rs=>
   have hi:rows[i]?=some r:=by
    have:=congrArg (·[0]?) hr
    simpa using this
   have hrs:rs=rows.drop (i+1):=by
    have:=congrArg List.tail hr
    simpa using this.symm
   rw[hr]at e
   simp only[List.zipIdx_cons,List.map_cons,List.cons.injEq]at e
   obtain⟨rfl,e2⟩:=e
   obtain⟨c,hc,hp⟩:=ih (i+1) (by rw[e2,hrs])
   have hg:(UT S d rows).ev (.tmp (d+i))=.p (rowP r):=by
    show(UT S d rows).get (d+i)=_
    rw[zdZ,if_pos (by omega)]
    simp[hi]
   refine⟨(unG ((UT S d rows).ev (.tmp (d+i)))).1∧c,⟨by rw[hg];simp[go_sem],hc⟩,?_⟩
   unfold Zz
   rw[hp,hg]
   simp[go_sem,hrs]
theorem zfm(rows:List Row)(i:Nat):sizedB 5 ((rows.zipIdx i).map fun x=>(x.2,rowP x.1))=true:=by
 unfold sizedB
 rw[List.all_eq_true]
 intro x hx
 obtain⟨y,_,rfl⟩:=List.mem_map.1 hx
 rfl
theorem kH [Gi] {f:FuncId} {fn:Func}(rows:List Row) {l:List Oper} {o0 o1 o2:Oper} {i0 i1:Nat} {parts:Array (Nat×Operand)}(hf:Tryz.prog.funcs[f]?=some fn)
  (hb:fn.body=some (.seq (.region i0 [o0].toArray false) (.seq (.region i1 l.toArray false) .ret)))
  (hn:fn.ntmps=rows.length+2) (hres:uV fn.results.toList=some [(0,none)])
  (h0:o0.op=.assign (.const (.slice none 0 0))∧o0.dst=some 0∧o0.guard=none∧o0.type=24)
  (hl:(l.take rows.length).map rowOf=(rows.zipIdx 1).map (fun x=>some (x.2,x.1))) (hd:l.drop rows.length=[o1,o2])
  (h1:o1.op=.buildSlice 24 rows.length parts∧o1.dst=some (rows.length+1)∧o1.guard=none)
  (hp:parts.toList=(rows.zipIdx 0).map (fun x=>(x.2,.tmp (1+x.2))))
  (h2:o2.op=.assign (.tmp (rows.length+1))∧o2.dst=some 0∧o2.guard=none∧o2.type=24) (hs:rows.length*5≤2^24) (hok:Zt [] (.seq (.region i0 [o0].toArray false) (.seq (.region i1 l.toArray false) .ret))=true):
  CR Tryz.prog f [] [] [] (is (.p (z6 rows))):=by
 refine zx mixed 1 [] hf hb hok hres (by simp) (by simp) ?_
 obtain⟨d0,p0,t0,s0,a0,g0⟩:=o0
 obtain⟨d1,p1,t1,s1,a1,g1⟩:=o1
 obtain⟨d2,p2,t2,s2,a2,g2⟩:=o2
 simp only at h0 h1 h2
 obtain⟨rfl,rfl,rfl,rfl⟩:=h0
 obtain⟨rfl,rfl,rfl⟩:=h1
 obtain⟨rfl,rfl,rfl,rfl⟩:=h2
 rw[hn]
 simp (disch:=omega) [go_sem]
 refine XK rows l 1 _ hl (by show 1+rows.length≤rows.length+2;omega) ?_
 rw[hd]
 generalize hS:({n:=rows.length+2,nv:=1,vs:=[(0,AV.os [0] 5 [])],ts:=[],rs:=[]}:St)=S0
 obtain⟨c,hc,hp'⟩:=zem (S:=S0) 1 rows 0 parts.toList (by simpa using hp)
 have hm:(((rows.drop 0).zipIdx 0).map (fun x=>(x.2,rowP x.1))).map (·.1)=List.range' 0 rows.length:=by
  rw[List.map_map]
  exact(List.zipIdx_map_snd ..)
 have hm2:(((rows.drop 0).zipIdx 0).map (fun x=>(x.2,rowP x.1))).map (·.2)=rows.map rowP:=by
  rw[List.map_map]
  show List.map (rowP∘Prod.fst) _=_
  rw[←List.map_map,List.zipIdx_map_fst]
  rfl
 have hsz:=zfm (rows.drop 0) 0
 generalize ((rows.drop 0).zipIdx 0).map (fun x=>(x.2,rowP x.1))=L at hp' hm hm2 hsz
 obtain⟨ts,hS1⟩:=zav rows S0 1 (by rw[←hS];exact Nat.le_refl _) (by rw[←hS])
 rw[hS1,←hS]at hp'
 rw[hS1,←hS]
 simp (disch:=omega) [go_sem,hp',hm,hm2,hc,hs]
 exact⟨by simpa[go_sem]using hsz,zg _ rfl (by simp[go_sem,zf,leA,z6]) ⟨rfl,rfl⟩⟩
def JY:List Row:=[
 ⟨1,768,788,230,0⟩,⟨1,789,789,232,0⟩,⟨1,790,793,220,0⟩,⟨1,794,794,232,0⟩,⟨1,795,795,216,0⟩,⟨1,796,800,220,0⟩,
 ⟨1,801,802,202,0⟩,⟨1,803,806,220,0⟩,⟨1,807,808,202,0⟩,⟨1,809,819,220,0⟩,⟨1,820,824,1,0⟩,⟨1,825,828,220,0⟩,
 ⟨1,829,836,230,0⟩,⟨1,837,837,240,0⟩,⟨1,838,838,230,0⟩,⟨1,839,841,220,0⟩,⟨1,842,844,230,0⟩,⟨1,845,846,220,0⟩,
 ⟨1,848,850,230,0⟩,⟨1,851,854,220,0⟩,⟨1,855,855,230,0⟩,⟨1,856,856,232,0⟩,⟨1,857,858,220,0⟩,⟨1,859,859,230,0⟩,
 ⟨1,860,860,233,0⟩,⟨1,861,862,234,0⟩,⟨1,863,863,233,0⟩,⟨1,864,865,234,0⟩,⟨1,866,866,233,0⟩,⟨1,867,879,230,0⟩,
 ⟨1,1155,1159,230,0⟩,⟨1,1456,1456,10,0⟩,⟨1,1457,1457,11,0⟩,⟨1,1458,1458,12,0⟩,⟨1,1459,1459,13,0⟩,⟨1,1460,1460,14,0⟩,
 ⟨1,1461,1461,15,0⟩,⟨1,1462,1462,16,0⟩,⟨1,1463,1463,17,0⟩,⟨1,1464,1464,18,0⟩,⟨1,1465,1466,19,0⟩,⟨1,1467,1467,20,0⟩,
 ⟨1,1468,1468,21,0⟩,⟨1,1469,1469,22,0⟩,⟨1,1471,1471,23,0⟩,⟨1,1473,1473,24,0⟩,⟨1,1474,1474,25,0⟩,⟨1,1479,1479,18,0⟩,
 ⟨1,1611,1611,27,0⟩,⟨1,1612,1612,28,0⟩,⟨1,1613,1613,29,0⟩,⟨1,1614,1614,30,0⟩,⟨1,1615,1615,31,0⟩,⟨1,1616,1616,32,0⟩,
 ⟨1,1617,1617,33,0⟩,⟨1,1618,1618,34,0⟩,⟨1,1619,1620,230,0⟩,⟨1,1621,1622,220,0⟩,⟨1,1648,1648,35,0⟩,⟨1,2364,2364,7,0⟩,
 ⟨1,2381,2381,9,0⟩,⟨1,2385,2385,230,0⟩,⟨1,2386,2386,220,0⟩,⟨1,2387,2388,230,0⟩,⟨1,2492,2492,7,0⟩,⟨1,2509,2509,9,0⟩,
 ⟨1,3021,3021,9,0⟩,⟨1,3640,3641,103,0⟩,⟨1,3642,3642,9,0⟩,⟨1,3656,3659,107,0⟩,⟨1,3953,3953,129,0⟩,⟨1,3954,3954,130,0⟩,
 ⟨1,3956,3956,132,0⟩,⟨1,8400,8401,230,0⟩,⟨1,8402,8403,1,0⟩,⟨1,8404,8407,230,0⟩,⟨1,8411,8412,230,0⟩,⟨1,8417,8417,230,0⟩,
 ⟨1,8424,8424,220,0⟩,⟨1,12441,12442,8,0⟩,⟨1,65056,65062,230,0⟩,⟨1,119141,119141,216,0⟩]
def zfA:List Row:=[
 ⟨2,192,192,65,768⟩,⟨2,193,193,65,769⟩,⟨2,194,194,65,770⟩,⟨2,195,195,65,771⟩,⟨2,196,196,65,776⟩,⟨2,197,197,65,778⟩,
 ⟨2,199,199,67,807⟩,⟨2,200,200,69,768⟩,⟨2,201,201,69,769⟩,⟨2,202,202,69,770⟩,⟨2,203,203,69,776⟩,⟨2,204,204,73,768⟩,
 ⟨2,205,205,73,769⟩,⟨2,206,206,73,770⟩,⟨2,207,207,73,776⟩,⟨2,209,209,78,771⟩,⟨2,210,210,79,768⟩,⟨2,211,211,79,769⟩,
 ⟨2,212,212,79,770⟩,⟨2,213,213,79,771⟩,⟨2,214,214,79,776⟩,⟨2,217,217,85,768⟩,⟨2,218,218,85,769⟩,⟨2,219,219,85,770⟩,
 ⟨2,220,220,85,776⟩,⟨2,221,221,89,769⟩,⟨2,224,224,97,768⟩,⟨2,225,225,97,769⟩,⟨2,226,226,97,770⟩,⟨2,227,227,97,771⟩,
 ⟨2,228,228,97,776⟩,⟨2,229,229,97,778⟩,⟨2,231,231,99,807⟩,⟨2,232,232,101,768⟩,⟨2,233,233,101,769⟩,⟨2,234,234,101,770⟩,
 ⟨2,235,235,101,776⟩,⟨2,236,236,105,768⟩,⟨2,237,237,105,769⟩,⟨2,238,238,105,770⟩,⟨2,239,239,105,776⟩,⟨2,241,241,110,771⟩,
 ⟨2,242,242,111,768⟩,⟨2,243,243,111,769⟩,⟨2,244,244,111,770⟩,⟨2,245,245,111,771⟩,⟨2,246,246,111,776⟩,⟨2,249,249,117,768⟩,
 ⟨2,250,250,117,769⟩,⟨2,251,251,117,770⟩,⟨2,252,252,117,776⟩,⟨2,253,253,121,769⟩,⟨2,255,255,121,776⟩,⟨2,256,256,65,772⟩,
 ⟨2,257,257,97,772⟩,⟨2,258,258,65,774⟩,⟨2,259,259,97,774⟩,⟨2,260,260,65,808⟩,⟨2,261,261,97,808⟩,⟨2,262,262,67,769⟩,
 ⟨2,263,263,99,769⟩,⟨2,268,268,67,780⟩,⟨2,269,269,99,780⟩,⟨2,274,274,69,772⟩,⟨2,275,275,101,772⟩,⟨2,280,280,69,808⟩,
 ⟨2,281,281,101,808⟩,⟨2,304,304,73,775⟩,⟨2,323,323,78,769⟩,⟨2,324,324,110,769⟩,⟨2,352,352,83,780⟩,⟨2,353,353,115,780⟩,
 ⟨2,381,381,90,780⟩,⟨2,382,382,122,780⟩,⟨2,416,416,79,795⟩,⟨2,417,417,111,795⟩,⟨2,431,431,85,795⟩,⟨2,432,432,117,795⟩,
 ⟨2,469,469,220,772⟩,⟨2,470,470,252,772⟩,⟨2,471,471,220,769⟩,⟨2,472,472,252,769⟩,⟨2,480,480,550,772⟩,⟨2,481,481,551,772⟩,
 ⟨2,550,550,65,775⟩,⟨2,551,551,97,775⟩,⟨2,832,832,768,0⟩,⟨2,833,833,769,0⟩,⟨2,835,835,787,0⟩,⟨2,836,836,776,769⟩,
 ⟨2,884,884,697,0⟩,⟨2,894,894,59,0⟩,⟨2,901,901,168,769⟩,⟨2,902,902,913,769⟩,⟨2,903,903,183,0⟩,⟨2,904,904,917,769⟩,
 ⟨2,912,912,970,769⟩,⟨2,940,940,945,769⟩,⟨2,941,941,949,769⟩,⟨2,944,944,971,769⟩,⟨2,970,970,953,776⟩,⟨2,971,971,965,776⟩,
 ⟨2,2345,2345,2344,2364⟩,⟨2,2353,2353,2352,2364⟩,⟨2,2356,2356,2355,2364⟩,⟨2,2392,2392,2325,2364⟩,⟨2,2393,2393,2326,2364⟩,⟨2,2396,2396,2337,2364⟩,
 ⟨2,2507,2507,2503,2494⟩,⟨2,2508,2508,2503,2519⟩,⟨2,3018,3018,3014,3006⟩,⟨2,3955,3955,3953,3954⟩,⟨2,3957,3957,3953,3956⟩,⟨2,7692,7692,68,803⟩,
 ⟨2,7693,7693,100,803⟩,⟨2,7776,7776,83,775⟩,⟨2,7777,7777,115,775⟩,⟨2,7778,7778,83,803⟩,⟨2,7779,7779,115,803⟩,⟨2,7784,7784,7778,775⟩,
 ⟨2,7785,7785,7779,775⟩,⟨2,7840,7840,65,803⟩,⟨2,7841,7841,97,803⟩,⟨2,7842,7842,65,777⟩,⟨2,7843,7843,97,777⟩,⟨2,7844,7844,194,769⟩,
 ⟨2,7845,7845,226,769⟩,⟨2,7846,7846,194,768⟩,⟨2,7847,7847,226,768⟩,⟨2,7848,7848,194,777⟩,⟨2,7849,7849,226,777⟩,⟨2,7850,7850,194,771⟩,
 ⟨2,7851,7851,226,771⟩,⟨2,7852,7852,7840,770⟩,⟨2,7853,7853,7841,770⟩,⟨2,7854,7854,258,769⟩,⟨2,7855,7855,259,769⟩,⟨2,7856,7856,258,768⟩,
 ⟨2,7857,7857,259,768⟩,⟨2,7858,7858,258,777⟩,⟨2,7859,7859,259,777⟩,⟨2,7860,7860,258,771⟩,⟨2,7861,7861,259,771⟩,⟨2,7862,7862,7840,774⟩,
 ⟨2,7863,7863,7841,774⟩,⟨2,7884,7884,79,803⟩,⟨2,7885,7885,111,803⟩,⟨2,7896,7896,7884,770⟩,⟨2,7897,7897,7885,770⟩,⟨2,7936,7936,945,787⟩,
 ⟨2,7937,7937,945,788⟩,⟨2,7938,7938,7936,768⟩,⟨2,7939,7939,7937,768⟩,⟨2,8049,8049,940,0⟩,⟨2,8064,8064,7936,837⟩,⟨2,8115,8115,945,837⟩,
 ⟨2,8486,8486,937,0⟩,⟨2,8490,8490,75,0⟩,⟨2,8491,8491,197,0⟩,⟨2,8800,8800,61,824⟩,⟨2,8814,8814,60,824⟩,⟨2,10972,10972,10973,824⟩,
 ⟨2,12364,12364,12363,12441⟩,⟨2,12366,12366,12365,12441⟩,⟨2,12400,12400,12399,12441⟩,⟨2,12401,12401,12399,12442⟩,⟨2,12460,12460,12459,12441⟩,⟨2,12497,12497,12495,12442⟩,
 ⟨2,12532,12532,12454,12441⟩,⟨2,63744,63744,35912,0⟩,⟨2,63745,63745,26356,0⟩,⟨2,64285,64285,1497,1460⟩,⟨2,64287,64287,1522,1463⟩,⟨2,64298,64298,1513,1473⟩,
 ⟨2,64299,64299,1513,1474⟩,⟨2,64300,64300,64329,1473⟩,⟨2,64329,64329,1513,1468⟩,⟨2,119134,119134,119127,119141⟩]
def ziZ:List Row:=[
 ⟨3,2392,2393,1,0⟩,⟨3,2396,2396,1,0⟩,⟨3,10972,10972,1,0⟩,⟨3,64285,64285,1,0⟩,⟨3,64287,64287,1,0⟩,⟨3,64298,64300,1,0⟩,
 ⟨3,64329,64329,1,0⟩,⟨3,119134,119134,1,0⟩]
def zbt:List Row:=[
 ⟨4,0,9,3,0⟩,⟨4,10,10,2,0⟩,⟨4,11,12,3,0⟩,⟨4,13,13,1,0⟩,⟨4,14,31,3,0⟩,⟨4,127,159,3,0⟩,
 ⟨4,173,173,3,0⟩,⟨4,768,879,4,0⟩,⟨4,1155,1161,4,0⟩,⟨4,1425,1469,4,0⟩,⟨4,1471,1471,4,0⟩,⟨4,1473,1474,4,0⟩,
 ⟨4,1479,1479,4,0⟩,⟨4,1536,1541,7,0⟩,⟨4,1611,1631,4,0⟩,⟨4,1648,1648,4,0⟩,⟨4,1757,1757,7,0⟩,⟨4,1807,1807,7,0⟩,
 ⟨4,2307,2307,8,0⟩,⟨4,2362,2362,4,0⟩,⟨4,2363,2363,8,0⟩,⟨4,2364,2364,4,0⟩,⟨4,2366,2368,8,0⟩,⟨4,2369,2376,4,0⟩,
 ⟨4,2377,2380,8,0⟩,⟨4,2381,2381,4,0⟩,⟨4,2385,2391,4,0⟩,⟨4,2434,2435,8,0⟩,⟨4,2492,2492,4,0⟩,⟨4,2494,2494,4,0⟩,
 ⟨4,2495,2496,8,0⟩,⟨4,2503,2504,8,0⟩,⟨4,2507,2508,8,0⟩,⟨4,2509,2509,4,0⟩,⟨4,2519,2519,4,0⟩,⟨4,3006,3006,4,0⟩,
 ⟨4,3007,3007,8,0⟩,⟨4,3014,3016,8,0⟩,⟨4,3018,3020,8,0⟩,⟨4,3021,3021,4,0⟩,⟨4,3633,3633,4,0⟩,⟨4,3635,3635,8,0⟩,
 ⟨4,3636,3642,4,0⟩,⟨4,3655,3662,4,0⟩,⟨4,3953,3966,4,0⟩,⟨4,4352,4447,9,0⟩,⟨4,4448,4519,10,0⟩,⟨4,4520,4607,11,0⟩,
 ⟨4,8203,8203,3,0⟩,⟨4,8204,8204,4,0⟩,⟨4,8205,8205,5,0⟩,⟨4,8206,8207,3,0⟩,⟨4,8232,8238,3,0⟩,⟨4,8288,8303,3,0⟩,
 ⟨4,8400,8432,4,0⟩,⟨4,12330,12335,4,0⟩,⟨4,12441,12442,4,0⟩,⟨4,43360,43388,9,0⟩,⟨4,55216,55238,10,0⟩,⟨4,55243,55291,11,0⟩,
 ⟨4,65024,65039,4,0⟩,⟨4,65056,65071,4,0⟩,⟨4,65279,65279,3,0⟩,⟨4,119141,119141,4,0⟩,⟨4,127462,127487,6,0⟩,⟨4,127995,127999,4,0⟩,
 ⟨4,917505,917535,3,0⟩,⟨4,917536,917631,4,0⟩,⟨4,917760,917999,4,0⟩]
def zeD:List Row:=[
 ⟨5,169,169,1,0⟩,⟨5,174,174,1,0⟩,⟨5,8252,8252,1,0⟩,⟨5,8265,8265,1,0⟩,⟨5,8482,8482,1,0⟩,⟨5,8505,8505,1,0⟩,
 ⟨5,8596,8601,1,0⟩,⟨5,8617,8618,1,0⟩,⟨5,8986,8987,1,0⟩,⟨5,9193,9203,1,0⟩,⟨5,9728,9733,1,0⟩,⟨5,9735,9746,1,0⟩,
 ⟨5,9748,9861,1,0⟩,⟨5,9872,9989,1,0⟩,⟨5,9992,10002,1,0⟩,⟨5,10084,10087,1,0⟩,⟨5,127744,127994,1,0⟩,⟨5,128000,128317,1,0⟩,
 ⟨5,128326,128591,1,0⟩,⟨5,128640,128767,1,0⟩,⟨5,129292,129338,1,0⟩,⟨5,129351,129791,1,0⟩]
def zfk:List Row:=[
 ⟨6,2325,2361,2,0⟩,⟨6,2381,2381,1,0⟩,⟨6,2392,2399,2,0⟩,⟨6,2453,2472,2,0⟩,⟨6,2509,2509,1,0⟩]
def zeB:List Row:=[
 ⟨7,4352,4447,1,0⟩,⟨7,8986,8987,1,0⟩,⟨7,9193,9196,1,0⟩,⟨7,9748,9749,1,0⟩,⟨7,11904,12350,1,0⟩,⟨7,12353,13311,1,0⟩,
 ⟨7,13312,19903,1,0⟩,⟨7,19968,40959,1,0⟩,⟨7,43360,43388,1,0⟩,⟨7,44032,55203,1,0⟩,⟨7,63744,64255,1,0⟩,⟨7,65072,65135,1,0⟩,
 ⟨7,65281,65376,1,0⟩,⟨7,65504,65510,1,0⟩,⟨7,127744,127994,1,0⟩,⟨7,128000,128317,1,0⟩,⟨7,128326,128591,1,0⟩,⟨7,128640,128767,1,0⟩,
 ⟨7,129292,129338,1,0⟩,⟨7,129351,129791,1,0⟩,⟨7,131072,262141,1,0⟩]
def J0:List Row:=[
 ⟨8,48,57,1,0⟩,⟨8,65,90,1,0⟩,⟨8,95,95,1,0⟩,⟨8,97,122,1,0⟩,⟨8,170,170,1,0⟩,⟨8,181,181,1,0⟩,
 ⟨8,186,186,1,0⟩,⟨8,192,214,1,0⟩,⟨8,216,246,1,0⟩,⟨8,248,705,1,0⟩,⟨8,880,883,1,0⟩,⟨8,886,887,1,0⟩,
 ⟨8,902,902,1,0⟩,⟨8,904,1023,1,0⟩,⟨8,1024,1153,1,0⟩,⟨8,1162,1327,1,0⟩,⟨8,1329,1366,1,0⟩,⟨8,1488,1514,1,0⟩,
 ⟨8,1568,1610,1,0⟩,⟨8,2308,2361,1,0⟩,⟨8,2392,2401,1,0⟩,⟨8,2437,2489,1,0⟩,⟨8,3585,3632,1,0⟩,⟨8,4352,4607,1,0⟩,
 ⟨8,7680,8191,1,0⟩,⟨8,8486,8486,1,0⟩,⟨8,8490,8491,1,0⟩,⟨8,12353,12438,1,0⟩,⟨8,12449,12538,1,0⟩,⟨8,13312,19903,1,0⟩,
 ⟨8,19968,40959,1,0⟩,⟨8,44032,55203,1,0⟩,⟨8,63744,64255,1,0⟩,⟨8,131072,262141,1,0⟩]
theorem zfB [Gi]:CR Tryz.prog 49 [] [] [] (is (.p (z6 JY))):=
 kH JY Tryz.func49 rfl (by kernel_rfl) (by kernel_rfl) ⟨rfl,rfl,rfl,rfl⟩ (by kernel_rfl) rfl ⟨rfl,rfl,rfl⟩ (by kernel_rfl) ⟨rfl,rfl,rfl,rfl⟩ (by decide) (by kernel_rfl)
theorem zjt [Gi]:CR Tryz.prog 50 [] [] [] (is (.p (z6 zfA))):=
 kH zfA Tryz.func50 rfl (by kernel_rfl) (by kernel_rfl) ⟨rfl,rfl,rfl,rfl⟩ (by kernel_rfl) rfl ⟨rfl,rfl,rfl⟩ (by kernel_rfl) ⟨rfl,rfl,rfl,rfl⟩ (by decide) (by kernel_rfl)
theorem zmu [Gi]:CR Tryz.prog 51 [] [] [] (is (.p (z6 ziZ))):=
 kH ziZ Tryz.func51 rfl (by kernel_rfl) (by kernel_rfl) ⟨rfl,rfl,rfl,rfl⟩ (by kernel_rfl) rfl ⟨rfl,rfl,rfl⟩ (by kernel_rfl) ⟨rfl,rfl,rfl,rfl⟩ (by decide) (by kernel_rfl)
theorem zhY [Gi]:CR Tryz.prog 52 [] [] [] (is (.p (z6 zbt))):=
 kH zbt Tryz.func52 rfl (by kernel_rfl) (by kernel_rfl) ⟨rfl,rfl,rfl,rfl⟩ (by kernel_rfl) rfl ⟨rfl,rfl,rfl⟩ (by kernel_rfl) ⟨rfl,rfl,rfl,rfl⟩ (by decide) (by kernel_rfl)
theorem zk1 [Gi]:CR Tryz.prog 53 [] [] [] (is (.p (z6 zeD))):=
 kH zeD Tryz.func53 rfl (by kernel_rfl) (by kernel_rfl) ⟨rfl,rfl,rfl,rfl⟩ (by kernel_rfl) rfl ⟨rfl,rfl,rfl⟩ (by kernel_rfl) ⟨rfl,rfl,rfl,rfl⟩ (by decide) (by kernel_rfl)
theorem zkF [Gi]:CR Tryz.prog 54 [] [] [] (is (.p (z6 zfk))):=
 kH zfk Tryz.func54 rfl (by kernel_rfl) (by kernel_rfl) ⟨rfl,rfl,rfl,rfl⟩ (by kernel_rfl) rfl ⟨rfl,rfl,rfl⟩ (by kernel_rfl) ⟨rfl,rfl,rfl,rfl⟩ (by decide) (by kernel_rfl)
theorem zjm [Gi]:CR Tryz.prog 55 [] [] [] (is (.p (z6 zeB))):=
 kH zeB Tryz.func55 rfl (by kernel_rfl) (by kernel_rfl) ⟨rfl,rfl,rfl,rfl⟩ (by kernel_rfl) rfl ⟨rfl,rfl,rfl⟩ (by kernel_rfl) ⟨rfl,rfl,rfl,rfl⟩ (by decide) (by kernel_rfl)
theorem zex [Gi]:CR Tryz.prog 56 [] [] [] (is (.p (z6 J0))):=
 kH J0 Tryz.func56 rfl (by kernel_rfl) (by kernel_rfl) ⟨rfl,rfl,rfl,rfl⟩ (by kernel_rfl) rfl ⟨rfl,rfl,rfl⟩ (by kernel_rfl) ⟨rfl,rfl,rfl,rfl⟩ (by decide) (by kernel_rfl)
end
end Go.Proofs.YtfjdbbpimklecaaGreatDoor
namespace Go.AM
section
open Go.ChangeShapes Go.WideShapes
def frW(w:World)(b:Nat):Nat:=match w.heap[b]? with
 |some (.cells c _ _)=>c.size
 |_=>0
theorem zkZ {w:World} {a:Addr} {v:Value}(h:w.cell? a=some v):a.spot=none∧a.off<frW w a.block:=by
 unfold World.cell? at h
 unfold frW
 split at h
 ·rename_i c _ _ hb
  rw[hb]
  split at h
  ·cases h
  ·rename_i hs
   refine⟨by cases hq:a.spot with
    |none=>rfl
    |some _=>rw[hq]at hs;simp at hs,(Array.getElem?_eq_some_iff.1 h).1⟩
 ·cases h
section
variable {H:Type} {enc:TypeId×Value→H} {P:Program} {w:World} {base:Nat} {spare:Nat→Bool} {held:Bool}
def kK(enc:TypeId×Value→H)(P:Program)(w:World)(base:Nat)(spare:Nat→Bool)(held:Bool)(t:TypeId)(Q:List PV→Prop):Prop:=
 ∀(fuel:Nat) (cs:List Value) (x:DataW H×List MemPlace),DataW.trod enc P w base spare held fuel t cs=some x→∃xs,Q xs∧zw (frW w) w xs cs
theorem X0 {t:TypeId} {k:IntKind}(ht:P.underlying t=some (.int k)):kK enc P w base spare held t fun xs=>∃n,xs=[.int k n]∧(Lit.int k n).wf=true:=by
 intro fuel cs x h
 cases fuel with
 |zero=>simp[DataW.trod]at h
 |succ n=>
  unfold DataW.trod at h
  rw[ht]at h
  split at h<;>simp_all
  exact⟨[.int _ _],⟨_,rfl,h.1.2⟩,⟨_,[],rfl,rfl,rfl,rfl⟩⟩
theorem qJ.mk {fr:Nat→Nat} {w:World} {z b:Nat}:∀{es:List PV} {o:Nat},(∀(i:Nat) (e:PV),es[i]?=some e→∃v,zl fr w e v∧v.cells.size=z∧∀j c,v.cells[j]?=some c→c.oneCell'=true∧w.cell? ⟨b,o+i*z+j,none⟩=some c)→qJ fr w z b es o
 | [],o,h=>by simp only[qJ]
 |x::es,o,h=>by
  simp only[qJ]
  refine⟨by simpa using h 0 x rfl,qJ.mk fun i e he=>?_⟩
  have:=h (i+1) e (by simpa using he)
  rwa[show o+(i+1)*z=o+z+i*z from by rw[Nat.add_mul];omega]at this
theorem Kl {R:Nat→PV→Prop}:∀{n:Nat},(∀i,i<n→∃el,R i el)→∃es:List PV,es.length=n∧∀i el,es[i]?=some el→R i el
 |0,_=>⟨[],rfl,by simp⟩
 |n+1,h=>by
  obtain⟨es,h1,h2⟩:=Kl (n:=n) fun i hi=>h i (by omega)
  obtain⟨el,hr⟩:=h n (by omega)
  refine⟨es++[el],by simp[h1],fun i x hx=>?_⟩
  rw[List.getElem?_append]at hx
  split at hx
  ·exact h2 i x hx
  ·rename_i hi
   have hl:=(List.getElem?_eq_some_iff.1 hx).1
   simp at hl
   have:i=n:=by omega
   subst this
   simp[h1]at hx
   subst hx
   exact hr
theorem xg {t e : TypeId} {QE : PV → Prop} (ht : P.underlying t = some (.slice e)) (hz : 0 < P.cellsOf e)
    (hel : ∀ (fuel : Nat) (cs : List Value) (x : DataW H × List MemPlace), DataW.trod enc P w base spare held fuel e cs = some x → ∃ el v, QE el ∧ zl (frW w) w el v ∧ v.cells.toList = cs ∧ ∀ c ∈ cs, c.oneCell' = true) :
    kK enc P w base spare held t fun xs => ∃ es, xs = [.sl (P.cellsOf e) es] ∧ ∀ el ∈ es, QE el := by
  intro fuel cs x h
  rcases Go.Deep.open_slice ht h with ⟨rfl, _⟩ | ⟨a, len, cap, m, n, D, Pl, rfl, hb, hlc, _, hm, _, hi⟩
  · exact ⟨_, ⟨[], rfl, by simp⟩, by simp only [zw, zl]; exact ⟨_, [], rfl, rfl, .inl ⟨trivial, _, _, rfl⟩, rfl⟩⟩
  · have hlm : len ≤ m := by rw [hm]; split <;> omega
    have each : ∀ i, i < len → ∃ el v, QE el ∧ zl (frW w) w el v ∧ v.cells.size = P.cellsOf e ∧ ∀ j c, v.cells[j]? = some c → c.oneCell' = true ∧ w.cell? ((a.add (i * P.cellsOf e)).add j) = some c := by
      intro i hil
      obtain ⟨cs', h1, h2⟩ := hi i (by omega)
      obtain ⟨el, v, q, r, hv, hone⟩ := hel _ _ _ h2
      obtain ⟨k1, k2, k3⟩ := World.cells?_some h1
      refine ⟨el, v, q, r, by have : v.cells.toList.length = cs'.length := by rw [hv]
                              simpa [k2] using this, fun j c hj => ?_⟩
      have hj' : cs'[j]? = some c := by rw [← hv]; simpa using hj
      have hjl : j < P.cellsOf e := by have := (List.getElem?_eq_some_iff.1 hj').1; omega
      exact ⟨hone c (List.mem_of_getElem? hj'), (k3 j hjl).trans hj'⟩
    obtain ⟨es, hlen, hes⟩ := Kl each
    subst hlen
    refine ⟨_, ⟨es, rfl, fun el hel' => ?_⟩, ?_⟩
    · obtain ⟨i, hi'⟩ := List.mem_iff_getElem?.1 hel'
      obtain ⟨v, q, _⟩ := hes i el hi'
      exact q
    · simp only [zw, zl]
      refine ⟨_, [], rfl, rfl, ?_, rfl⟩
      by_cases h0 : es.length = 0
      · exact .inl ⟨List.eq_nil_of_length_eq_zero h0, _, _, by rw [h0]⟩
      · right
        have cell : ∀ i j, i < es.length → j < P.cellsOf e → ∃ c, w.cell? ((a.add (i * P.cellsOf e)).add j) = some c := fun i j hi' hj => by
          obtain ⟨el, v, _, _, hs, hc⟩ := each i hi'
          have : j < v.cells.size := by omega
          exact ⟨_, (hc j _ (Array.getElem?_eq_getElem this)).2⟩
        obtain ⟨c0, hc0⟩ := cell 0 0 (by omega) hz
        simp only [Nat.zero_mul, Addr.add, if_true] at hc0
        have hsp := (zkZ hc0).1
        obtain ⟨b, o, sp⟩ := a
        simp only at hsp
        subst hsp
        refine ⟨b, o, cap, rfl, hlc, ?_, qJ.mk fun i el hi' => ?_⟩
        · obtain ⟨c1, hc1⟩ := cell (es.length - 1) (P.cellsOf e - 1) (by omega) (by omega)
          rw [qw, qw] at hc1
          have := (zkZ hc1).2
          simp only at this
          have e1 : es.length * P.cellsOf e = (es.length - 1) * P.cellsOf e + P.cellsOf e := by
            obtain ⟨k, hk⟩ : ∃ k, es.length = k + 1 := ⟨es.length - 1, by omega⟩
            rw [hk, Nat.add_mul]; simp
          omega
        · obtain ⟨v, _, r, hs, hc⟩ := hes i el hi'
          refine ⟨v, r, hs, fun j c hj => ?_⟩
          have := hc j c hj
          rw [qw, qw] at this
          exact this
theorem zfH {t:TypeId}(ht:P.underlying t=some .bool):kK enc P w base spare held t fun xs=>∃b,xs=[.bool b]:=by
 intro fuel cs x h
 cases fuel with
 |zero=>simp[DataW.trod]at h
 |succ n=>
  unfold DataW.trod at h
  rw[ht]at h
  split at h<;>simp_all
  rename_i b
  cases b
  ·exact .inl ⟨_,[],rfl,rfl,by simp only[zl],rfl⟩
  ·exact .inr ⟨_,[],rfl,rfl,by simp only[zl],rfl⟩
def xz:List (List PV→Prop)→List PV→Prop
 | [],xs=>xs=[]
 |Q::Qs,xs=>∃a b,xs=a++b∧Q a∧xz Qs b
def laid(P:Program):List Field→Nat→Nat→Bool
 | [],o,n=>o==n
 |f::fs,o,n=>f.offset==o&&laid P fs (o+P.cellsOf f.type) n
def zo4(enc:TypeId×Value→H)(P:Program)(w:World)(base:Nat)(spare:Nat→Bool)(held:Bool):List Field→List (List PV→Prop)→Prop
 | [],[]=>True
 |f::fs,Q::Qs=>kK enc P w base spare held f.type Q∧zo4 enc P w base spare held fs Qs
 |_,_=>False
theorem Ke {cs:List Value} {m:Nat}:∀{fs:List Field} {Qs:List (List PV→Prop)} {o:Nat},zo4 enc P w base spare held fs Qs→laid P fs o cs.length=true→
  (∀f∈fs,∃y,DataW.trod enc P w base spare held m f.type ((cs.drop f.offset).take (P.cellsOf f.type))=some y)→∃xs,xz Qs xs∧zw (frW w) w xs (cs.drop o)
 | [],[],o,_,hl,_=>by
  simp only[laid,beq_iff_eq]at hl
  exact⟨[],rfl,by simp[zw,hl]⟩
 | [],_::_,_,h,_,_=>h.elim
 |_::_,[],_,h,_,_=>h.elim
 |f::fs,Q::Qs,o,h,hl,hy=>by
  simp only[laid,Bool.and_eq_true,beq_iff_eq]at hl
  obtain⟨y,e⟩:=hy f (by simp)
  obtain⟨a,qa,ra⟩:=h.1 _ _ _ e
  obtain⟨b,qb,rb⟩:=Ke h.2 hl.2 (fun g hg=>hy g (by simp[hg]))
  refine⟨a++b,⟨a,b,rfl,qa,qb⟩,?_⟩
  rw[hl.1]at ra
  rw[←List.take_append_drop (P.cellsOf f.type) (cs.drop o),List.drop_drop]
  exact zw.append ra rb
theorem Vr {t:TypeId} {fs:Array Field} {Qs:List (List PV→Prop)}(ht:P.underlying t=some (.struct fs))(hl:laid P fs.toList 0 (P.cellsOf t)=true)(hQ:zo4 enc P w base spare held fs.toList Qs):
  kK enc P w base spare held t (xz Qs):=by
 intro fuel cs x h
 obtain⟨xs,n,_,_,hc,hlen,hf⟩:=DataW.trod_struct ht h
 rw[←hc]at hl
 obtain⟨ys,q,r⟩:=Ke (cs:=cs) (m:=n) hQ hl (fun f hm=>by
  obtain⟨i,hi⟩:=List.mem_iff_getElem?.1 hm
  have hi':fs[i]?=some f:=by simpa using hi
  have hx:=hf i f hi'
  have:i<xs.length:=by rw[hlen];exact(Array.getElem?_eq_some_iff.1 hi').1
  exact⟨xs[i],by rw[hx];simp[this]⟩)
 exact⟨ys,q,by simpa using r⟩
theorem ziW {e:TypeId} {Q:PV→Prop}(h:kK enc P w base spare held e fun xs=>∃x,xs=[x]∧Q x):
  ∀(fuel:Nat) (cs:List Value) (x:DataW H×List MemPlace),DataW.trod enc P w base spare held fuel e cs=some x→∃el v,Q el∧zl (frW w) w el v∧v.cells.toList=cs∧∀c∈cs,c.oneCell'=true:=by
 intro fuel cs x hx
 obtain⟨xs,⟨y,rfl,q⟩,r⟩:=h _ _ _ hx
 simp only[zw]at r
 obtain⟨v,vs',rfl,h1,h2,rfl⟩:=r
 refine⟨y,v,q,h2,?_,by simpa using h1⟩
 cases v<;>simp_all [Value.oneCell',Value.cells]
theorem zw.zmI {fr:Nat→Nat} {w:World}:∀{xs:List PV} {cs:List Value},zw fr w xs cs→∀c∈cs,c.oneCell'=true
 | [],cs,h=>by simp only[zw]at h;subst h;simp
 |x::xs,cs,h=>by
  simp only[zw]at h
  obtain⟨y,ys,rfl,h1,_,h3⟩:=h
  intro c hc
  rcases List.mem_cons.1 hc with rfl|hc
  ·exact h1
  ·exact zw.zmI h3 c hc
theorem zjf {e:TypeId} {Q:List PV→Prop}(h:kK enc P w base spare held e Q):
  ∀(fuel:Nat) (cs:List Value) (x:DataW H×List MemPlace),DataW.trod enc P w base spare held fuel e cs=some x→∃el v,(∃xs,el=.agg xs∧Q xs)∧zl (frW w) w el v∧v.cells.toList=cs∧∀c∈cs,c.oneCell'=true:=by
 intro fuel cs x hx
 obtain⟨xs,q,r⟩:=h _ _ _ hx
 exact⟨.agg xs,.agg cs.toArray,⟨xs,rfl,q⟩,by simp only[zl];exact⟨_,rfl,r⟩,by simp[Value.cells],zw.zmI r⟩
end
end
end Go.AM
