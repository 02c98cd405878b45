/- A part of this seat's proofs, by an abstract machine. Conditions: each law's. -/
import Derived.Test.YtfjdbbpimklecaaGreatDoorV11
namespace Go.AM
section
theorem SR.congr [Gi] {E:Ent} {S S':St} {g:Gh} {a:Act} {w:World}(h:SR E S g a w)(h1:S'.n=S.n)(h2:∀t,S'.get t=S.get t)(h3:S'.rs=S.rs)(h4:S'.pin=S.pin):SR E S' g a w:=
 ⟨h.size.trans h1.symm,h.defers,fun t=>by rw[h2];exact h.slots t,by rw[h3];exact h.roots,h.ur,h.ut,h.own,h.frame,h.ext,h.out,h.mono,h.frb,by rw[h4];exact h.pins⟩
def isP:AV→Bool
 |.p _=>true
 |_=>false
def vr:AV→Bool
 |.p _=>true
 |.tup xs=>xs.all isP
 |_=>false
theorem zm.isP {g g':Gh} {w:World}(h:g'.fr=g.fr):∀{xs:List AV} {vs:List Value},xs.all AM.isP=true→zm g w xs vs→zm g' w xs vs
 | [],vs,_,r=>by simpa only[zm]using r
 |x::xs,vs,hp,r=>by
  simp only[List.all_cons,Bool.and_eq_true]at hp
  simp only[zm]at r⊢
  obtain⟨v,vs',e,r1,r2⟩:=r
  refine⟨v,vs',e,?_,zm.isP h hp.2 r2⟩
  cases x<;>simp[AM.isP]at hp
  simp only[za]at r1⊢
  rw[h];exact r1
theorem za.plain {g g':Gh} {w:World}(h:g'.fr=g.fr) {x:AV} {v:Value}(hp:vr x=true)(r:za g w x v):za g' w x v:=by
 cases x<;>simp[vr]at hp
 ·simp only[za]at r⊢;rw[h];exact r
 ·simp only[za]at r⊢
  obtain⟨vs,e,r⟩:=r
  exact⟨vs,e,zm.isP h (by simpa using hp) r⟩
theorem SR.zkM [Gi] {E:Ent} {S:St} {g g':Gh} {a:Act} {w w':World}(h:SR E S g a w)(hG:GS g' w' [])(hA:Aft (g.Zr []) w g' w' []):
  ∃g'',SR E S g'' a w'∧g''.fr=g'.fr∧∀b u,g''.K b=.root u→g.K b=.root u:=by
 have hK:∀b,(g.Zr []).K b=.prot:=fun b=>by
  unfold Gh.Zr
  simp only[]
  cases g.K b<;>simp[Kd.ren,inM]
 have hfr:∀b,b<w.heap.size→w'.heap[b]?=w.heap[b]?∧g'.fr b=g.fr b:=fun b hb=>⟨(hA.frame b hb (hK b)).1,(hA.frame b hb (hK b)).2.1⟩
 let g'':Gh:=⟨g'.fr,fun b=>if b<w.heap.size then g.K b else .prot⟩
 have hK'':∀b,g''.K b≠ .prot→b<w.heap.size∧g''.K b=g.K b:=fun b hb=>by
  show b<w.heap.size∧(if b<w.heap.size then g.K b else .prot)=g.K b
  by_cases hc:b<w.heap.size
  ·exact⟨hc,if_pos hc⟩
  ·exact absurd (if_neg hc) hb
 have old:∀b,g.K b≠ .prot→g''.K b=g.K b:=fun b hb=>if_pos (h.own b hb).1
 have hext:Ext g.fr w g'.fr w':=hA.ext
 have kp:xc g w g'' w' ftt ftt:=⟨hext,fun b t _ hk=>⟨(old b (by rw[hk];simp)).trans hk,fun _ hn=>Blk.of_heap (hfr b (h.own b (by rw[hk];simp)).1).1 hn⟩,fun b t _ hk=>⟨(old b (by rw[hk];simp)).trans hk,(hfr b (h.own b (by rw[hk];simp)).1).2,Zo (hfr b (h.own b (by rw[hk];simp)).1).1⟩⟩
 refine⟨g'',⟨h.size,h.defers,fun t=>za.all kp _ _ (h.slots t),fun b t hk=>?_,fun b b' t hk hk'=>?_,fun b b' t hk hk'=>?_,fun b hb=>?_,fun b hb=>?_,h.ext.trans hext,⟨hA.out.1.trans h.out.1,hA.out.2.1.trans h.out.2.1,hA.out.2.2.trans h.out.2.2⟩,
  Nat.le_trans h.mono hA.mono,hG.frb,fun b t hk ht=>?_⟩,rfl,fun b u hb=>by rw[(hK'' b (by rw[hb];simp)).2]at hb;exact hb⟩
 ·have h0:=hK'' b (by rw[hk];simp)
  rw[h0.2]at hk
  obtain⟨cs,hl,hz,arr,T,hb,hle,hc⟩:=h.roots b t hk
  exact⟨cs,hl,((hfr b h0.1).2).trans hz,arr,T,(hfr b h0.1).1.trans hb,hle,fun j x hj=>let⟨v,hv,e,r⟩:=hc j x hj;⟨v,hv,e,za.all kp _ _ r⟩⟩
 ·have h0:=hK'' b (by rw[hk];simp)
  have h1:=hK'' b' (by rw[hk'];simp)
  rw[h0.2]at hk;rw[h1.2]at hk'
  exact h.ur b b' t hk hk'
 ·have h0:=hK'' b (by rw[hk];simp)
  have h1:=hK'' b' (by rw[hk'];simp)
  rw[h0.2]at hk;rw[h1.2]at hk'
  exact h.ut b b' t hk hk'
 ·have h0:=hK'' b hb
  rw[h0.2]at hb
  exact⟨Nat.lt_of_lt_of_le h0.1 hA.mono,(h.own b hb).2⟩
 ·have hlt:=h.yQ hb
  exact⟨(hfr b hlt).1.trans (h.frame b hb).1,(hfr b hlt).2.trans (h.frame b hb).2⟩
 ·have hp:=h.pins b t hk ht
  exact⟨by rw[old b (by rw[hp.1];simp)];exact hp.1,fun n hn=>Blk.of_heap (hfr b (h.own b (by rw[hp.1];simp)).1).1 (hp.2 n hn)⟩
def kz(o:Oper):Bool:=
 match o.op with
 |.call c=>match c.callee with
  |.value _=>true
  |_=>false
 |_=>false
def Q9(o:Oper):Bool:=
 match o.op with
 |.alloc _=>o.guard.isNone&&o.dst.isSome
 |_=>false
def Q3(o:Oper):Bool:=
 match o.op with
 |.assign _=>o.after.toList.any fun e=>match e.ground with
  |.textOnly _=>true
  |.gcOnly _=>true
  |_=>false
 |_=>false
def YO(o:Oper):Bool:=
 match o.op with
 |.buildSlice .. =>true
 |_=>false
def zkt(o:Oper):Bool:=
 match o.op with
 |.convert .. =>true
 |_=>false
def UZ(o:Oper):Bool:=Zw o || kz o || Q9 o || Q3 o || YO o || zkt o
def hdr(o:Oper)(l:List Oper):Bool:=UZ o&& !(l.isEmpty&&kz o)
def bsD(P:Program)(S:St)(o:Oper):Option PR:=
 match o.op with
 |.buildSlice T n parts=>(bsR P S T n parts.toList).map fun r=>(r.1,.p (.sl r.2.1 r.2.2))
 |_=>none
theorem zdD [Gi] {P:Program} {E:Ent} {S:St} {g:Gh} {a:Act} {w:World}(hS:SR E S g a w) {o:Oper} {r:PR}(e:bsD P S o=some r)(h:r.1):
  ∃v w' g',(execOp a.eval o).run P w=.ok (.value v) w'∧SR E S g' a w'∧za g' w' r.2 v∧g'.K=g.K:=by
 unfold bsD at e
 split at e
 ·rename_i T n parts ho
  simp only[Option.map_eq_some_iff]at e
  obtain⟨⟨c,z,es⟩,e1,rfl⟩:=e
  obtain⟨v,w',g',h1,h2,h3,h4,_⟩:=KS (P:=P) hS e1 h []
  refine⟨v,w',g',?_,h2,LeA.dem _ _ _ _ _ _ h3,h4⟩
  unfold execOp;rw[ho]
  simp only[Sem.run_bind,h1,Result.andThen_ok]
  rfl
 ·cases e
def xl(P:Program)(S:St)(o:Oper):Option PR:=
 match qE P S o with
 |some r=>some r
 |none=>match o.op with
  |.assign x=>match S.ev x with
   |.os _ z es=>some (True,.p (.sl z es))
   |y=>if Zv y then some (True,y)else none
  |_=>none
theorem Xg [Gi] {P:Program} {E:Ent} {S:St} {g:Gh} {a:Act} {w:World}(hS:SR E S g a w) {o:Oper} {r:PR}(e:xl P S o=some r)(h:r.1):
  ∃v,(execOp a.eval o).run P w=.ok (.value v) w∧za g w r.2 v:=by
 unfold xl at e
 split at e
 ·rename_i r' hp
  injection e with e;subst e
  exact qC hS hp h
 ·split at e
  ·rename_i x ho
   have hrun:(execOp a.eval o).run P w=.ok (.value (a.eval x)) w:=by unfold execOp;rw[ho];rfl
   have hx:=hS.ev x
   split at e
   ·rename_i t z es hy
    injection e with e;subst e
    rw[hy]at hx
    exact⟨_,hrun,LeA.dem _ _ _ _ _ _ hx⟩
   ·split at e
    ·injection e with e;subst e
     exact⟨_,hrun,hx⟩
    ·cases e
  ·cases e
def Qd(P:Program)(o:Oper):Option (Nat×List AV):=
 match o.op with
 |.alloc T=>match o.dst,ty P T with
  |some d,some ⟨_,_,_,some zs⟩=>if zs.all PV.one then some (d,zs.map .p)else none
  |_,_=>none
 |_=>none
def U5(P:Program)(S:St)(o:Oper):St:=
 match Qd P o with
 |some (d,cs)=>if S.pin.contains [d]then S else Zx S [d] cs
 |none=>S
def jU(P:Program):List Oper→St→St
 | [],S=>S
 |o::l,S=>if hdr o l then jU P l (U5 P S o)else S
def kH [Gi](P:Program)(S:St)(o:Oper)(r:AV):Prop:=
 match o.op with
 |.call c=>
  match c.callee with
  |.value x=>
   match zbb (S.ev x)with
   |some f=>(((P.funcs[f]?).map (·.body.isSome))=some true∧((P.funcs[f]?).map (·.name))≠some "runtime.NumGoroutine")∧(Zz S [] c.args.toList).1∧CR P f [] (Zz S [] c.args.toList).2 [] fun x rs=>rs=[]∧x=r
   |_=>False
  |_=>False
 |_=>False
def gv(c:Option Bool)(x:AV):AV:=
 match c with
 |none=>x
 |some c=>.gd c x
def wH [Gi](P:Program)(S:St)(o:Oper)(c:Option Bool)(x:AV):Prop:=
 match Qd P o with
 |some (d,cs)=>x=.lp [d] 0∧c=none∧S.pin.contains [d]=false∧zw S.rs [d]=some cs
 |none=>
  match xl P S o with
  |some r=>x=r.2∧(c≠some false→r.1)
  |none=>
   match bsD P S o with
   |some r=>x=r.2∧(c≠some false→r.1)
   |none=>vr x=true∧kz o=true∧(c≠some false→kH P S o x)
def jI [Gi](P:Program)(ops:Array Oper):List Oper→St→(St→Prop)→Prop
 | [],S,K=>K S
 |o::rest,S,K=>
  if hdr o rest then
   match zY ops S o with
   |some c=>∃x,wH P S o c x∧dOK S o.dst∧jI P ops rest (S.qg o.dst (gv c x)) K
   |none=>False
  else ZW P ops (o::rest) S K
theorem Xc [Gi] {P:Program} {E:Ent} {S:St} {g:Gh} {a:Act} {w:World}(hS:SR E S g a w) {o:Oper} {r:AV}(hp:vr r=true)(h:kH P S o r) {next:Act→World→Prop} {Q:Exit→Act→World→Prop}
  (hK:∀v g' w',(∀b u,g'.K b=.root u→g.K b=.root u)→za g' w' r v→SR E S g' a w'→next (a.put o.dst v) w'):o.wp P a w next Q:=by
 unfold kH at h
 obtain⟨dst,op,tt,pos,after,guard⟩:=o
 split at h
 ·rename_i c e1
  simp only[]at e1
  subst e1
  obtain⟨callee,args,argTypes⟩:=c
  simp only[]at h
  split at h
  ·rename_i x
   split at h
   ·rename_i f hf
    obtain⟨⟨hb,hn⟩,h1,hCR⟩:=h
    have hfv:a.eval x=.func (.func f) #[] #[]:=KJ hf (hS.ev x)
    have hargs:=kq hS h1
    have ym:=hCR w (g.Zr []) (args.toList.map a.eval) hargs (hS.Zr (d:=0) (m:=[]) rfl)
    have hrun:(execOp a.eval ⟨dst,.call ⟨.value x,args,argTypes⟩,tt,pos,after,guard⟩).run P w=.ok (.enter f (args.toList.map a.eval).toArray) w:=by
     simp only[execOp,resolve,hfv,Deferred.ofValue,Sem.run_bind,Sem.run_pure,Result.andThen_ok,invoke]
     rw[jZ hb hn]
     congr 2
     apply Array.ext'
     simp
    unfold Oper.wp
    rw[hrun]
    refine ym.mono ?_
    rintro e w' ⟨v,x,rs',g',rfl,⟨rfl,rfl⟩,hrep,hG,hA⟩
    obtain⟨g'',k1,k2,k3⟩:=hS.zkM hG hA
    exact hK v g'' w' k3 (za.plain k2 hp hrep) k1
   ·exact h.elim
  ·exact h.elim
 ·exact h.elim
theorem yT {S S':St}:∀{l:List (Nat×Operand)},(∀x∈l,S.ev x.2=S'.ev x.2)→Zg S l=Zg S' l
 | [],_=>rfl
 |(i,x)::l,h=>by
  have h1:=h (i,x) (by simp)
  have h2:=yT (l:=l) (fun y hy=>h y (by simp[hy]))
  simp only[]at h1
  simp only[Zg,h1,h2]
theorem JX {S S':St} {l:List (Nat×Operand)}(h:∀x∈l,S.ev x.2=S'.ev x.2):wW S l=wW S' l:=by
 have e:(l.any fun x=>zgL (unG (S.ev x.2)).2)=l.any fun x=>zgL (unG (S'.ev x.2)).2:=by
  induction l with
  |nil=>rfl
  |cons x l ih=>simp only[List.any_cons,h x (by simp),ih fun y hy=>h y (by simp[hy])]
 unfold wW
 rw[e,yT h]
theorem ud {S S':St}:∀{l:List (Nat×Operand)},(∀x∈l,S.ev x.2=S'.ev x.2)→ZX S l=ZX S' l
 | [],_=>rfl
 |(i,x)::l,h=>by
  have h1:=h (i,x) (by simp)
  have h2:=ud (l:=l) (fun y hy=>h y (by simp[hy]))
  simp only[]at h1
  simp only[ZX,h1,h2]
theorem vB {S S':St} {x:Option Operand}(h:∀y,x=some y→S.ev y=S'.ev y):ue S x=ue S' x:=by
 cases x with
 |none=>rfl
 |some y=>simp only[ue,h y rfl]
theorem Vb {S S':St} {m:List (Tok×Tok)}:∀{l:List Operand},(∀x∈l,S.ev x=S'.ev x)→Zz S m l=Zz S' m l
 | [],_=>rfl
 |x::l,h=>by
  have h1:=h x (by simp)
  have h2:=Vb (m:=m) (l:=l) (fun y hy=>h y (by simp[hy]))
  simp only[Zz,h1,h2]
theorem WT {S S':St}:∀{l:List Operand},(∀x∈l,S.ev x=S'.ev x)→yZ S l=yZ S' l
 | [],_=>rfl
 |x::l,h=>by
  have h1:=h x (by simp)
  have h2:=WT (l:=l) (fun y hy=>h y (by simp[hy]))
  simp only[yZ,h1,h2]
theorem zaj {P:Program} {S S':St}(h:S.rs=S'.rs) {t:TypeId} {x:AV}:jx P S t x=jx P S' t x:=by
 unfold jx
 rw[h]
theorem XQ {P:Program} {S S':St} {o:Oper}(hr:S.rs=S'.rs)(h:∀x∈o.op.operands,S.ev x=S'.ev x):qE P S o=qE P S' o:=by
 obtain⟨dst,op,tt,pos,after,guard⟩:=o
 simp only[]at h
 have l0:∀t x,jx P S t x=jx P S' t x:=fun t x=>zaj hr
 unfold qE
 cases op<;>simp only[Op.operands]at h⊢
 case move x=>rw[h x (by simp)]
 case assign x=>rw[h x (by simp)]
 case pick c x y=>simp only[un1,h c (by simp),h x (by simp),h y (by simp)]
 case nilCheck x=>simp only[un1,h x (by simp)]
 case binOp op t x y _=>simp only[un2,h x (by simp),h y (by simp)]
 case unOp op t x=>simp only[un1,h x (by simp)]
 case convert s d x=>
  have hc:W5 P S s d=W5 P S' s d:=by funext y;unfold W5;rw[hr]
  simp only[un1,h x (by simp),hc]
 case slice T x lo hi mx=>
  have e0:=h x (by simp)
  have e1:=vB (S:=S) (S':=S') (x:=lo) (fun y hy=>h y (by simp[hy]))
  have e2:=vB (S:=S) (S':=S') (x:=hi) (fun y hy=>h y (by simp[hy]))
  have e3:=vB (S:=S) (S':=S') (x:=mx) (fun y hy=>h y (by simp[hy]))
  simp only[Yf,sliceB,UN,e0,e1,e2,e3,hr]
 case fieldAddr T x f=>simp only[un1,h x (by simp)]
 case field T x f=>simp only[un1,h x (by simp)]
 case indexAddr T x i=>simp only[un2,h x (by simp),h i (by simp)]
 case index T x i=>simp only[un2,h x (by simp),h i (by simp)]
 case extract x i=>simp only[un1,h x (by simp)]
 case lookup T x k ok=>simp only[un2,h x (by simp),h k (by simp)]
 case load t x=>simp only[un1,h x (by simp),l0]
 case build T parts=>
  have e1:=JX (S:=S) (S':=S') (l:=parts.toList) (fun x hx=>h x.2 (by simp;exact⟨x.1,by simpa using hx⟩))
  have e2:=ud (S:=S) (S':=S') (l:=parts.toList) (fun x hx=>h x.2 (by simp;exact⟨x.1,by simpa using hx⟩))
  simp only[Ws,e1,e2]
 case makeFunc fn first caps=>
  have e1:=WT (S:=S) (S':=S') (l:=caps.toList) (fun x hx=>h x (by simp;exact .inr (by simpa using hx)))
  cases fn<;>simp only[e1]
 case call c=>
  obtain⟨callee,args,argTypes⟩:=c
  have ha:∀x∈args.toList,S.ev x=S'.ev x:=fun x hx=>h x (by simp[Call.operands];right;simpa using hx)
  simp only[]
  split
  ·rename_i x T h1 h2
   simp only[un1,ha x (by rw[h1];simp)]
  ·rename_i x y h1
   simp only[un2,ha x (by rw[h1];simp),ha y (by rw[h1];simp)]
  ·rename_i x y h1
   simp only[un2,ha x (by rw[h1];simp),ha y (by rw[h1];simp)]
  ·rfl
theorem zdr {P:Program} {S S':St} {o:Oper}(h:∀x∈o.op.operands,S.ev x=S'.ev x):bsD P S o=bsD P S' o:=by
 unfold bsD
 cases ho:o.op
 case buildSlice T n parts=>
  rw[ho]at h
  have e1:=yT (S:=S) (S':=S') (l:=parts.toList) (fun x hx=>h x.2 (by simp[Op.operands];exact⟨x.1,by simpa using hx⟩))
  simp only[bsR,e1]
 all_goals rfl
theorem YG {P:Program} {S S':St} {o:Oper}(hr:S.rs=S'.rs)(h:∀x∈o.op.operands,S.ev x=S'.ev x):xl P S o=xl P S' o:=by
 unfold xl
 rw[XQ (P:=P) hr h]
 split
 ·rfl
 ·cases ho:o.op
  case assign x=>simp only[h x (by rw[ho];simp[Op.operands])]
  all_goals rfl
theorem Jz [Gi] {P:Program} {S S':St} {o:Oper} {r:AV}(h:∀x∈o.op.operands,S.ev x=S'.ev x)(hp:kH P S o r):kH P S' o r:=by
 obtain⟨dst,op,tt,pos,after,guard⟩:=o
 unfold kH at hp⊢
 cases op<;>simp only[]at h hp⊢
 case call c=>
  obtain⟨callee,args,argTypes⟩:=c
  simp only[Op.operands]at h
  cases callee<;>simp only[]at hp⊢
  case value x=>
   have hx:S.ev x=S'.ev x:=h x (by simp[Call.operands])
   have ha:=Vb (S:=S) (S':=S') (m:=[]) (l:=args.toList) (fun y hy=>h y (by simp[Call.operands];right;simpa using hy))
   rw[hx,ha]at hp
   exact hp
  all_goals exact hp.elim
 all_goals exact hp.elim
theorem zfJ {S S':St} {ops:Array Oper} {o:Oper}(h:∀t∈o.looksAt ops,S.get t=S'.get t):∀x∈o.op.operands,S.ev x=S'.ev x:=by
 intro x hx
 cases x with
 |tmp t=>exact h t (by
   unfold Oper.looksAt
   exact List.mem_append_left _ (List.mem_filterMap.2 ⟨.tmp t,by simpa using hx,rfl⟩))
 |_=>rfl
theorem JJ {S S':St} {ops:Array Oper} {o:Oper}(h:∀t∈o.looksAt ops,S.get t=S'.get t):zY ops S o=zY ops S' o:=by
 unfold zY
 split
 ·rfl
 ·rename_i j want hg
  split
  ·rename_i t ht
   rw[h t (by unfold Oper.looksAt;rw[hg];simp[ht])]
  ·rfl
theorem Xy [Gi] {P:Program} {S S':St} {ops:Array Oper} {o:Oper} {c:Option Bool} {x:AV}(hr:S.rs=S'.rs)(hpn:S.pin=S'.pin)(h:∀t∈o.looksAt ops,S.get t=S'.get t)(hh:wH P S o c x):wH P S' o c x:=by
 have he:=zfJ h
 unfold wH at hh⊢
 rw[←YG (P:=P) hr he,←zdr (P:=P) he,←hr,←hpn]
 split
 ·rename_i d cs hz;rw[hz]at hh;exact hh
 rename_i hz
 rw[hz]at hh
 simp only[]at hh
 split
 ·rename_i r hp;rw[hp]at hh;exact hh
 ·rename_i hp;rw[hp]at hh
  simp only[]at hh
  split
  ·rename_i r hb;rw[hb]at hh;exact hh
  ·rename_i hb;rw[hb]at hh;exact⟨hh.1,hh.2.1,fun e=>Jz he (hh.2.2 e)⟩
theorem Ji {α:Type}:∀{l:List (Tok×α)} {t:Tok} {x:α},zw l t=some x→jg l t x=l
 | [],t,x,h=>by simp[zw]at h
 |(k,y)::l,t,x,h=>by
  simp only[zw]at h
  simp only[jg]
  split
  ·rename_i e;rw[if_pos e]at h;injection h with h;subst h;subst e;rfl
  ·rename_i e;rw[if_neg e]at h;rw[Ji h]
theorem zc9 [Gi] {P:Program} {ops:Array Oper} {E:Ent} {S:St} {g:Gh} {a:Act} {w:World}(hS:SR E S g a w) {o:Oper} {c:Option Bool} {x:AV}(hc:zY ops S o=some c)(h:wH P S o c x)(hd:dOK S o.dst)
  (hno:∀d cs,Qd P o=some (d,cs)→∀b,g.K b≠ .root [d])
  {next:Act→World→Prop} {Q:Exit→Act→World→Prop} (hK:∀g' a' w',(∀b u,g'.K b=.root u→g.K b=.root u∨∃d cs,Qd P o=some (d,cs)∧u=[d])→SR E (S.qg o.dst (gv c x)) g' a' w'→next a' w'):
  if Region.wanted o (yielded ops a.tmps)then o.wp P a w next Q else next (a.put o.dst undef) w:=by
 have skip:c=some false→next (a.put o.dst undef) w:=by
  rintro rfl
  exact hK _ _ _ (fun b u h=>.inl h) (hS.qg (by simp only[gv,za];exact⟨fun e=>(by cases e),fun _=>trivial⟩) hd)
 have wnt:Region.wanted o (yielded ops a.tmps)=(c !=some false):=by
  cases c with
  |none=>rw[yI hc];rfl
  |some c=>rw[jV hS hc];cases c<;>rfl
 rw[wnt]
 by_cases hf:c=some false
 ·subst hf
  simp only[bne_self_eq_false,Bool.false_eq_true,if_false]
  exact skip rfl
 ·have hb:(c !=some false)=true:=by simpa using hf
  rw[hb]
  simp only[if_true]
  have lift:∀(v:Value) (g':Gh) (w':World),za g' w' x v→za g' w' (gv c x) v:=by
   intro v g' w' hv
   cases c with
   |none=>exact hv
   |some c=>
    cases c
    ·exact absurd rfl hf
    ·simp only[gv,za];exact⟨fun _=>hv,fun e=>by cases e⟩
  unfold wH at h
  cases hz:Qd P o with
  |some dc=>
   obtain⟨d,cs⟩:=dc
   rw[hz]at h
   obtain⟨rfl,rfl,hpin,hl⟩:=h
   have hz':=hz
   unfold Qd at hz
   split at hz
   ·rename_i T ho
    split at hz
    ·rename_i d' ds sz by_ zs hdst hT
     split at hz
     ·rename_i hone
      injection hz with hz;injection hz with hz1 hz2;subst hz1;subst hz2
      obtain⟨zv,hzv1,hzv2⟩:=QG hT rfl
      have hzr:zr g.fr w zs zv.cells.toList:=zr.of_map hzv2 hone
      have hp:g.K w.heap.size=.prot:=by
       rcases Classical.em (g.K w.heap.size=.prot)with e|e
       ·exact e
       ·have:=(hS.own _ e).1;omega
      have h1:=hS.alloc (.cells zv.cells T)
      have hext:Ext g.fr w g.fr (w.alloc (.cells zv.cells T)):=fun b o ho=>⟨ho,zP (by
       rw[heap_alloc,if_neg]
       intro e;subst e
       have:=hS.frb w.heap.size (Nat.le_refl _);omega)⟩
      have hrc:=(hzr.ext hext).Kj (g:=g)
      have h2:=h1.uX (b:=w.heap.size) (t:=[d']) (cs:=zs.map .p) (arr:=zv.cells) (T:=T) hp (.inl hS.mono) (hno d' _ hz') (by rw[heap_alloc,if_pos rfl]) (hS.frb _ (Nat.le_refl _))
       (by have:=zr.length hzr;simp at this⊢;omega) (fun j y hj=>by
        obtain⟨v,hv,h1,hr⟩:=hrc.get hj
        exact⟨v,by simpa using hv,h1,hr⟩)
      have h3:SR E S ⟨g.fr,Zu g.K w.heap.size (.root [d'])⟩ a (w.alloc (.cells zv.cells T)):=h2.congr rfl (fun _=>rfl) (Ji hl).symm rfl
      have hrun:(execOp a.eval o).run P w=.ok (.value (.pointer (some ⟨w.heap.size,0,none⟩))) (w.alloc (.cells zv.cells T)):=by
       unfold execOp;rw[ho]
       simp only[Instr.alloc,Sem.run_bind,hzv1,Result.andThen_ok,newVar,newRow,run_newObj,Sem.run_pure]
       rfl
      unfold Oper.wp;rw[hrun]
      refine hK _ _ _ (fun b u hb=>?_) (h3.qg (by simp only[gv,za];exact⟨_,zX _ _ _,rfl⟩) hd)
      by_cases e:b=w.heap.size
      ·subst e
       have hb':Zu g.K w.heap.size (.root [d']) w.heap.size=.root u:=hb
       rw[zX]at hb'
       injection hb' with hb'
       exact .inr ⟨d',_,hz',hb'.symm⟩
      ·have hb':Zu g.K w.heap.size (.root [d']) b=.root u:=hb
       rw[qm _ _ _ e]at hb'
       exact .inl hb'
     ·cases hz
    ·cases hz
   ·cases hz
  |none=>
   rw[hz]at h
   simp only[]at h
   cases hp:xl P S o with
   |some r=>
    rw[hp]at h
    obtain⟨rfl,h⟩:=h
    obtain⟨v,hv,hr⟩:=Xg hS hp (h hf)
    unfold Oper.wp;rw[hv]
    exact hK _ _ _ (fun b u h=>.inl h) (hS.qg (lift v g w hr) hd)
   |none=>
    rw[hp]at h
    simp only[]at h
    cases hb:bsD P S o with
    |some r=>
     rw[hb]at h
     obtain⟨rfl,h⟩:=h
     obtain⟨v,w',g',h1,h2,h3,h4⟩:=zdD hS hb (h hf)
     unfold Oper.wp;rw[h1]
     exact hK _ _ _ (fun b u hu=>.inl (by rw[←h4];exact hu)) (h2.qg (lift v g' w' h3) hd)
    |none=>
    rw[hb]at h
    exact Xc hS h.1 (h.2.2 hf) (fun v g' w' hk hr hs=>hK _ _ _ (fun b u hb=>.inl (hk b u hb)) (hs.qg (lift v g' w' hr) hd))
def ZR(ops:Array Oper)(i:Nat):Option Nat:=(ops[i]?).bind (·.dst)
def qh(ops:Array Oper)(v:Nat→AV)(S:St):List Nat→St
 | []=>S
 |i::is=>qh ops v (S.qg (ZR ops i) (v i)) is
theorem zbK(S:St)(d:Option Nat)(x:AV):(S.qg d x).rs=S.rs:=by cases d<;>simp[St.qg,St.zey]
theorem zfr(S:St)(d:Option Nat)(x:AV):(S.qg d x).n=S.n:=by cases d<;>simp[St.qg,St.zeJ]
theorem Y1(S:St)(d:Option Nat)(x:AV):(S.qg d x).pin=S.pin:=by cases d<;>simp[St.qg,St.zbI]
theorem UU(S:St)(d:Option Nat)(x:AV)(t:Nat):(S.qg d x).get t=if d=some t then x else S.get t:=by
 cases d with
 |none=>simp[St.qg]
 |some d=>simp[St.qg,St.JC]
theorem yn {ops:Array Oper} {v:Nat→AV}:∀{is:List Nat} {S:St},(qh ops v S is).rs=S.rs
 | [],_=>rfl
 |i::is,S=>by rw[qh,yn,zbK]
theorem xC {ops:Array Oper} {v:Nat→AV}:∀{is:List Nat} {S:St},(qh ops v S is).n=S.n
 | [],_=>rfl
 |i::is,S=>by rw[qh,xC,zfr]
theorem Qr {ops:Array Oper} {v:Nat→AV}:∀{is:List Nat} {S:St},(qh ops v S is).pin=S.pin
 | [],_=>rfl
 |i::is,S=>by rw[qh,Qr,Y1]
theorem Zm {ops:Array Oper} {v:Nat→AV} {t:Nat}:∀{is:List Nat} {S:St},(∀i∈is,ZR ops i≠some t)→(qh ops v S is).get t=S.get t
 | [],_,_=>rfl
 |i::is,S,h=>by
  rw[qh,Zm (fun j hj=>h j (by simp[hj])),UU,if_neg (h i (by simp))]
theorem Zl {ops:Array Oper} {v:Nat→AV} {t i:Nat}(hi:ZR ops i=some t):∀{is:List Nat} {S:St},i∈is→(∀j∈is,ZR ops j=some t→j=i)→(qh ops v S is).get t=v i
 | [],_,h,_=>by cases h
 |j::is,S,h,hu=>by
  rw[qh]
  by_cases hm:i∈is
  ·exact Zl hi hm (fun k hk=>hu k (by simp[hk]))
  ·have:j=i:=by
    rcases List.mem_cons.1 h with h|h
    ·exact h.symm
    ·exact absurd h hm
   subst this
   rw[Zm (fun k hk e=>hm (by have:=hu k (by simp[hk]) e;subst this;exact hk)),UU,if_pos hi]
theorem wB {ops:Array Oper} {v:Nat→AV}:∀{is js:List Nat} {S:St},qh ops v S (is++js)=qh ops v (qh ops v S is) js
 | [],_,_=>rfl
 |i::is,js,S=>by rw[List.cons_append,qh,qh,wB]
structure Vx [Gi](P:Program)(ops:Array Oper)(n:Nat)(S:St)(v:Nat→AV):Prop where
 step:∀i,i<n→∃o,ops[i]?=some o∧∃c x,zY ops (qh ops v S (List.range i)) o=some c∧wH P (qh ops v S (List.range i)) o c x∧dOK S o.dst∧v i=gv c x
theorem U0 [Gi] {P:Program} {ops:Array Oper} {K:St→Prop} {S0:St}:∀(l:List Oper) (k n:Nat) (S:St) (v:Nat→AV),(∀j,l[j]?=ops[k+j]?)→k≤n→(∀j,j<n-k→∀o r,l.drop j=o::r→hdr o r=true)→n≤ops.size→
  (∀o r,l.drop (n-k)=o::r→hdr o r=false)→S=qh ops v S0 (List.range k)→Vx P ops k S0 v→jI P ops l S K→
  ∃v',Vx P ops n S0 v'∧ZW P ops (l.drop (n-k)) (qh ops v' S0 (List.range n)) K
 | [],k,n,S,v,hl,hk,hh,hn,ht,hS,hv,h=>by
  have hks:ops.size≤k:=by
   have:=hl 0
   simp at this
   exact this
  have:k=n:=by omega
  subst this
  exact⟨v,hv,by simpa[ZW,jI,hS]using h⟩
 |o::l,k,n,S,v,hl,hk,hh,hn,ht,hS,hv,h=>by
  have h0:ops[k]?=some o:=by simpa using (hl 0).symm
  by_cases hkn:k=n
  ·subst hkn
   have hf:=ht o l (by simp)
   unfold jI at h
   rw[if_neg (by simp[hf])]at h
   exact⟨v,hv,by simpa[←hS]using h⟩
  ·have hho:=hh 0 (by omega) o l (by simp)
   unfold jI at h
   rw[if_pos hho]at h
   split at h
   ·rename_i c hc
    obtain⟨x,h1,h2,h3⟩:=h
    let v':Nat→AV:=fun i=>if i=k then gv c x else v i
    have agree:∀is:List Nat,(∀i∈is,i≠k)→∀S,qh ops v' S is=qh ops v S is:=by
     intro is
     induction is with
     |nil=>intro _ S;rfl
     |cons i is ih=>
      intro hne S
      simp only[qh]
      have:v' i=v i:=if_neg (hne i (by simp))
      rw[this,ih (fun j hj=>hne j (by simp[hj]))]
    have hkr:∀i∈List.range k,i≠k:=fun i hi=>by have:=List.mem_range.1 hi;omega
    have hdo:dOK S0 o.dst:=by
     have hn':S.n=S0.n:=by rw[hS,xC]
     unfold dOK at h2⊢
     rw[←hn'];exact h2
    have hS':S.qg o.dst (gv c x)=qh ops v' S0 (List.range (k+1)):=by
     rw[List.range_succ,wB,agree _ hkr,←hS]
     simp only[qh]
     have:v' k=gv c x:=if_pos rfl
     rw[this]
     simp[ZR,h0]
    have hv':Vx P ops (k+1) S0 v':=by
     refine⟨fun i hi=>?_⟩
     rw[agree _ (fun j hj=>by have:=List.mem_range.1 hj;omega)]
     by_cases hik:i=k
     ·subst hik
      exact⟨o,h0,c,x,by rw[←hS];exact hc,by rw[←hS];exact h1,hdo,if_pos rfl⟩
     ·obtain⟨o',e1,c',x',e2,e3,e4,e5⟩:=hv.step i (by omega)
      exact⟨o',e1,c',x',e2,e3,e4,by rw[←e5];exact if_neg hik⟩
    obtain⟨v2,r1,r2⟩:=U0 l (k+1) n (S.qg o.dst (gv c x)) v' (fun j=>by have:=hl (j+1);simpa[Nat.add_assoc,Nat.add_comm 1 j]using this) (by omega)
     (fun j hj o' r' ho'=>hh (j+1) (by omega) o' r' (by simpa using ho')) hn (fun o' r' ho'=>ht o' r' (by rw[show n-k=(n- (k+1))+1 from by omega];simpa using ho')) hS' hv' h3
    refine⟨v2,r1,?_⟩
    rw[show n-k=(n- (k+1))+1 from by omega,List.drop_succ_cons]
    exact r2
   ·exact h.elim
theorem W1 {p q:Nat→Bool} {i:Nat}(hp:p i=true)(hq:∀j,q j=(p j&&j !=i)):∀{l:List Nat},l.Nodup→i∈l→(l.filter q).length+1=(l.filter p).length
 | [],_,h=>by cases h
 |j::l,hn,h=>by
  have hn':=List.nodup_cons.1 hn
  by_cases hj:j=i
  ·subst hj
   have e:l.filter q=l.filter p:=by
    apply List.filter_congr
    intro k hk
    have:k≠j:=fun e=>hn'.1 (e▸hk)
    rw[hq];simp[this]
   have h1:q j=false:=by rw[hq];simp
   rw[List.filter_cons,List.filter_cons,h1,hp,e]
   simp
  ·have hm:i∈l:=by
    rcases List.mem_cons.1 h with h|h
    ·exact absurd h.symm hj
    ·exact h
   have ih:=W1 hp hq hn'.2 hm
   have h1:q j=p j:=by rw[hq];simp[hj]
   rw[List.filter_cons,List.filter_cons,h1]
   split<;>simp[ih]
def qF:List Oper→Nat
 | []=>0
 |o::l=>if hdr o l then qF l+1 else 0
theorem um:∀l:List Oper,qF l≤l.length
 | []=>Nat.le_refl _
 |o::l=>by unfold qF;have:=um l;split<;>simp<;>omega
theorem VZ:∀{l:List Oper} {j:Nat} {o:Oper} {r:List Oper},j<qF l→l.drop j=o::r→hdr o r=true
 | [],j,o,r,h,_=>by simp[qF]at h
 |x::l,j,o,r,h,e=>by
  unfold qF at h
  split at h
  ·rename_i hx
   cases j with
   |zero=>simp at e;obtain⟨rfl,rfl⟩:=e;exact hx
   |succ j=>exact VZ (l:=l) (j:=j) (by omega) (by simpa using e)
  ·omega
theorem Uf:∀{l:List Oper} {o:Oper} {r:List Oper},l.drop (qF l)=o::r→hdr o r=false
 | [],o,r,e=>by simp[qF]at e
 |x::l,o,r,e=>by
  unfold qF at e
  split at e
  ·exact Uf (by simpa using e)
  ·rename_i hx;simp at e;obtain⟨rfl,rfl⟩:=e;simpa using hx
def ux(ops:Array Oper)(n:Nat):Array Bool:=((List.range ops.size).map fun i=>decide (i<n)).toArray
def J2(ops:Array Oper):Bool:=
 let n:=qF ops.toList
 Region.noSelect ops&&
 ((List.range n).all fun i=>match ops[i]? with
  |some o=>o.after.all (fun e=>!Region.binds .any e || decide (e.on<i))&&
   (List.range n).all fun j=>match ZR ops j with
    |some d=>(!(o.looksAt ops).contains d || (decide (j<i)&&Region.waitsFor .any ops i j))&&(j==i || ZR ops i !=some d)
    |none=>true
  |none=>false)&&
 (n==ops.size || (decide (n<ops.size)&&Region.sinkB .any ops n&&Region.chainB .any ops n))&&Region.seqB .any ops (ops.size-n) n (ux ops n)
theorem zdO {ops:Array Oper} {n:Nat}(_:n≤ops.size) {listed:Array Bool}(h1:listed.size=ops.size)(h2:∀i,i<n→listed.getD i false=true)(h3:∀t,n≤t→t<ops.size→listed.getD t true=false):listed=ux ops n:=by
 apply Array.ext
 ·simp[ux,h1]
 ·intro i hi hi'
  have hi2:i<ops.size:=by omega
  by_cases hin:i<n
  ·have:=h2 i hin
   simp[hi]at this
   simp[ux,this,hin]
  ·have:=h3 i (by omega) hi2
   simp[hi]at this
   simp[ux,this,hin]
theorem zd3 {ops:Array Oper} {v:Nat→AV} {S:St} {n:Nat}(hd:∀i j t,i<n→j<n→ZR ops i=some t→ZR ops j=some t→i=j)(is:List Nat)(his:∀i∈is,i<n)(t:Nat):
  (∃j∈is,ZR ops j=some t∧(qh ops v S is).get t=v j)∨((∀j∈is,ZR ops j≠some t)∧(qh ops v S is).get t=S.get t):=by
 by_cases h:∃j∈is,ZR ops j=some t
 ·obtain⟨j,hj,e⟩:=h
  exact .inl ⟨j,hj,e,Zl e hj (fun k hk ek=>hd k j t (his k hk) (his j hj) ek e)⟩
 ·have h':∀j∈is,ZR ops j≠some t:=fun j hj e=>h ⟨j,hj,e⟩
  exact .inr ⟨h',Zm h'⟩
theorem YX [Gi] {P:Program} {ops:Array Oper} {E:Ent} {K:St→Prop} {Q:Exit→Act→World→Prop}(hQ:∀S' g' a' w',K S'→SR E S' g' a' w'→Q .normal a' w')(hchk:J2 ops=true) {S0:St} {v:Nat→AV}
  (run:Vx P ops (qF ops.toList) S0 v) (hK:ZW P ops (ops.toList.drop (qF ops.toList)) (qh ops v S0 (List.range (qF ops.toList))) K):
  ∀(f:Nat) (listed:Array Bool) (g:Gh) (a:Act) (w:World),(∀i o d cs,i<qF ops.toList→listed.getD i false=false→ops[i]?=some o→Qd P o=some (d,cs)→∀b,g.K b≠ .root [d])→HeadInv .any ops (qF ops.toList) listed→((List.range (qF ops.toList)).filter fun i=>!listed.getD i false).length=f→
   SR E (qh ops v S0 ((List.range (qF ops.toList)).filter fun i=>listed.getD i false)) g a w→wpAny P .any ops Q (f+(ops.size-qF ops.toList)) listed a w:=by
 have hchk0:=hchk
 unfold J2 at hchk
 simp only[Bool.and_eq_true]at hchk
 obtain⟨⟨⟨hsel,hall⟩,htail⟩,hseq⟩:=hchk
 have hn:qF ops.toList≤ops.size:=by have:=um ops.toList;simpa using this
 generalize qF ops.toList=n at*
 have each:∀i,i<n→∃o,ops[i]?=some o∧(∀e∈o.after,Region.binds .any e=true→e.on<i)∧∀j,j<n→∀d,ZR ops j=some d→(d∈o.looksAt ops→j<i∧Region.waitsFor .any ops i j=true)∧(j=i∨ZR ops i≠some d):=by
  intro i hi
  have h:=List.all_eq_true.1 hall i (List.mem_range.2 hi)
  split at h
  ·rename_i o ho
   simp only[Bool.and_eq_true]at h
   refine⟨o,ho,fun e he hb=>?_,fun j hj d hd=>?_⟩
   ·have:=Array.all_eq_true_iff_forall_mem.1 h.1 e he
    simpa[hb]using this
   ·have:=List.all_eq_true.1 h.2 j (List.mem_range.2 hj)
    rw[hd]at this
    simp only[Bool.and_eq_true,Bool.or_eq_true,Bool.not_eq_true',decide_eq_true_eq,beq_iff_eq,bne_iff_ne,ne_eq]at this
    refine⟨fun hm=>?_,this.2⟩
    rcases this.1 with h1|h1
    ·have:(o.looksAt ops).contains d=true:=by simpa using hm
     rw[this]at h1;cases h1
    ·exact h1
  ·cases h
 have hd:∀i j t,i<n→j<n→ZR ops i=some t→ZR ops j=some t→i=j:=by
  intro i j t hi hj e1 e2
  obtain⟨o,_,_,h⟩:=each i hi
  rcases(h j hj t e2).2 with h|h
  ·exact h.symm
  ·exact absurd e1 h
 intro f
 induction f with
 |zero=>
  intro listed g a w hnr inv hf hS
  have hl:∀i,i<n→listed.getD i false=true:=by
   intro i hi
   have:=List.eq_nil_of_length_eq_zero hf
   have h2:=List.filter_eq_nil_iff.1 this i (List.mem_range.2 hi)
   simpa using h2
  have e:=zdO hn inv.size hl inv.tail
  have hfull:(List.range n).filter (fun i=>listed.getD i false)=List.range n:=List.filter_eq_self.2 fun i hi=>hl i (List.mem_range.1 hi)
  rw[hfull]at hS
  rw[Nat.zero_add]
  have:=wpAny_of_seq (P:=P) (md:=.any) (ops:=ops) (Q':=Q) (ops.toList.drop n) n listed a w (fun j=>by simp[List.getElem?_drop]) (by rw[e];simpa using hseq) (xR hQ _ hK hS)
  simpa using this
 |succ f ih=>
  intro listed g a w hnr inv hf hS
  have hun:∃i,i<n∧listed.getD i false=false:=by
   cases hl:(List.range n).filter fun i=>!listed.getD i false with
   |nil=>rw[hl]at hf;simp at hf
   |cons i l=>
    have:i∈(List.range n).filter fun i=>!listed.getD i false:=by rw[hl];simp
    have h2:=List.mem_filter.1 this
    exact⟨i,List.mem_range.1 h2.1,by simpa using h2.2⟩
  have hne:Region.ready .any ops listed≠ []:=by
   obtain⟨i,hi⟩:=hun
   obtain⟨m,hm,hmin⟩:∃m,(m<n∧listed.getD m false=false)∧∀k,k<m→¬(k<n∧listed.getD k false=false):=by
    induction i using Nat.strongRecOn with
    |_ i ihi=>
     by_cases h:∃k,k<i∧(k<n∧listed.getD k false=false)
     ·obtain⟨k,hk,hk2⟩:=h;exact ihi k hk hk2
     ·exact⟨i,hi,fun k hk hk2=>h ⟨k,hk,hk2⟩⟩
   obtain⟨o,ho,hafter,_⟩:=each m hm.1
   have:m∈Region.ready .any ops listed:=mem_ready.2 ⟨getD_in (by rw[inv.size];omega) hm.2,o,ho,fun e he hb=>by
    have hlt:=hafter e he hb
    cases hq:listed.getD e.on false with
    |true=>rfl
    |false=>exact absurd ⟨by omega,hq⟩ (hmin e.on hlt)⟩
   intro e
   rw[e]at this;cases this
  rw[show f+1+(ops.size-n)=(f+(ops.size-n))+1 from by omega]
  refine⟨fun h0=>absurd h0 hne,fun i hi=>?_⟩
  obtain⟨hiun,oi,hoi,hdone⟩:=mem_ready.1 hi
  have hisz:i<ops.size:=(Array.getElem?_eq_some_iff.1 hoi).1
  have hin:i<n:=by
   rcases Nat.lt_or_ge i n with h|h
   ·exact h
   ·simp only[Bool.or_eq_true,beq_iff_eq,Bool.and_eq_true,decide_eq_true_eq]at htail
    rcases htail with h1|h1
    ·omega
    ·obtain⟨i0,h2,h3⟩:=hun
     exact absurd hi (tail_waits h1.1.2 h1.2 h1.1.1 inv _ i0 rfl h2 (getD_in (by rw[inv.size];omega) h3) i h)
  obtain⟨o,ho,c,x,hc,hv,hdk,hvi⟩:=run.step i hin
  have:o=oi:=Option.some.inj (ho.symm.trans hoi)
  subst this
  obtain⟨o',ho',_,hlook⟩:=each i hin
  have:o'=o:=Option.some.inj (ho'.symm.trans hoi)
  subst this
  have hagree:∀t∈o'.looksAt ops,(qh ops v S0 (List.range i)).get t=(qh ops v S0 ((List.range n).filter fun i=>listed.getD i false)).get t:=by
   intro t ht
   have m1:∀j∈List.range i,j<n:=fun j hj=>by have:=List.mem_range.1 hj;omega
   have m2:∀j∈(List.range n).filter (fun i=>listed.getD i false),j<n:=fun j hj=>List.mem_range.1 (List.mem_filter.1 hj).1
   by_cases hj:∃j,j<n∧ZR ops j=some t
   ·obtain⟨j,hjn,hjd⟩:=hj
    obtain⟨hji,hw⟩:=(hlook j hjn t hjd).1 ht
    obtain⟨oj,hoj,e,he,hb,hon⟩:=Region.waitsFor_spec hw
    have:oj=o':=Option.some.inj (hoj.symm.trans hoi)
    subst this
    have hjl:=hdone e he hb
    rw[hon]at hjl
    rw[Zl hjd (List.mem_range.2 hji) (fun k hk ek=>hd k j t (m1 k hk) hjn ek hjd),Zl hjd (List.mem_filter.2 ⟨List.mem_range.2 hjn,hjl⟩) (fun k hk ek=>hd k j t (m2 k hk) hjn ek hjd)]
   ·rw[Zm (fun k hk ek=>hj ⟨k,m1 k hk,ek⟩),Zm (fun k hk ek=>hj ⟨k,m2 k hk,ek⟩)]
  have hrs:(qh ops v S0 (List.range i)).rs=(qh ops v S0 ((List.range n).filter fun i=>listed.getD i false)).rs:=by rw[yn,yn]
  have hc':zY ops (qh ops v S0 ((List.range n).filter fun i=>listed.getD i false)) o'=some c:=by rw[←JJ hagree];exact hc
  have hv':=Xy (P:=P) (c:=c) (x:=x) hrs (by rw[Qr,Qr]) hagree hv
  have hdk':dOK (qh ops v S0 ((List.range n).filter fun i=>listed.getD i false)) o'.dst:=by
   unfold dOK at hdk⊢;rw[xC];exact hdk
  have step:=zc9 (P:=P) (ops:=ops) hS hc' hv' hdk' (fun d cs hz b=>hnr i o' d cs hin (getD_both hiun) hoi hz b) (Q:=Q) (next:=fun a' w'=>wpAny P .any ops Q (f+(ops.size-n)) (listed.setIfInBounds i true) a' w') (fun g' a' w' hroots hs=>by
   have hil:i<listed.size:=by rw[inv.size];exact hisz
   have hset:∀k,(listed.setIfInBounds i true).getD k false=(listed.getD k false || k==i):=by
    intro k
    by_cases hk:k=i
    ·subst hk;simp[hil]
    ·simp[Array.getElem?_setIfInBounds_ne (Ne.symm hk),hk]
   refine ih _ g' a' w' (fun j oj d cs hjn hjl hoj hz b hb=>?_) (inv.set hi hin) ?_ (hs.congr (by rw[xC,zfr,xC]) (fun t=>?_) (by rw[yn,zbK,yn]) (by rw[Qr,Y1,Qr]))
   ·rw[hset]at hjl
    simp only[Bool.or_eq_false_iff,beq_eq_false_iff_ne,ne_eq]at hjl
    rcases hroots b _ hb with h1|⟨d',cs',hz',hu⟩
    ·exact hnr j oj d cs hjn hjl.1 hoj hz b h1
    ·have hdj:ZR ops j=some d:=by
      unfold Qd at hz
      split at hz
      ·split at hz
       ·rename_i dd _ _ _ _ hdst _
        split at hz
        ·injection hz with hz;injection hz with hz1 _;subst hz1;simp[ZR,hoj,hdst]
        ·cases hz
       ·cases hz
      ·cases hz
     have hdi:ZR ops i=some d':=by
      unfold Qd at hz'
      split at hz'
      ·split at hz'
       ·rename_i dd _ _ _ _ hdst _
        split at hz'
        ·injection hz' with hz';injection hz' with hz1 _;subst hz1;simp[ZR,hoi,hdst]
        ·cases hz'
       ·cases hz'
      ·cases hz'
     have e:d=d':=by injection hu
     subst e
     exact hjl.2 (hd j i d hjn hin hdj hdi)
   ·have:=W1 (p:=fun k=>!listed.getD k false) (q:=fun k=> !(listed.setIfInBounds i true).getD k false) (i:=i) (by rw[getD_both hiun];rfl) (fun k=>by rw[hset];cases listed.getD k false<;>simp[bne]) (l:=List.range n) List.nodup_range (List.mem_range.2 hin)
    omega
   ·have m2:∀j∈(List.range n).filter (fun i=>listed.getD i false),j<n:=fun j hj=>List.mem_range.1 (List.mem_filter.1 hj).1
    have m3:∀j∈(List.range n).filter (fun k=>(listed.setIfInBounds i true).getD k false),j<n:=fun j hj=>List.mem_range.1 (List.mem_filter.1 hj).1
    have hi3:i∈(List.range n).filter (fun k=>(listed.setIfInBounds i true).getD k false):=List.mem_filter.2 ⟨List.mem_range.2 hin,by rw[hset];simp⟩
    have hdi:ZR ops i=o'.dst:=by simp[ZR,hoi]
    rw[UU]
    split
    ·rename_i ht
     rw[Zl (by rw[hdi];exact ht) hi3 (fun k hk ek=>hd k i t (m3 k hk) hin ek (by rw[hdi];exact ht)),hvi]
    ·rename_i ht
     rcases zd3 (v:=v) (S:=S0) hd _ m2 t with ⟨j,hj,ej,h1⟩|⟨hno,h1⟩
     ·have hj3:j∈(List.range n).filter (fun k=>(listed.setIfInBounds i true).getD k false):=by
       have:=List.mem_filter.1 hj
       exact List.mem_filter.2 ⟨this.1,by rw[hset];simp[this.2]⟩
      rw[h1,Zl ej hj3 (fun k hk ek=>hd k j t (m3 k hk) (m2 j hj) ek ej)]
     ·rw[h1,Zm]
      intro k hk ek
      have:=List.mem_filter.1 hk
      rw[hset]at this
      simp only[Bool.or_eq_true,beq_iff_eq]at this
      rcases this.2 with h2|h2
      ·exact hno k (List.mem_filter.2 ⟨this.1,h2⟩) ek
      ·subst h2;rw[hdi]at ek;exact ht ek)
  unfold wpOp
  simp only[hoi]
  split
  ·rename_i hw;rw[if_pos hw]at step;exact .inl step
  ·rename_i hw;rw[if_neg hw]at step;exact step
theorem SR.U5 [Gi] {P:Program} {E:Ent} {S:St} {g:Gh} {a:Act} {w:World}(h:SR E S g a w)(o:Oper):∃g',SR E (AM.U5 P S o) g' a w∧(∀b u,g'.K b=.root u→g.K b=.root u)∧∀d cs,Qd P o=some (d,cs)→(S.pin.contains [d]=true∨∀b,g'.K b≠ .root [d]):=by
 unfold AM.U5
 cases hz:Qd P o with
 |none=>exact⟨g,h,fun _ _ h=>h,fun d cs e=>by cases e⟩
 |some dc=>
  obtain⟨d,cs⟩:=dc
  simp only[]
  split
  ·rename_i hp
   exact⟨g,h,fun _ _ h=>h,fun d' cs' e=>by injection e with e;injection e with e1 _;subst e1;exact .inl hp⟩
  ·rename_i hp
   have hpin:∀u,u∈S.pin→(u !=[d])=true:=fun u hu=>by
    simp;intro e;subst e
    exact hp (by simpa using hu)
   have h1:=h.filter (fun u=>u !=[d]) ftt hpin
   have hno:∀b,(g.fil (fun u=>u !=[d]) ftt).K b≠ .root [d]:=fun b hb=>by
    have:=(Gh.zS.1 hb).2;simp at this
   refine⟨g.fil (fun u=>u !=[d]) ftt,⟨h1.size,h1.defers,h1.slots,fun b t hk=>?_,h1.ur,h1.ut,h1.own,h1.frame,h1.ext,h1.out,h1.mono,h1.frb,h1.pins⟩,fun b u hb=>(Gh.zS.1 hb).1,fun d' cs' e=>by injection e with e;injection e with e1 _;subst e1;exact .inr hno⟩
   obtain⟨ds,hl,rest⟩:=h1.roots b t hk
   refine⟨ds,?_,rest⟩
   show zw (jg _ _ _) t=_
   rw[Z0,if_neg (fun e=>by subst e;exact hno b hk)]
   exact hl
theorem YQ(P:Program)(S:St)(o:Oper):(AM.U5 P S o).pin=S.pin:=by
 unfold AM.U5
 split
 ·split<;>rfl
 ·rfl
theorem SR.jU [Gi] {P:Program} {E:Ent} {a:Act} {w:World}:∀(l:List Oper) {S:St} {g:Gh},SR E S g a w→∃g',SR E (AM.jU P l S) g' a w∧(∀b u,g'.K b=.root u→g.K b=.root u)∧
  ∀i o d cs,i<qF l→l[i]?=some o→Qd P o=some (d,cs)→(S.pin.contains [d]=true∨∀b,g'.K b≠ .root [d])
 | [],S,g,h=>⟨g,h,fun _ _ h=>h,fun i o d cs hi _ _=>by simp[qF]at hi⟩
 |o::l,S,g,h=>by
  unfold AM.jU
  split
  ·rename_i hh
   obtain⟨g1,h1,k1,n1⟩:=h.U5 (P:=P) o
   obtain⟨g2,h2,k2,n2⟩:=SR.jU l h1
   refine⟨g2,h2,fun b u hb=>k1 b u (k2 b u hb),fun i oi d cs hi ho hz=>?_⟩
   cases i with
   |zero=>
    simp at ho;subst ho
    rcases n1 d cs hz with h|h
    ·exact .inl h
    ·exact .inr fun b hb=>h b (k2 b _ hb)
   |succ i=>
    have hi':i<qF l:=by unfold qF at hi;rw[if_pos hh]at hi;omega
    have:=n2 i oi d cs hi' (by simpa using ho) hz
    rwa[YQ]at this
  ·rename_i hh
   exact⟨g,h,fun _ _ h=>h,fun i oi d cs hi _ _=>by unfold qF at hi;rw[if_neg hh]at hi;omega⟩
theorem UK(P:Program):∀(l:List Oper) (S:St),(AM.jU P l S).pin=S.pin
 | [],_=>rfl
 |o::l,S=>by
  unfold AM.jU
  split
  ·rw[UK,YQ]
  ·rfl
theorem U2 [Gi] {P:Program} {id:Nat} {ops:Array Oper}(hm:P.follows .mixedOrders=true)(hd:J2 ops=true) {Q:Exit→Act→World→Prop} {E:Ent} {K:St→Prop}
  (hQ:∀S' g' a' w',K S'→SR E S' g' a' w'→Q .normal a' w') {S:St} {g:Gh} {a:Act} {w:World} (h:jI P ops ops.toList (jU P ops.toList S) K) (hS:SR E S g a w):(Code.region id ops true).wp P Q a w:=by
 have hw1:SR E S g a {w with drawn:=w.drawn+1}:=hS.drew
 obtain⟨g1,hw2,_,hnew⟩:=SR.jU (P:=P) ops.toList hw1
 have hn:qF ops.toList≤ops.size:=by have:=um ops.toList;simpa using this
 obtain⟨v,run,hK⟩:=U0 (P:=P) (ops:=ops) (K:=K) (S0:=jU P ops.toList S) ops.toList 0 (qF ops.toList) _ (fun _=>.zK) (fun j=>by simp) (Nat.zero_le _) (fun j hj o r ho=>VZ (l:=ops.toList) (by simpa using hj) ho) hn (fun o r ho=>Uf (l:=ops.toList) (by simpa using ho)) rfl
  ⟨fun i hi=>absurd hi (Nat.not_lt_zero _)⟩ h
 refine wp_region_any hm ?_
 have hempty:(List.range (qF ops.toList)).filter (fun i=>(Array.replicate ops.size false).getD i false)=[]:=List.filter_eq_nil_iff.2 fun i _=>by rw[getD_replicate_false];simp
 have hfull:(List.range (qF ops.toList)).filter (fun i=> !(Array.replicate ops.size false).getD i false)=List.range (qF ops.toList):=List.filter_eq_self.2 fun i _=>by rw[getD_replicate_false];rfl
 have:=YX (P:=P) hQ hd run (by simpa using hK) (qF ops.toList) (Array.replicate ops.size false) g1 a {w with drawn:=w.drawn+1} (fun i o d cs hi _ ho hz b=>by
   rcases hnew i o d cs hi (by simpa using ho) hz with h1|h1
   ·obtain⟨o',ho',c,x,_,hv,_⟩:=run.step i hi
    have:o'=o:=Option.some.inj (ho'.symm.trans ho)
    subst this
    unfold wH at hv
    rw[hz]at hv
    have h2:=hv.2.2.1
    rw[Qr,UK,h1]at h2
    cases h2
   ·exact h1 b)
  ⟨by simp,fun j oj _ hl=>(by rw[getD_replicate_false]at hl;cases hl),fun t _ ht=>getD_in (by simpa using ht) (getD_replicate_false _ _)⟩ (by rw[hfull];simp) (by rw[hempty];exact hw2)
 rwa[show qF ops.toList+(ops.size-qF ops.toList)=ops.size from by omega]at this
end
end Go.AM
