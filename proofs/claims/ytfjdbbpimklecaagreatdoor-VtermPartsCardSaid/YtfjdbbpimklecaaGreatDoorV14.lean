/- A part of this seat's proofs, by an abstract machine. Conditions: each law's. -/
import Derived.Test.YtfjdbbpimklecaaGreatDoorV13
namespace Go.AM
section
inductive OT where
 |mk (l:List (Nat×OT))
 |now (i c:Nat) (t:OT)
def Ur(o:Oper):Bool:=match o.op with
 |.convert .. =>true
 |.assign _=>true
 |_=>false
def puO(o:Oper):Bool:=Zw o || Ur o
def Uc(o:Option PR):Bool→Prop
 |true=>o.isSome=true
 |false=>True
def VH:AV→Bool
 |.p (.int _ _)=>true
 |.p (.bool _)=>true
 |_=>false
def yK(o:Oper):Bool:=match o.op with
 |.load .. =>true
 |_=>false
def yG(S:St)(o:Oper)(r:AV):Bool:=match o.op with
 |.move _=>true
 |.fieldAddr .. =>true
 |.indexAddr .. =>true
 |.extract .. =>true
 |.nilCheck x=>uU (unG (S.ev x)).2
 |.binOp _ _ x y _=>VH (unG (S.ev x)).2&&VH (unG (S.ev y)).2&&Vk r
 |_=>false
def zaQ(c:Nat)(i d:Bool):Prop:=match c with
 |0=>True
 |1=>(i || d)=true
 |_=>i=true
def zc7(_:Program)(S:St)(o:Oper)(c:Nat)(K:St→Prop):Option PR→Prop
 |some r=>(r.1∧dOK S o.dst)∧zaQ c (yG S o r.2) (yK o || Vk r.2)∧K (S.qg o.dst r.2)
 |none=>False
def Xr(P:Program)(S:St)(c:Nat)(K:St→Prop):Option Oper→Prop
 |some o=>zc7 P S o c K (qE P S o)
 |none=>False
mutual
def jo [Gi](P:Program)(ops:Array Oper)(K:St→Prop):OT→St→Prop
 |.mk [],S=>K S
 |.mk (x::l),S=>jX P ops K (x::l) S
 |.now i c t,S=>Xr P S c (fun S'=>jo P ops K t S') ops[i]?
def jX [Gi](P:Program)(ops:Array Oper)(K:St→Prop):List (Nat×OT)→St→Prop
 | [],_=>True
 |(i,t)::l,S=>(match ops[i]? with
  |some o=>Uc (qE P S o) (Ur o)∧match zY ops S o with
   |some c=>QQ P S o c (jo P ops K t)
   |none=>False
  |none=>False)∧jX P ops K l S
end
def Qa(ops:Array Oper)(j:Nat):List Nat:=match ops[j]? with
 |some o=>(o.after.toList.filter fun e=>Region.binds .any e).map (·.on)
 |none=>[]
def Wh(ops:Array Oper)(j:Nat):List Nat:=(List.range ops.size).reverse.foldl (fun s k=>if s.contains k then Qa ops k++s else s) (Qa ops j)
def adO(o:Oper):Bool:=Q9 o || (YO o&&o.guard.isNone)
def KH(c:Nat)(o:Oper):Bool:=puO o || decide (2≤c) || (decide (c=1)&&adO o)
def zaz(ops:Array Oper)(c:Nat)(listed:Array Bool)(i:Nat):Bool:=match ops[i]? with
 |some oi=>oi.guard.isNone&&puO oi&&(List.range ops.size).all fun j=>j==i || listed.getD j true || (match ops[j]? with
   |some oj=>oi.apart ops oj&&KH c oj
   |none=>true) || (Qa ops j).contains i || (Wh ops j).contains i
 |none=>false
def okT(ops:Array Oper):Nat→Array Bool→OT→Bool
 |0,listed,.mk l=>l.isEmpty&&(Region.ready .any ops listed).isEmpty
 |0,_,.now _ _ _=>false
 |f+1,listed,.mk l=>(l.map (·.1)==Region.ready .any ops listed)&&l.all fun x=>okT ops f (listed.setIfInBounds x.1 true) x.2
 |f+1,listed,.now i c t=>(Region.ready .any ops listed).contains i&&zaz ops c listed i&&okT ops f (listed.setIfInBounds i true) t
def yH(ops:Array Oper)(listed:Array Bool):Prop:=∀j oj,ops[j]?=some oj→listed.getD j false=true→∀e∈oj.after,Region.binds .any e=true→listed.getD e.on false=true
theorem yH.set {ops:Array Oper} {listed:Array Bool}(h:yH ops listed) {i:Nat}(hi:i∈Region.ready .any ops listed):yH ops (listed.setIfInBounds i true):=by
 obtain⟨_,oi,hoi,hall⟩:=mem_ready.1 hi
 intro j oj hj hl e he hb
 by_cases hij:i=j
 ·subst hij
  have:oj=oi:=Option.some.inj (hj.symm.trans hoi)
  subst this
  exact getD_set_true (hall e he hb)
 ·rw[getD_set_ne false hij]at hl
  exact getD_set_true (h j oj hj hl e he hb)
theorem jT {ops:Array Oper} {j x:Nat}(h:x∈Qa ops j):∃o,ops[j]?=some o∧∃e∈o.after,Region.binds .any e=true∧e.on=x:=by
 unfold Qa at h
 split at h
 ·rename_i o ho
  simp only[List.mem_map,List.mem_filter]at h
  obtain⟨e,⟨he,hb⟩,hx⟩:=h
  exact⟨o,ho,e,by simpa using he,hb,hx⟩
 ·cases h
theorem wJ {ops:Array Oper} {listed:Array Bool}(hc:yH ops listed) {j:Nat}(hd:∀x∈Qa ops j,listed.getD x false=true):∀x∈Wh ops j,listed.getD x false=true:=by
 have gen:∀(l:List Nat) (s:List Nat),(∀x∈s,listed.getD x false=true)→∀x∈l.foldl (fun s k=>if s.contains k then Qa ops k++s else s) s,listed.getD x false=true:=by
  intro l
  induction l with
  |nil=>exact fun s h=>h
  |cons k l ih=>
   intro s h
   simp only[List.foldl_cons]
   refine ih _ ?_
   split
   ·rename_i hk
    intro x hx
    rcases List.mem_append.1 hx with hx|hx
    ·obtain⟨o,ho,e,he,hb,rfl⟩:=jT hx
     exact hc k o ho (h k (by simpa using hk)) e he hb
    ·exact h x hx
   ·exact h
 exact gen _ _ hd
def jw(ops:Array Oper)(i:Nat)(w w':World):Prop:=match ops[i]? with
 |some o=>(puO o=true→w'=w)∧(adO o=true→∃x,w'=w.alloc x)
 |none=>True
def wpX(P:Program)(ops:Array Oper)(Q:Exit→Act→World→Prop):Nat→Array Bool→Act→World→Prop
 |0,listed,a,w=>Region.ready .any ops listed=[]∧Q .normal a w
 |fuel+1,listed,a,w=>
  (Region.ready .any ops listed=[]→Q .normal a w)∧
  ∀i∈Region.ready .any ops listed,wpOp P ops Q i (fun a' w'=>jw ops i w w'∧wpX P ops Q fuel (listed.setIfInBounds i true) a' w') a w
theorem wP {P:Program} {ops:Array Oper} {Q:Exit→Act→World→Prop}:∀(fuel:Nat) (listed:Array Bool) (a:Act) (w:World),wpX P ops Q fuel listed a w→wpAny P .any ops Q fuel listed a w
 |0,_,_,_,h=>h
 |fuel+1,_,_,_,h=>⟨h.1,fun i hi=>wpOp_mono (fun a' w' h'=>wP fuel _ a' w' h'.2) (h.2 i hi)⟩
def Js(c:Nat)(w w':World):Prop:=match c with
 |0=>w'=w
 |1=>∃l:List Obj,w'=l.foldl World.alloc w
 |_=>True
theorem K9(c:Nat)(w:World):Js c w w:=by
 unfold Js
 split
 ·rfl
 ·exact⟨[],rfl⟩
 ·trivial
theorem zdk {c:Nat} {ops:Array Oper} {j:Nat} {oj:Oper}(hj:ops[j]?=some oj)(hh:KH c oj=true) {w w1 w2:World}(h:Js c w w1)(k:jw ops j w1 w2):Js c w w2:=by
 unfold jw at k
 rw[hj]at k
 unfold KH at hh
 simp only[Bool.or_eq_true,decide_eq_true_eq,Bool.and_eq_true]at hh
 unfold Js at h⊢
 rcases hh with (hp|h2)|⟨h1,ha⟩
 ·rw[k.1 hp];exact h
 ·split
  ·omega
  ·omega
  ·trivial
 ·subst h1
  obtain⟨l,rfl⟩:=h
  obtain⟨x,rfl⟩:=k.2 ha
  exact⟨l++[x],by simp⟩
theorem KQ {P:Program} {ops:Array Oper} {Q:Exit→Act→World→Prop} {i c:Nat} {oi:Oper} {v:Value} {w0:World}(hi:ops[i]?=some oi)(hsel:∀(j:Nat) (o:Oper) cs b,ops[j]?=some o→o.op≠ .select cs b)(hpi:puO oi=true)
  (hQ:∀c a w,¬Q (.panic c) a w):
  ∀(fuel:Nat) (listed:Array Bool) (a:Act) (w:World),yH ops listed→
   (∀j oj,ops[j]?=some oj→j≠i→listed.getD j true=false→(oi.apart ops oj=true∧KH c oj=true)∨i∈Qa ops j∨i∈Wh ops j)→
   i∈Region.ready .any ops listed→YieldsIf P ops (Js c w0) oi v a→Js c w0 w→
   wpX P ops Q fuel (listed.setIfInBounds i true) (a.put oi.dst v) w→wpX P ops Q (fuel+1) listed a w:=by
 have hki:∀w,jw ops i w w:=fun w=>by
  unfold jw;rw[hi]
  refine⟨fun _=>rfl,fun h=>?_⟩
  exfalso
  obtain⟨dst,op,tt,pos,after,guard⟩:=oi
  unfold puO Zw Ur at hpi
  unfold adO Q9 YO at h
  cases op<;>simp at h hpi
 intro fuel
 induction fuel with
 |zero=>
  intro listed a w _ _ hr hy hS H
  refine⟨fun h=>(by rw[h]at hr;cases hr),fun j hj=>?_⟩
  by_cases hji:j=i
  ·subst hji;exact hy.wpOp hi hS ⟨hki w,H⟩
  ·have:=ready_mono hj hji
   rw[H.1]at this
   cases this
 |succ fuel ih=>
  intro listed a w hcl hfree hr hy hS H
  refine⟨fun h=>(by rw[h]at hr;cases hr),fun j hj=>?_⟩
  by_cases hji:j=i
  ·subst hji;exact hy.wpOp hi hS ⟨hki w,H⟩
  ·have h1:=H.2 j (ready_mono hj hji)
   obtain⟨hjun,oj,hoj,hall⟩:=mem_ready.1 hj
   have hiun:listed.getD i false=false:=getD_both (mem_ready.1 hr).1
   have hd:∀x∈Qa ops j,listed.getD x false=true:=fun x hx=>by
    obtain⟨o,ho,e,he,hb,rfl⟩:=jT hx
    have:o=oj:=Option.some.inj (ho.symm.trans hoj)
    subst this
    exact hall e he hb
   have hap:oi.apart ops oj=true∧KH c oj=true:=by
    rcases hfree j oj hoj hji hjun with h|h|h
    ·exact h
    ·have:=hd i h;rw[hiun]at this;cases this
    ·have:=wJ hcl hd i h;rw[hiun]at this;cases this
   have h2:=wpOp_putIf hoj hap.1 (fun cs b=>hsel i oi cs b hi) (fun cs b=>hsel j oj cs b hoj) (fun c a w hq=>absurd hq (hQ c _ _)) hy h1
   have hfree':∀k ok,ops[k]?=some ok→k≠i→(listed.setIfInBounds j true).getD k true=false→(oi.apart ops ok=true∧KH c ok=true)∨i∈Qa ops k∨i∈Wh ops k:=fun k ok hk hki hun=>by
    refine hfree k ok hk hki ?_
    by_cases hjk:j=k
    ·subst hjk;exact hjun
    ·rw[getD_set_ne true hjk]at hun;exact hun
   refine wpOp_mono (fun a' w' h3=>⟨h3.2.1,ih (listed.setIfInBounds j true) a' w' (hcl.set hj) hfree' (ready_mono hr (Ne.symm hji)) h3.1 (zdk hoj hap.2 hS h3.2.1) ?_⟩) h2
   rw[Array.setIfInBounds_comm _ _ hji]
   exact h3.2.2
theorem YU {P:Program} {T:TypeId} {x:AV} {f:Nat} {g:Gh} {w:World} {v:Value}(h:(Qu P T x f).1)(r:za g w x v):
  ∃u,(∀w',(Instr.fieldAt T v f).run P w'=.ok u w'):=by
 unfold Qu at h
 split at h
 ·rename_i fs sz by_ ze hT
  cases hf:fs[f]? with
  |none=>simp only[hf]at h;exact h.elim
  |some fd=>
   simp only[hf]at h
   cases hft:ty P fd.type with
   |none=>simp only[hft]at h;exact h.elim
   |some ft=>
    simp only[hft]at h
    split at h
    ·exact h.elim
    ·rename_i hz
     have step:∀b o,v=.pointer (some ⟨b,o,none⟩)→∀w',(Instr.fieldAt T v f).run P w'=.ok (.pointer (some ⟨b,o+fd.offset,none⟩)) w':=by
      intro b o e w'
      subst e
      have hu:=zo w' hT
      simp only[]at hu
      have hs:=qc w' hft
      unfold Instr.fieldAt
      rw[Sem.run_bind,hu]
      simp[hf,Instr.sureAddr,fieldPlace,hs,hz,addr_add]
     split at h
     ·simp only[za]at r
      obtain⟨b,hk,e⟩:=r
      exact⟨_,step b _ e⟩
     ·simp only[za]at r
      obtain⟨b,base,e',hf,he⟩:=r
      exact⟨_,step b _ e'⟩
     ·exact h.elim
 ·exact h.elim
theorem XP {P:Program} {T:TypeId} {x i:AV} {g:Gh} {w:World} {v iv:Value}(h:(Qq P T x i).1)(r:za g w x v)(ri:za g w i iv):
  ∃u,∀w',(Instr.indexAt T v iv).run P w'=.ok u w':=by
 unfold Qq at h
 split at h
 ·rename_i e sz by_ ze k n hT
  simp only[za,zi]at ri
  subst ri
  cases het:ty P e with
  |none=>simp only[het]at h;exact h.elim
  |some et=>
   simp only[het]at h
   have step:∀b o len cap,v=.slice (some ⟨b,o,none⟩) len cap→0≤n→n< (len:Int)→
     ∀w',(Instr.indexAt T v (.int k n)).run P w'=.ok (.pointer (some ⟨b,o+n.toNat*et.size,none⟩)) w':=by
    intro b o len cap e' h0 h1 w'
    subst e'
    have hu:=zo w' hT
    simp only[]at hu
    simp[Instr.indexAt,asIntOf,hu,qc w' het,h0,h1,addr_add]
   have slice:∀z es,z=et.size∧0≤n∧n< (es.length:Int)→zi g.fr w (.sl z es) v→∃u,∀w',(Instr.indexAt T v (.int k n)).run P w'=.ok u w':=by
    rintro z es ⟨hz,h0,h1⟩ r
    simp only[zi]at r
    rcases r with ⟨rfl,_⟩|⟨b,o,cap,e',hc,hf,he⟩
    ·simp at h1;omega
    ·exact⟨_,step b o _ cap e' h0 h1⟩
   split at h
   ·rename_i et' z es h'
    simp only[Option.some.injEq]at h';subst h'
    simp only[za]at r
    exact slice _ _ h r
   ·rename_i et' t z es h'
    simp only[Option.some.injEq]at h';subst h'
    simp only[za]at r
    exact slice _ _ h r.1
   ·rename_i et' t z o m h'
    simp only[za]at r
    obtain⟨b,o',cap,hk,e',hc,ho,_⟩:=r
    exact⟨_,step b o' _ cap e' h.2.1 h.2.2⟩
   ·exact h.elim
 ·rename_i len e sz by_ ze k n hT
  simp only[za,zi]at ri
  subst ri
  cases het:ty P e with
  |none=>simp only[het]at h;exact h.elim
  |some et=>
   simp only[het]at h
   have step:∀b o,v=.pointer (some ⟨b,o,none⟩)→0≤n→n< (len:Int)→
     ∀w',(Instr.indexAt T v (.int k n)).run P w'=.ok (.pointer (some ⟨b,o+n.toNat*et.size,none⟩)) w':=by
    intro b o e' h0 h1 w'
    subst e'
    have hu:=zo w' hT
    simp only[]at hu
    simp[Instr.indexAt,asIntOf,hu,qc w' het,h0,h1,addr_add,Instr.sureAddr]
   split at h
   ·simp only[za]at r
    obtain⟨b,hk,e'⟩:=r
    exact⟨_,step b _ e' h.1 h.2⟩
   ·simp only[za]at r
    obtain⟨b,base,e',hf,he⟩:=r
    exact⟨_,step b _ e' h.1 h.2⟩
   ·exact h.elim
 ·exact h.elim
theorem VQ {g:Gh} {w w':World} {x:AV} {v:Value}(h:VH x=true)(r:za g w x v):za g w' x v:=by
 unfold VH at h
 split at h
 ·simpa only[za,zi]using r
 ·simpa only[za,zi]using r
 ·cases h
theorem kh [Gi] {P:Program} {E:Ent} {S:St} {g:Gh} {a:Act} {w:World}(hS:SR E S g a w) {o:Oper} {r:PR}(e:qE P S o=some r)(h:r.1)(hi:yG S o r.2=true):
  ∃v,(∀w',(execOp a.eval o).run P w'=.ok (.value v) w')∧za g w r.2 v:=by
 obtain⟨v,hv,hr⟩:=qC hS e h
 refine⟨v,?_,hr⟩
 obtain⟨dst,op,tt,pos,after,guard⟩:=o
 cases op with
 |move x=>
  have e1:∀u,(execOp a.eval ⟨dst,.move x,tt,pos,after,guard⟩).run P u=.ok (.value (a.eval x)) u:=fun u=>rfl
  rw[e1]at hv
  injection hv with hv _
  injection hv with hv
  subst hv
  exact e1
 |nilCheck x=>
  simp only[qE,Option.some.injEq]at e
  subst e
  simp only[yG]at hi
  have hx:=zp h.1 (hS.ev x)
  obtain⟨ad,he⟩:=Vw hi hx
  have e1:∀u,(execOp a.eval ⟨dst,.nilCheck x,tt,pos,after,guard⟩).run P u=.ok (.value (.pointer (some ad))) u:=fun u=>by simp[execOp,he]
  rw[e1]at hv
  injection hv with hv _
  injection hv with hv
  subst hv
  exact e1
 |fieldAddr T x f=>
  simp only[qE,Option.some.injEq]at e
  subst e
  obtain⟨u,hu⟩:=YU h.2 (zp h.1 (hS.ev x))
  have e1:∀w',(execOp a.eval ⟨dst,.fieldAddr T x f,tt,pos,after,guard⟩).run P w'=.ok (.value u) w':=fun w'=>zM (hu w')
  rw[e1]at hv
  injection hv with hv _
  injection hv with hv
  subst hv
  exact e1
 |indexAddr T x i=>
  simp only[qE,Option.some.injEq]at e
  subst e
  obtain⟨u,hu⟩:=XP h.2 (zp h.1.1 (hS.ev x)) (zp h.1.2 (hS.ev i))
  have e1:∀w',(execOp a.eval ⟨dst,.indexAddr T x i,tt,pos,after,guard⟩).run P w'=.ok (.value u) w':=fun w'=>zM (hu w')
  rw[e1]at hv
  injection hv with hv _
  injection hv with hv
  subst hv
  exact e1
 |extract x i=>
  have e0:∀w',(∃u,(Instr.extract (a.eval x) i).run P w=.ok u w∧(Instr.extract (a.eval x) i).run P w'=.ok u w')∨∀u,(Instr.extract (a.eval x) i).run P w≠ .ok u w:=by
   intro w'
   unfold Instr.extract
   split
   ·split
    ·exact .inl ⟨_,rfl,rfl⟩
    ·exact .inr fun u hu=>by cases hu
   ·exact .inr fun u hu=>by cases hu
  intro w'
  simp only[execOp,Sem.run_bind]at hv⊢
  rcases e0 w' with ⟨u,h1,h2⟩|h1
  ·rw[h1]at hv
   rw[h2]
   injection hv with hv _
   injection hv with hv
   subst hv
   rfl
  ·exfalso
   cases hq:(Instr.extract (a.eval x) i).run P w with
   |ok u w1=>
    rw[hq]at hv
    injection hv with _ hw
    subst hw
    exact h1 u hq
   |halt b w1=>rw[hq]at hv;cases hv
 |binOp op t x y u0=>
  simp only[qE,Option.some.injEq]at e
  subst e
  simp only[yG,Bool.and_eq_true]at hi
  have hx:=zp h.1.1 (hS.ev x)
  have hy:=zp h.1.2 (hS.ev y)
  have each:∀w',∃u,(execOp a.eval ⟨dst,.binOp op t x y u0,tt,pos,after,guard⟩).run P w'=.ok (.value u) w'∧za g w' (un2 S x y (zcD P op t y)).2 u:=fun w'=>by
   obtain⟨u,h1,h2⟩:=V9 (P:=P) (w:=w') (yo:=y) x (fun c hc=>by subst hc;rfl) h.2 (VQ hi.1.1 hx) (VQ hi.1.2 hy)
   exact⟨u,zM h1,h2⟩
  intro w'
  obtain⟨u,h1,h2⟩:=each w'
  rw[x0 hS.ur hr h2 hi.2]
  exact h1
 |_=>simp only[yG]at hi;cases hi
theorem Wc {P:Program} {t:TypeId} {n:Nat} {parts:Array (Nat×Value)} {w w':World} {v:Value}(h:(Instr.buildSlice t n parts).run P w=.ok v w'):∃x,w'=w.alloc x:=by
 have hu:∀t,(∃T,(underlying t).run P w=.ok T w)∨∃b,(underlying t).run P w=.halt b w:=fun t=>by
  unfold underlying
  simp only[Sem.run_bind,run_program,Result.andThen_ok]
  split
  ·exact .inl ⟨_,rfl⟩
  ·exact .inr ⟨_,rfl⟩
 have hi:∀t,(∃T,(typeInfo t).run P w=.ok T w)∨∃b,(typeInfo t).run P w=.halt b w:=fun t=>by
  unfold typeInfo
  simp only[Sem.run_bind,run_program,Result.andThen_ok]
  split
  ·exact .inl ⟨_,rfl⟩
  ·exact .inr ⟨_,rfl⟩
 have hs:∀t,(∃T,(sizeOf t).run P w=.ok T w)∨∃b,(sizeOf t).run P w=.halt b w:=fun t=>by
  unfold sizeOf
  rcases hi t with ⟨T,e⟩|⟨b,e⟩
  ·exact .inl ⟨T.size,by simp only[Sem.run_bind,e];rfl⟩
  ·exact .inr ⟨b,by simp only[Sem.run_bind,e];rfl⟩
 have hz:∀t,(∃T,(zeroValue t).run P w=.ok T w)∨∃b,(zeroValue t).run P w=.halt b w:=fun t=>by
  unfold zeroValue
  rcases hi t with ⟨T,e⟩|⟨b,e⟩
  ·simp only[Sem.run_bind,e,Result.andThen_ok]
   split
   ·exact .inl ⟨_,rfl⟩
   ·exact .inr ⟨_,rfl⟩
  ·exact .inr ⟨b,by simp only[Sem.run_bind,e];rfl⟩
 unfold Instr.buildSlice at h
 rcases hu t with ⟨T,e⟩|⟨b,e⟩
 ·simp only[Sem.run_bind,e,Result.andThen_ok]at h
  split at h
  ·rename_i el
   rcases hs el with ⟨sz,e⟩|⟨b,e⟩
   ·simp only[Sem.run_bind,e,Result.andThen_ok]at h
    split at h
    ·cases h
    ·by_cases h0:n*sz=0
     ·simp only[h0,if_true,Sem.run_bind,Sem.run_pure,Result.andThen_ok]at h
      split at h
      ·simp only[Sem.run_bind,newRow,run_newObj,Result.andThen_ok,Sem.run_pure]at h
       injection h with _ h;exact⟨_,h.symm⟩
      ·cases h
     ·rcases hz el with ⟨z,e⟩|⟨b,e⟩
      ·simp only[h0,if_false,Sem.run_bind,Sem.run_pure,Result.andThen_ok,e]at h
       split at h
       ·simp only[Sem.run_bind,newRow,run_newObj,Result.andThen_ok,Sem.run_pure]at h
        injection h with _ h;exact⟨_,h.symm⟩
       ·cases h
      ·simp only[h0,if_false,Sem.run_bind,e]at h;cases h
   ·simp only[Sem.run_bind,e]at h;cases h
  ·cases h
 ·simp only[Sem.run_bind,e]at h;cases h
theorem W8 {P:Program} {w w' w1:World} {b o:Nat} {u:Value}(hb:w'.heap[b]?=w.heap[b]?)(hc:∃arr T f,w.heap[b]?=some (.cells arr T f))(h:(load ⟨b,o,none⟩).run P w=.ok u w1):w1=w∧(load ⟨b,o,none⟩).run P w'=.ok u w':=by
 obtain⟨arr,T,f,e⟩:=hc
 have hcell:w'.cell? ⟨b,o,none⟩=w.cell? ⟨b,o,none⟩:=cell_of_heap hb
 unfold load at h⊢
 simp only[Sem.run]at h⊢
 rw[hcell]
 cases hq:w.cell? ⟨b,o,none⟩with
 |some v=>
  rw[hq]at h
  simp only at h⊢
  injection h with h1 h2
  exact⟨h2.symm,by rw[h1]⟩
 |none=>
  rw[hq]at h
  simp only[World.farLoad,e]at h
  cases h
theorem y7 {P:Program} {w w':World} {b:Nat}(hb:w'.heap[b]?=w.heap[b]?)(hc:∃arr T f,w.heap[b]?=some (.cells arr T f)) {o:Nat}:∀(n i:Nat) (acc:Array Value) {u:Array Value} {w1:World},(loadCellsFrom ⟨b,o,none⟩ i n acc).run P w=.ok u w1→w1=w∧(loadCellsFrom ⟨b,o,none⟩ i n acc).run P w'=.ok u w'
 |0,i,acc,u,w1,h=>by
  simp only[loadCellsFrom,Sem.run_pure]at h⊢
  injection h with h1 h2
  exact⟨h2.symm,by rw[h1]⟩
 |n+1,i,acc,u,w1,h=>by
  simp only[loadCellsFrom,Sem.run_bind,addr_add]at h⊢
  cases hq:(load ⟨b,o+i,none⟩).run P w with
  |ok v w2=>
   obtain⟨rfl,h2⟩:=W8 hb hc hq
   rw[hq]at h
   rw[h2]
   simp only[Result.andThen_ok]at h⊢
   exact y7 hb hc n (i+1) _ h
  |halt x w2=>rw[hq]at h;cases h
theorem US {P:Program} {t:TypeId} {T:Ty}(hT:ty P t=some T) {w w' w1:World} {b o:Nat}(hb:w'.heap[b]?=w.heap[b]?)(hc:(∃arr T f,w.heap[b]?=some (.cells arr T f))∨(zW T.desc=true∧T.size=0)) {u:Value}(h:(loadVar t ⟨b,o,none⟩).run P w=.ok u w1):
  w1=w∧(loadVar t ⟨b,o,none⟩).run P w'=.ok u w':=by
 unfold loadVar at h⊢
 rw[Sem.run_bind,yB w hT]at h
 rw[Sem.run_bind,yB w' hT]
 simp only[Result.andThen_ok]at h⊢
 cases hA:zW T.desc with
 |true=>
  rw[hA]at h
  simp only[if_true,Sem.run_bind,qc w hT,qc w' hT,Result.andThen_ok,loadCells]at h⊢
  rcases hc with hc|⟨_,hz⟩
  ·cases hq:(loadCellsFrom ⟨b,o,none⟩ 0 T.size #[]).run P w with
   |ok v w2=>
    obtain⟨rfl,h2⟩:=y7 hb hc _ _ _ hq
    rw[hq]at h
    rw[h2]
    simp only[Result.andThen_ok,Sem.run_pure]at h⊢
    injection h with h3 h4
    exact⟨h4.symm,by rw[h3]⟩
   |halt x w2=>rw[hq]at h;cases h
  ·rw[hz]at h⊢
   simp only[loadCellsFrom,Sem.run_pure,Result.andThen_ok]at h⊢
   injection h with h3 h4
   exact⟨h4.symm,by rw[h3]⟩
 |false=>
  rw[hA]at h
  simp only[Bool.false_eq_true,if_false]at h⊢
  rcases hc with hc|⟨hx,_⟩
  ·exact W8 hb hc h
  ·rw[hA]at hx;cases hx
theorem cells_of_cell {w:World} {b o:Nat} {c:Value}(h:w.cell? ⟨b,o,none⟩=some c):∃arr T f,w.heap[b]?=some (.cells arr T f):=by
 unfold World.cell? at h
 simp only at h
 split at h
 ·rename_i arr T f e;exact⟨arr,T,f,e⟩
 ·cases h
theorem WO [Gi] {P:Program} {E:Ent} {S:St} {g:Gh} {a:Act} {w:World}(hS:SR E S g a w) {t:TypeId} {x:AV} {v:Value}(h:(jx P S t x).1)(r:za g w x v) {u:Value}(hu:(Instr.loadAt t v).run P w=.ok u w) {w':World}(hw:∀b,b<w.heap.size→w'.heap[b]?=w.heap[b]?):
  (Instr.loadAt t v).run P w'=.ok u w':=by
 have key:∀b o T,v=.pointer (some ⟨b,o,none⟩)→ty P t=some T→((∃arr T f,w.heap[b]?=some (.cells arr T f))∨(zW T.desc=true∧T.size=0))→(Instr.loadAt t v).run P w'=.ok u w':=by
  rintro b o T rfl hT hc
  simp only[Instr.loadAt,Instr.sureAddr,Sem.run_bind,Sem.run_pure,Result.andThen_ok]at hu⊢
  rcases hc with hc|hc
  ·have hlt:b<w.heap.size:=by
    obtain⟨_,_,_,e⟩:=hc
    exact(Array.getElem?_eq_some_iff.1 e).1
   exact(US hT (hw b hlt) (.inl hc) hu).2
  ·unfold loadVar at hu⊢
   rw[Sem.run_bind,yB w hT]at hu
   rw[Sem.run_bind,yB w' hT]
   rw[hc.1]at hu⊢
   simp only[Result.andThen_ok,if_true,Sem.run_bind,qc w hT,qc w' hT,loadCells,hc.2,loadCellsFrom,Sem.run_pure]at hu⊢
   injection hu with h3 h4
   rw[h3]
 unfold jx at h
 cases hT:ty P t with
 |none=>simp only[hT]at h;exact h.elim
 |some T=>
  simp only[hT]at h
  split at h
  ·rename_i rt o
   simp only[za]at r
   obtain⟨b,hk,e⟩:=r
   obtain⟨cs,hl,h0,arr,T',hb,hle,hc⟩:=hS.roots b rt hk
   exact key b o T e hT (.inl ⟨arr,T',_,hb⟩)
  ·rename_i z e o
   simp only[za]at r
   obtain⟨b,base,ev,hf,he⟩:=r
   simp only[qo,and_true]at he
   obtain⟨q,hq1,hq2,hq3⟩:=he
   refine key b _ T ev hT ?_
   rcases Nat.eq_zero_or_pos z with hz|hz
   ·subst hz
    unfold Yo at h
    split at h
    ·rename_i cs
     split at h
     ·rename_i hz
      unfold wx at h
      cases hA:zW T.desc with
      |true=>
       rw[hA]at h
       simp only[if_true]at h
       exact .inr ⟨rfl,by omega⟩
      |false=>
       rw[hA]at h
       have:cs=[]:=List.length_eq_zero_iff.1 hz
       subst this
       simp at h
       exact h.elim
     ·exact h.elim
    ·split at h
     ·rename_i hc;omega
     ·exact h.elim
   ·have hj:∃c,q.cells[0]?=some c:=⟨_,Array.getElem?_eq_getElem (by omega)⟩
    obtain⟨c,hc⟩:=hj
    exact .inl (cells_of_cell (hq3 0 c hc).2)
  ·exact h.elim
theorem wM:∀(l:List Obj) (w:World),(w.heap.size≤(l.foldl World.alloc w).heap.size)∧∀b,b<w.heap.size→(l.foldl World.alloc w).heap[b]?=w.heap[b]?
 | [],w=>⟨Nat.le_refl _,fun _ _=>rfl⟩
 |o::l,w=>by
  obtain⟨h1,h2⟩:=wM l (w.alloc o)
  have hs:(w.alloc o).heap.size=w.heap.size+1:=by simp
  refine⟨by rw[List.foldl_cons];omega,fun b hb=>?_⟩
  rw[List.foldl_cons,h2 b (by omega),heap_alloc,if_neg (by omega)]
theorem Jj [Gi] {P:Program} {ops:Array Oper} {K:St→Prop} {S:St}:∀{l:List (Nat×OT)} {i:Nat} {t:OT},jX P ops K l S→(i,t)∈l→
  ∃o c,ops[i]?=some o∧Uc (qE P S o) (Ur o)∧zY ops S o=some c∧QQ P S o c (jo P ops K t)
 |(j,u)::l,i,t,h,hm=>by
  simp only[jX]at h
  rcases List.mem_cons.1 hm with e|hm
  ·injection e with e1 e2;subst e1;subst e2
   have h1:=h.1
   cases ho:ops[i]? with
   |none=>rw[ho]at h1;exact h1.elim
   |some o=>
    rw[ho]at h1
    simp only at h1
    cases hg:zY ops S o with
    |none=>rw[hg]at h1;exact h1.2.elim
    |some c=>rw[hg]at h1;exact⟨o,c,rfl,h1.1,hg,h1.2⟩
  ·exact Jj h.2 hm
theorem SR.grows [Gi] {E:Ent} {S:St} {g:Gh} {a:Act}:∀(l:List Obj) {w:World},SR E S g a w→SR E S g a (l.foldl World.alloc w)
 | [],_,h=>h
 |o::l,_,h=>SR.grows l (h.alloc o)
theorem WC [Gi] {P:Program} {ops:Array Oper} {E:Ent} {S:St} {g:Gh} {a:Act} {w:World}(hS:SR E S g a w) {i:Nat} {o:Oper}(hi:ops[i]?=some o) {c:Option Bool}(hc:zY ops S o=some c)(hd:Uc (qE P S o) (Ur o)) {K:St→Prop}(h:QQ P S o c K)
  {next:Act→World→Prop} {Q:Exit→Act→World→Prop} (hK:∀S' g' a' w',K S'→SR E S' g' a' w'→next a' w'):wpOp P ops Q i (fun a' w'=>jw ops i w w'∧next a' w') a w:=by
 have base:=wX (P:=P) hS hc h (next:=next) (Q:=Q) hK
 by_cases hp:puO o=true
 ·obtain⟨r,hr⟩:∃r,qE P S o=some r:=by
   unfold puO at hp
   simp only[Bool.or_eq_true]at hp
   rcases hp with hp|hp
   ·exact uw hp
   ·rw[hp]at hd
    exact Option.isSome_iff_exists.1 hd
  have hk:jw ops i w w:=by
   unfold jw;rw[hi]
   refine⟨fun _=>rfl,fun ha=>?_⟩
   exfalso
   obtain⟨dst,op,tt,pos,after,guard⟩:=o
   unfold puO Zw Ur at hp
   unfold adO Q9 YO at ha
   cases op<;>simp at ha hp
  unfold wpOp
  simp only[hi]
  split
  ·rename_i hw
   rw[if_pos hw]at base
   have hrun:∃v,(execOp a.eval o).run P w=.ok (.value v) w:=by
    simp only[QQ,hr]at h
    cases c with
    |none=>obtain⟨v,hv,_⟩:=qC hS hr h.1.1;exact⟨v,hv⟩
    |some b=>
     rw[jV hS hc]at hw
     obtain⟨v,hv,_⟩:=qC hS hr (h.1.1 (by simpa using hw));exact⟨v,hv⟩
   obtain⟨v,hv⟩:=hrun
   refine .inl ?_
   unfold Oper.wp at base⊢
   rw[hv]at base⊢
   exact⟨hk,base⟩
  ·rename_i hw
   rw[if_neg hw]at base
   exact⟨hk,base⟩
 ·by_cases ha:Q9 o=true
  ·unfold wpOp
   simp only[hi]
   obtain⟨dst,op,tt,pos,after,guard⟩:=o
   unfold Q9 at ha
   cases op with
   |alloc T=>
    simp only[Bool.and_eq_true,Option.isNone_iff_eq_none]at ha
    obtain⟨rfl,_⟩:=ha
    have hw:Region.wanted (⟨dst,.alloc T,tt,pos,after,none⟩:Oper) (yielded ops a.tmps)=true:=rfl
    rw[if_pos hw]at base⊢
    refine .inl ?_
    have hcn:c=none:=by
     unfold zY at hc
     simpa using hc.symm
    subst hcn
    simp only[QQ,qE,Vo,X5]at h
    have h1:=h.1
    unfold uG at h1
    split at h1
    ·rename_i d ds sz by_ zs hT _
     obtain⟨zv,hz1,hz2⟩:=QG hT rfl
     have hrun:(execOp a.eval ⟨some d,.alloc T,tt,pos,after,none⟩).run P w=.ok (.value (.pointer (some ⟨w.heap.size,0,none⟩))) (w.alloc (.cells zv.cells T)):=by
      unfold execOp
      simp only[Instr.alloc,Sem.run_bind,hz1,Result.andThen_ok,newVar,newRow,run_newObj,Sem.run_pure]
      rfl
     unfold Oper.wp at base⊢
     rw[hrun]at base⊢
     refine⟨?_,base⟩
     unfold jw;rw[hi]
     exact⟨fun h=>absurd h hp,fun _=>⟨_,rfl⟩⟩
    ·exact h1.elim
   |_=>cases ha
  ·by_cases hb:(YO o&&o.guard.isNone)=true
   ·unfold wpOp
    simp only[hi]
    obtain⟨dst,op,tt,pos,after,guard⟩:=o
    unfold YO at hb
    cases op with
    |buildSlice T n parts=>
     simp only[Bool.true_and,Option.isNone_iff_eq_none]at hb
     subst hb
     have hw:Region.wanted (⟨dst,.buildSlice T n parts,tt,pos,after,none⟩:Oper) (yielded ops a.tmps)=true:=rfl
     rw[if_pos hw]at base⊢
     refine .inl ?_
     have hk:∀x,jw ops i w (w.alloc x):=fun x=>by
      unfold jw;rw[hi]
      exact⟨fun h=>absurd h hp,fun _=>⟨x,rfl⟩⟩
     unfold Oper.wp at base⊢
     have hrun:(execOp a.eval ⟨dst,.buildSlice T n parts,tt,pos,after,none⟩).run P w=((Instr.buildSlice T n (parts.map fun(i,x)=>(i,a.eval x))).run P w).andThen fun v w'=>.ok (.value v) w':=by
      simp only[execOp,Sem.run_bind]
      rfl
     rw[hrun]at base⊢
     cases hr:(Instr.buildSlice T n (parts.map fun(i,x)=>(i,a.eval x))).run P w with
     |ok v w'=>
      rw[hr]at base
      obtain⟨x,rfl⟩:=Wc hr
      exact⟨hk x,base⟩
     |halt b w'=>
      rw[hr]at base
      have he:∀F:Value→World→Result Next,(Result.halt b w').andThen F=.halt b w':=fun _=>rfl
      rw[he]at base⊢
      cases b<;>simp only[Oper.upon]at base⊢ <;>exact base
    |_=>cases hb
   unfold wpOp
   simp only[hi]
   have hk:∀w',jw ops i w w':=fun w'=>by
    unfold jw;rw[hi]
    refine⟨fun h=>absurd h hp,fun h=>?_⟩
    unfold adO at h
    simp only[Bool.or_eq_true]at h
    exact absurd h (fun h=>h.elim ha hb)
   split
   ·rename_i hw
    rw[if_pos hw]at base
    exact .inl (Oper.wp_mono (fun a' w' h'=>⟨hk w',h'⟩) base)
   ·rename_i hw
    rw[if_neg hw]at base
    exact⟨hk w,base⟩
theorem VL [Gi] {P:Program} {ops:Array Oper} {Q:Exit→Act→World→Prop} {E:Ent} {K:St→Prop}(hQ:∀S' g' a' w',K S'→SR E S' g' a' w'→Q .normal a' w')(hQp:∀c a w,¬Q (.panic c) a w)
  (hsel:Region.noSelect ops=true):
  ∀(f:Nat) (listed:Array Bool) (t:OT) {S:St} {g:Gh} {a:Act} {w:World},yH ops listed→okT ops f listed t=true→jo P ops K t S→SR E S g a w→wpX P ops Q f listed a w
 |0,listed,.now _ _ _,S,g,a,w,hcl,hok,h,hS=>by cases hok
 |0,listed,.mk l,S,g,a,w,hcl,hok,h,hS=>by
  simp only[okT,Bool.and_eq_true,List.isEmpty_iff]at hok
  obtain⟨rfl,hr⟩:=hok
  exact⟨hr,hQ S g a w (by simpa only[jo]using h) hS⟩
 |f+1,listed,.mk l,S,g,a,w,hcl,hok,h,hS=>by
  simp only[okT,Bool.and_eq_true,beq_iff_eq,List.all_eq_true]at hok
  obtain⟨hr,hall⟩:=hok
  refine⟨fun hn=>?_,fun i hi=>?_⟩
  ·have hl:l=[]:=by rw[hn]at hr;simpa using hr
   subst hl
   exact hQ S g a w (by simpa only[jo]using h) hS
  ·have hcl':=hcl.set hi
   rw[←hr,List.mem_map]at hi
   obtain⟨⟨j,t⟩,hm,rfl⟩:=hi
   have h':jX P ops K l S:=by
    cases l with
    |nil=>cases hm
    |cons x l=>simpa only[jo]using h
   obtain⟨o,c,ho,hd,hg,hst⟩:=Jj h' hm
   exact WC (P:=P) hS ho hg hd hst (fun S' g' a' w' hk hs=>VL hQ hQp hsel f _ t hcl' (hall _ hm) hk hs)
 |f+1,listed,.now i c t,S,g,a,w,hcl,hok,h,hS=>by
  simp only[okT,Bool.and_eq_true]at hok
  obtain⟨⟨hr,he⟩,hok⟩:=hok
  have hri:i∈Region.ready .any ops listed:=by simpa using hr
  unfold zaz at he
  split at he
  ·rename_i oi hio
   simp only[Bool.and_eq_true,Option.isNone_iff_eq_none]at he
   obtain⟨⟨hgu,hpi⟩,hcomp⟩:=he
   simp only[jo,Xr,hio]at h
   unfold zc7 at h
   split at h
   ·rename_i r hp
    obtain⟨⟨h1,h2⟩,h3,h4⟩:=h
    have hwt:Region.wanted oi (yielded ops a.tmps)=true:=by unfold Region.wanted;rw[hgu]
    have hval:∃v,YieldsIf P ops (Js c w) oi v a∧za g w r.2 v:=by
     unfold zaQ at h3
     split at h3
     ·obtain⟨v,hv,hrep⟩:=qC hS hp h1
      exact⟨v,.inl ⟨hwt,fun w' hw'=>by cases hw';exact hv⟩,hrep⟩
     ·by_cases hin:yG S oi r.2=true
      ·obtain⟨v,hv,hrep⟩:=kh hS hp h1 hin
       exact⟨v,.inl ⟨hwt,fun w' _=>hv w'⟩,hrep⟩
      ·obtain⟨v,hv,hrep⟩:=qC hS hp h1
       refine⟨v,.inl ⟨hwt,fun w' hw'=>?_⟩,hrep⟩
       obtain⟨l,rfl⟩:=hw'
       by_cases hld:yK oi=true
       ·obtain⟨dst,op,tt,pos,after,guard⟩:=oi
        unfold yK at hld
        cases op with
        |load t x=>
         simp only[qE,Option.some.injEq]at hp
         subst hp
         have hx:=zp h1.1 (hS.ev x)
         obtain⟨u,hu,_⟩:=kl hS h1.2 hx
         have e1:(execOp a.eval ⟨dst,.load t x,tt,pos,after,guard⟩).run P w=.ok (.value u) w:=zM hu
         rw[e1]at hv
         injection hv with hv _
         injection hv with hv
         subst hv
         exact zM (WO hS h1.2 hx hu (wM l w).2)
        |_=>cases hld
       ·have hdet:Vk r.2=true:=by
         simp only[Bool.or_eq_true]at h3
         exact(h3.resolve_left hin).resolve_left hld
        obtain⟨v',hv',hrep'⟩:=qC (SR.grows l hS) hp h1
        rw[x0 hS.ur hrep hrep' hdet]
        exact hv'
     ·obtain⟨v,hv,hrep⟩:=kh hS hp h1 h3
      exact⟨v,.inl ⟨hwt,fun w' _=>hv w'⟩,hrep⟩
    obtain⟨v,hy,hrep⟩:=hval
    refine KQ (w0:=w) (c:=c) hio (Region.noSelect_spec hsel) hpi hQp f listed a w hcl ?_ hri hy (K9 c w) (VL hQ hQp hsel f _ t (hcl.set hri) hok h4 (hS.qg hrep h2))
    intro j oj hj hji hun
    have hj':j<ops.size:=(Array.getElem?_eq_some_iff.1 hj).1
    have hx:=List.all_eq_true.1 hcomp j (List.mem_range.2 hj')
    simp only[hj,Bool.or_eq_true,beq_iff_eq,hji,hun,Bool.false_eq_true,false_or,Bool.and_eq_true]at hx
    rcases hx with (hx|hx)|hx
    ·exact .inl hx
    ·exact .inr (.inl (by simpa using hx))
    ·exact .inr (.inr (by simpa using hx))
   ·exact h.elim
  ·cases he
theorem zfO [Gi] {P:Program} {ops:Array Oper} {Q:Exit→Act→World→Prop} {E:Ent} {K:St→Prop}(hQ:∀S' g' a' w',K S'→SR E S' g' a' w'→Q .normal a' w')(hQp:∀c a w,¬Q (.panic c) a w)(hsel:Region.noSelect ops=true) {t:OT} {S:St} {g:Gh} {a:Act} {w:World}
  (hok:okT ops ops.size (Array.replicate ops.size false) t=true) (h:jo P ops K t S) (hS:SR E S g a w):wpAny P .any ops Q ops.size (Array.replicate ops.size false) a w:=
 wP _ _ _ _ (VL hQ hQp hsel _ _ t (fun j oj _ hl=>by rw[getD_replicate_false]at hl;cases hl) hok h hS)
theorem Kn [Gi] {P:Program} {id:Nat} {ops:Array Oper}(hm:P.follows .mixedOrders=true) {Q:Exit→Act→World→Prop} {E:Ent} {K:St→Prop}
  (hQ:∀S' g' a' w',K S'→SR E S' g' a' w'→Q .normal a' w') {S:St} {g:Gh} {a:Act} {w:World} (h:∃t,(Region.noSelect ops&&okT ops ops.size (Array.replicate ops.size false) t)=true∧jo P ops K t S) (hS:SR E S g a w):(Code.region id ops true).wp P Q a w:=by
 obtain⟨t,hok,h⟩:=h
 simp only[Bool.and_eq_true]at hok
 have hw1:SR E S g a {w with drawn:=w.drawn+1}:=hS.drew
 refine wp_mono (wp_region_any hm (zfO (Q:=fun e a w=>e=.normal∧Q .normal a w) (fun S' g' a' w' k s=>⟨rfl,hQ S' g' a' w' k s⟩) (fun c a w hq=>by cases hq.1) hok.1 hok.2 h hw1)) ?_
 rintro e a' w' ⟨rfl,hq⟩
 exact hq
end
end Go.AM
