/- A part of this seat's proofs, by an abstract machine. Conditions: each law's. -/
import Derived.Orders
import Derived.Laws.CopyRow
import Derived.Laws.AppendOwn
namespace Go.AM
section
abbrev Tok:=List Nat
inductive PV where
 |int (k:IntKind) (n:Int)
 |bool (b:Bool)
 |str (s:List UInt8)
 |opq (v:Value)
 |agg (cs:List PV)
 |sl (z:Nat) (es:List PV)
 |mp (ks xs:List PV)
 |pt (z:Nat) (e:PV)
 deriving Inhabited
inductive AV where
 |p (x:PV)
 |os (t:Tok) (z:Nat) (es:List PV)
 |om (t:Tok) (ks xs:List PV)
 |ow (t:Tok) (z:Nat) (es:List PV)
 |lp (t:Tok) (o:Nat)
 |la (t:Tok) (z o n:Nat)
 |ip (z:Nat) (e:PV) (o:Nat)
 |gd (c:Bool) (x:AV)
 |ag (xs:List AV)
 |fn (f:FuncId) (xs:List AV)
 |bb (t:Tok) (T:TypeId) (l:List UInt8)
 |bz (t:Tok) (T:TypeId) (m:Nat)
 |st (t:Tok) (j:Nat)
 |it (t:Tok) (ks xs:List PV) (left:List Nat) (cur:Option Nat)
 |tup (xs:List AV)
 |zK
 deriving Inhabited
inductive Kd where
 |prot
 |root (t:Tok)
 |tail (t:Tok)
structure Gh where
 fr:Nat→Nat
 K:Nat→Kd
def Q1(es:Array MapEntry)(c:Nat):Bool:=decide (es.toList.map (·.born)).Nodup&&es.toList.all fun e=>decide (e.born<c)
def ZV(w:World)(b:Nat):Option (Array MapEntry×Nat):=match w.heap[b]? with
 |some (.map es c)=>if Q1 es c then some (es,c)else none
 |_=>none
mutual
def zi(fr:Nat→Nat)(w:World):PV→Value→Prop
 |.int k n,v=>v=.int k n
 |.bool b,v=>v=.bool b
 |.str s,v=>v=.string ⟨s.toArray⟩
 |.opq u,v=>v=u
 |.agg cs,v=>∃vs:Array Value,v=.agg vs∧zr fr w cs vs.toList
 |.sl z es,v=>(es=[]∧∃a cap,v=.slice a 0 cap)∨
   ∃b o cap,v=.slice (some ⟨b,o,none⟩) es.length cap∧es.length≤cap∧o+es.length*z≤fr b∧qo fr w z b es o
 |.mp ks xs,v=>∃b arr c,v=.map (some b)∧0<fr b∧ZV w b=some (arr,c)∧qp fr w ks (arr.toList.map (·.key))∧qp fr w xs (arr.toList.map (·.val))
 |.pt z e,v=>∃b o,v=.pointer (some ⟨b,o,none⟩)∧o+z≤fr b∧∃u,zi fr w e u∧u.cells.size=z∧∀j c,u.cells[j]?=some c→c.oneCell'=true∧w.cell? ⟨b,o+j,none⟩=some c
def zr(fr:Nat→Nat)(w:World):List PV→List Value→Prop
 | [],vs=>vs=[]
 |c::cs,vs=>∃v vs',vs=v::vs'∧v.oneCell'=true∧zi fr w c v∧zr fr w cs vs'
def qp(fr:Nat→Nat)(w:World):List PV→List Value→Prop
 | [],vs=>vs=[]
 |c::cs,vs=>∃v vs',vs=v::vs'∧zi fr w c v∧qp fr w cs vs'
def qo(fr:Nat→Nat)(w:World)(z b:Nat):List PV→Nat→Prop
 | [],_=>True
 |e::es,o=>(∃v,zi fr w e v∧v.cells.size=z∧∀j c,v.cells[j]?=some c→c.oneCell'=true∧w.cell? ⟨b,o+j,none⟩=some c)∧qo fr w z b es (o+z)
end
def Ext(fr:Nat→Nat)(w:World)(fr':Nat→Nat)(w':World):Prop:=
 ∀b o,o<fr b→o<fr' b∧w'.cell? ⟨b,o,none⟩=w.cell? ⟨b,o,none⟩∧ZV w' b=ZV w b
theorem Ext.refl(fr:Nat→Nat)(w:World):Ext fr w fr w:=fun _ _ h=>⟨h,rfl,rfl⟩
theorem Ext.trans {f1 f2 f3:Nat→Nat} {w1 w2 w3:World}(h:Ext f1 w1 f2 w2)(k:Ext f2 w2 f3 w3):Ext f1 w1 f3 w3:=
 fun b o ho=>let⟨a,e⟩:=h b o ho;let⟨a',e'⟩:=k b o a;⟨a',e'.1.trans e.1,e'.2.trans e.2⟩
theorem Ext.le {f1 f2:Nat→Nat} {w1 w2:World}(h:Ext f1 w1 f2 w2)(b:Nat):f1 b≤f2 b:=by
 rcases Nat.eq_zero_or_pos (f1 b)with h0|h0
 ·omega
 ·have:=(h b (f1 b-1) (by omega)).1;omega
section
variable {f1 f2:Nat→Nat} {w1 w2:World}
mutual
theorem zi.ext(h:Ext f1 w1 f2 w2):∀(x:PV) (v:Value),zi f1 w1 x v→zi f2 w2 x v
 |.int _ _,_,r=>r
 |.bool _,_,r=>r
 |.str _,_,r=>r
 |.opq _,_,r=>r
 |.agg cs,v,r=>by
  simp only[zi]at r⊢
  obtain⟨vs,e,r⟩:=r
  exact⟨vs,e,zr.ext h cs _ r⟩
 |.sl z es,v,r=>by
  simp only[zi]at r⊢
  rcases r with r|⟨b,o,cap,e,hc,hf,r⟩
  ·exact .inl r
  ·exact .inr ⟨b,o,cap,e,hc,Nat.le_trans hf (h.le b),qo.ext h z b es o hf r⟩
 |.mp ks xs,v,r=>by
  simp only[zi]at r⊢
  obtain⟨b,arr,c,e,hf,hm,r1,r2⟩:=r
  exact⟨b,arr,c,e,(h b 0 hf).1,(h b 0 hf).2.2.trans hm,qp.ext h ks _ r1,qp.ext h xs _ r2⟩
 |.pt z e,v,r=>by
  simp only[zi]at r⊢
  obtain⟨b,o,hv,hf,u,h1,h2,h3⟩:=r
  refine⟨b,o,hv,Nat.le_trans hf (h.le b),u,zi.ext h e u h1,h2,fun j c hj=>?_⟩
  have hj':j<z:=by rw[←h2];exact(Array.getElem?_eq_some_iff.1 hj).1
  rw[(h b (o+j) (by omega)).2.1]
  exact h3 j c hj
theorem zr.ext(h:Ext f1 w1 f2 w2):∀(cs:List PV) (vs:List Value),zr f1 w1 cs vs→zr f2 w2 cs vs
 | [],_,r=>by simpa only[zr]using r
 |c::cs,vs,r=>by
  simp only[zr]at r⊢
  obtain⟨v,vs',e,h1,h2,h3⟩:=r
  exact⟨v,vs',e,h1,zi.ext h c v h2,zr.ext h cs vs' h3⟩
theorem qp.ext(h:Ext f1 w1 f2 w2):∀(cs:List PV) (vs:List Value),qp f1 w1 cs vs→qp f2 w2 cs vs
 | [],_,r=>by simpa only[qp]using r
 |c::cs,vs,r=>by
  simp only[qp]at r⊢
  obtain⟨v,vs',e,h2,h3⟩:=r
  exact⟨v,vs',e,zi.ext h c v h2,qp.ext h cs vs' h3⟩
theorem qo.ext(h:Ext f1 w1 f2 w2)(z b:Nat):∀(es:List PV) (o:Nat),o+es.length*z≤f1 b→qo f1 w1 z b es o→qo f2 w2 z b es o
 | [],_,_,_=>by simp only[qo]
 |e::es,o,hf,r=>by
  simp only[qo]at r⊢
  have hl:(e::es).length*z=es.length*z+z:=by simp[Nat.add_mul]
  obtain⟨⟨v,h1,h2,h3⟩,h4⟩:=r
  refine⟨⟨v,zi.ext h e v h1,h2,fun j c hj=>?_⟩,qo.ext h z b es (o+z) (by omega) h4⟩
  have hj':j<z:=by rw[←h2];exact(Array.getElem?_eq_some_iff.1 hj).1
  rw[(h b (o+j) (by omega)).2.1]
  exact h3 j c hj
end
end
theorem qo.get {fr:Nat→Nat} {w:World} {z b:Nat}:∀{es:List PV} {o:Nat},qo fr w z b es o→∀{i:Nat} {e:PV},es[i]?=some e→
  ∃v,zi fr w e v∧v.cells.size=z∧∀j c,v.cells[j]?=some c→c.oneCell'=true∧w.cell? ⟨b,o+i*z+j,none⟩=some c
 | [],_,_,_,_,he=>by simp at he
 |x::es,o,r,i,e,he=>by
  simp only[qo]at r
  cases i with
  |zero=>simp at he;subst he;simpa using r.1
  |succ i=>
   have:=qo.get r.2 (i:=i) (e:=e) (by simpa using he)
   have e1:o+z+i*z=o+(i+1)*z:=by rw[Nat.add_mul];omega
   rwa[e1]at this
theorem qo.append {fr:Nat→Nat} {w:World} {z b:Nat}:∀{es es':List PV} {o:Nat},qo fr w z b es o→qo fr w z b es' (o+es.length*z)→qo fr w z b (es++es') o
 | [],es',o,_,r'=>by simpa using r'
 |e::es,es',o,r,r'=>by
  simp only[List.cons_append,qo]at r⊢
  refine⟨r.1,qo.append r.2 ?_⟩
  have e1:o+(e::es).length*z=o+z+es.length*z:=by simp[Nat.add_mul];omega
  rwa[e1]at r'
theorem qo.left {fr:Nat→Nat} {w:World} {z b:Nat}:∀{es es':List PV} {o:Nat},qo fr w z b (es++es') o→qo fr w z b es o∧qo fr w z b es' (o+es.length*z)
 | [],es',o,r=>by simpa[qo]using r
 |e::es,es',o,r=>by
  simp only[List.cons_append,qo]at r⊢
  obtain⟨h1,h2⟩:=qo.left r.2
  refine⟨⟨r.1,h1⟩,?_⟩
  have e1:o+(e::es).length*z=o+z+es.length*z:=by simp[Nat.add_mul];omega
  rwa[e1]
inductive BN where
 |le (n:Nat)
 |eq (T:TypeId) (m:Nat)
def Blk(w:World)(b:Nat):BN→Prop
 |.le n=>∃arr T,w.heap[b]?=some (.cells arr T (0,0))∧n≤arr.size
 |.eq T m=>∃arr,w.heap[b]?=some (.cells arr T (0,0))∧arr.size=m
def Whole(w:World)(b n:Nat):Prop:=
 ∃arr T,w.heap[b]?=some (.cells arr T (0,0))∧arr.size=n∧(∀v∈arr.toList,v.oneCell'=true)∧n≤9223372036854775807
mutual
def za(g:Gh)(w:World):AV→Value→Prop
 |.p x,v=>zi g.fr w x v
 |.os t z es,v=>zi g.fr w (.sl z es) v∧((∃a len,v=.slice a len len)∨
   ∃b o len cap,v=.slice (some ⟨b,o,none⟩) len cap∧g.K b=.tail t∧g.fr b=o+len*z∧Blk w b (.le (o+cap*z)))
 |.om t ks xs,v=>∃b arr c,v=.map (some b)∧g.K b=.tail t∧g.fr b=0∧ZV w b=some (arr,c)∧qp g.fr w ks (arr.toList.map (·.key))∧qp g.fr w xs (arr.toList.map (·.val))
 |.ow _ _ es,v=>es=[]∧∃a,v=.slice a 0 0
 |.lp t o,v=>∃b,g.K b=.root t∧v=.pointer (some ⟨b,o,none⟩)
 |.la t z o n,v=>∃b o' cap,g.K b=.root t∧v=.slice (some ⟨b,o',none⟩) n cap∧n≤cap∧(n=0∨o'=o)∧Blk w b (.le (o'+cap*z))
 |.ip z e o,v=>∃b base,v=.pointer (some ⟨b,base+o,none⟩)∧base+z≤g.fr b∧qo g.fr w z b [e] base
 |.gd c x,v=>(c=true→za g w x v)∧(c=false→v=undef)
 |.tup xs,v=>∃vs:Array Value,v=.tuple vs∧zm g w xs vs.toList
 |.ag xs,v=>∃vs:Array Value,v=.agg vs∧(∀u∈vs.toList,u.oneCell'=true)∧zm g w xs vs.toList
 |.fn f xs,v=>∃vs:Array Value,v=.func (.func f) #[] vs∧zm g w xs vs.toList
 |.bb t T l,v=>(l=[]∧v=.slice none 0 0)∨
   ∃b cap arr,v=.slice (some ⟨b,0,none⟩) l.length cap∧g.K b=.tail t∧g.fr b=0∧w.heap[b]?=some (.cells arr T (0,0))∧l.length≤cap∧cap≤9223372036854775807∧arr.size=cap∧(arr.toList.take l.length=l.map fun c=>Value.int .u8 (c.toNat:Int))∧l≠ []
 |.bz t T m,v=>∃b,g.K b=.root t∧Blk w b (.eq T m)∧(v=.pointer none∨v=.pointer (some ⟨b,0,none⟩))
 |.st t j,v=>∃b arr c e,g.K b=.tail t∧ZV w b=some (arr,c)∧arr[j]?=some e∧v=.int .i64 e.born
 |.it t ks xs left cur,v=>∃b bm since seen c0 arr clock,v=.pointer (some ⟨b,0,none⟩)∧g.K b=.tail t∧g.fr b=0∧w.heap[b]?=some (.mapIter (some bm) since seen c0)∧(since≤c0∧since≤clock)∧0<g.fr bm∧
   ZV w bm=some (arr,clock)∧(∀e∈arr.toList,e.born<since)∧qp g.fr w ks (arr.toList.map (·.key))∧qp g.fr w xs (arr.toList.map (·.val))∧
   (∀(i:Nat) (e:MapEntry),arr[i]?=some e→(i∈left↔seen.contains e.born=false))∧(∀i∈left,i<arr.size)∧∀i,cur=some i→c0=clock∧∃e,arr[i]?=some e∧∃seen':Array Nat,seen=seen'.push e.born
 |.zK,_=>True
def zm(g:Gh)(w:World):List AV→List Value→Prop
 | [],vs=>vs=[]
 |x::xs,vs=>∃v vs',vs=v::vs'∧za g w x v∧zm g w xs vs'
end
def look {α:Type}:List (Nat×α)→Nat→Option α
 | [],_=>none
 |(k,x)::l,t=>if k=t then some x else look l t
def zw {α:Type}:List (Tok×α)→Tok→Option α
 | [],_=>none
 |(k,x)::l,t=>if k=t then some x else zw l t
def Yt {α:Type}:List (Nat×α)→Nat→α→List (Nat×α)
 | [],t,x=>[(t,x)]
 |(k,y)::l,t,x=>if k=t then(t,x)::l else(k,y)::Yt l t x
def jg {α:Type}:List (Tok×α)→Tok→α→List (Tok×α)
 | [],t,x=>[(t,x)]
 |(k,y)::l,t,x=>if k=t then(t,x)::l else(k,y)::jg l t x
theorem zc2 {α:Type}(l:List (Nat×α))(t:Nat)(x:α)(u:Nat):look (Yt l t x) u=if t=u then some x else look l u:=by
 induction l with
 |nil=>simp[Yt,look]
 |cons y l ih=>
  obtain⟨k,y⟩:=y
  simp only[Yt]
  split
  ·rename_i h;subst h;simp only[look];split<;>rfl
  ·rename_i h
   simp only[look,ih]
   split
   ·rename_i h2;subst h2;rw[if_neg (fun e=>h e.symm)]
   ·rfl
theorem Z0 {α:Type}(l:List (Tok×α))(t:Tok)(x:α)(u:Tok):zw (jg l t x) u=if t=u then some x else zw l u:=by
 induction l with
 |nil=>simp[jg,zw]
 |cons y l ih=>
  obtain⟨k,y⟩:=y
  simp only[jg]
  split
  ·rename_i h;subst h;simp only[zw];split<;>rfl
  ·rename_i h
   simp only[zw,ih]
   split
   ·rename_i h2;subst h2;rw[if_neg (fun e=>h e.symm)]
   ·rfl
structure St where
 n:Nat
 nv:Nat
 vs:List (Nat×AV)
 ts:List (Nat×AV)
 rs:List (Tok×List AV)
 pin:List Tok:=[]
 ex:List Nat:=[]
 rm:List Nat:=[]
 bt:List TypeId:=[]
def St.kept(S:St)(t:Nat):Bool:=decide (t<S.nv) || S.ex.contains t
def qV:Option AV→AV
 |some x=>x
 |none=>.zK
def St.get(S:St)(t:Nat):AV:=if S.kept t then qV (look S.vs t)else qV (look S.ts t)
def St.set(S:St)(t:Nat)(x:AV):St:=
 if S.kept t then {S with vs:=Yt S.vs t x}else {S with ts:=(t,x)::S.ts}
theorem St.zeJ(S:St)(t:Nat)(x:AV):(S.set t x).n=S.n:=by unfold St.set;split<;>rfl
theorem St.zbI(S:St)(t:Nat)(x:AV):(S.set t x).pin=S.pin:=by unfold St.set;split<;>rfl
theorem St.zey(S:St)(t:Nat)(x:AV):(S.set t x).rs=S.rs:=by unfold St.set;split<;>rfl
theorem St.zew(S:St)(t:Nat)(x:AV)(u:Nat):(S.set t x).kept u=S.kept u:=by unfold St.set;split<;>rfl
theorem St.JC(S:St)(t:Nat)(x:AV)(u:Nat):(S.set t x).get u=if t=u then x else S.get u:=by
 have hk:=S.zew t x u
 unfold St.get
 rw[hk]
 unfold St.set
 by_cases ht:S.kept t=true
 ·simp only[ht,if_true,zc2]
  by_cases e:t=u
  ·subst e;simp[ht,qV]
  ·simp[e]
 ·have ht':S.kept t=false:=by simpa using ht
  simp only[ht',Bool.false_eq_true,if_false,look]
  by_cases e:t=u
  ·subst e;simp[ht',qV]
  ·simp[e]
def AV.upd(f:AV→AV):AV→AV
 |.tup xs=>.tup (xs.map f)
 |.gd c x=>.gd c (f x)
 |x=>f x
def ZS(rt tt:Tok→Bool):AV→AV
 |.lp t o=>if rt t then .lp t o else .zK
 |.la t z o n=>if rt t then .la t z o n else .zK
 |.os t z es=>if tt t then .os t z es else .p (.sl z es)
 |.om t ks xs=>if tt t then .om t ks xs else .zK
 |.ow t z es=>if tt t then .ow t z es else .zK
 |.bb t T l=>if tt t then .bb t T l else .zK
 |.bz t T m=>if rt t then .bz t T m else .zK
 |.st t j=>if tt t then .st t j else .zK
 |.it t ks xs l c=>if tt t then .it t ks xs l c else .zK
 |.tup _=>.zK
 |.gd _ _=>.zK
 |.ag _=>.zK
 |.fn _ _=>.zK
 |x=>x
def fil(rt tt:Tok→Bool):AV→AV
 |.ag xs=>.ag (xs.map (ZS rt tt))
 |.fn f xs=>.fn f (xs.map (ZS rt tt))
 |x=>ZS rt tt x
def St.fil (rt tt : Tok → Bool) (S : St) : St :=
  { S with vs := S.vs.map fun x => (x.1, x.2.upd (AM.fil rt tt)), ts := S.ts.map fun x => (x.1, x.2.upd (AM.fil rt tt)),
           rs := S.rs.map fun x => (x.1, x.2.map (AV.upd (AM.fil rt tt))) }
theorem vM {α:Type}(f:α→α)(l:List (Nat×α))(t:Nat):look (l.map fun x=>(x.1,f x.2)) t=(look l t).map f:=by
 induction l with
 |nil=>rfl
 |cons y l ih=>simp only[List.map_cons,look,ih];split<;>rfl
theorem uC {α:Type}(f:α→α)(l:List (Tok×α))(t:Tok):zw (l.map fun x=>(x.1,f x.2)) t=(zw l t).map f:=by
 induction l with
 |nil=>rfl
 |cons y l ih=>simp only[List.map_cons,zw,ih];split<;>rfl
theorem St.zgo(rt tt:Tok→Bool)(S:St)(t:Nat):(S.fil rt tt).get t=(S.get t).upd (AM.fil rt tt):=by
 have hk:(S.fil rt tt).kept t=S.kept t:=rfl
 unfold St.get
 rw[hk]
 have h:∀l:List (Nat×AV),qV (look (l.map fun x=>(x.1,x.2.upd (AM.fil rt tt))) t)=(qV (look l t)).upd (AM.fil rt tt):=fun l=>by
  rw[vM (AV.upd (AM.fil rt tt))]
  cases look l t<;>simp[qV,AV.upd,AM.fil,AM.ZS]
 split
 ·exact h S.vs
 ·exact h S.ts
class Gi where
 val:Nat→Option (Array Value)
def ve [Gi](g:Gh)(w:World):Prop:=∀b arr,Gi.val b=some arr→g.K b=.prot∧∃T f,w.heap[b]?=some (.cells arr T f)
structure Ent [Gi]where
 w0:World
 g0:Gh
 gl:ve g0 w0
def Ent.may [Gi](E:Ent)(b:Nat):Prop:=E.w0.heap.size≤b∨E.g0.K b≠ .prot
def zd9(g:Gh)(w:World)(b:Nat)(cs:List AV):Prop:=
 g.fr b=0∧∃arr T,w.heap[b]?=some (.cells arr T (0,0))∧cs.length≤arr.size∧∀(j:Nat) (x:AV),cs[j]?=some x→∃v,arr[j]?=some v∧v.oneCell'=true∧za g w x v
structure SR [Gi](E:Ent)(S:St)(g:Gh)(a:Act)(w:World):Prop where
 size:a.tmps.size=S.n
 defers:a.defers=[]
 slots:∀t,za g w (S.get t) (a.tmps.getD t undef)
 roots:∀b t,g.K b=.root t→∃cs,zw S.rs t=some cs∧zd9 g w b cs
 ur:∀b b' t,g.K b=.root t→g.K b'=.root t→b=b'
 ut:∀b b' t,g.K b=.tail t→g.K b'=.tail t→b=b'
 own:∀b,g.K b≠ .prot→b<w.heap.size∧E.may b
 frame:∀b,¬E.may b→w.heap[b]?=E.w0.heap[b]?∧g.fr b=E.g0.fr b
 ext:Ext E.g0.fr E.w0 g.fr w
 out:w.os=E.w0.os∧w.tape=E.w0.tape∧w.output=E.w0.output
 mono:E.w0.heap.size≤w.heap.size
 frb:∀b,w.heap.size≤b→g.fr b=0
 pins:∀b t,E.g0.K b=.root t→t∈S.pin→g.K b=.root t∧∀n,Blk E.w0 b n→Blk w b n
theorem SR.gl [Gi] {E:Ent} {S:St} {g:Gh} {a:Act} {w:World}(h:SR E S g a w):ve g w:=fun b arr e=>by
 obtain⟨hk,T,f,hb⟩:=E.gl b arr e
 have hlt:b<E.w0.heap.size:=(Array.getElem?_eq_some_iff.1 hb).1
 have hmay:¬E.may b:=fun m=>m.elim (fun k=>by omega) (fun k=>k hk)
 exact⟨Classical.byContradiction fun hn=>hmay (h.own b hn).2,T,f,(h.frame b hmay).1.trans hb⟩
theorem cell_of_heap {w w':World} {b o:Nat}(h:w'.heap[b]?=w.heap[b]?):w'.cell? ⟨b,o,none⟩=w.cell? ⟨b,o,none⟩:=
 World.cell?_of_block (a:=⟨b,o,none⟩) h
theorem Blk.of_heap {w w':World} {b:Nat} {n:BN}(h:w'.heap[b]?=w.heap[b]?)(k:Blk w b n):Blk w' b n:=by
 cases n with
 |le n=>
  obtain⟨arr,T,e,l⟩:=k
  exact⟨arr,T,h.trans e,l⟩
 |eq T m=>
  obtain⟨arr,e,l⟩:=k
  exact⟨arr,h.trans e,l⟩
theorem Blk.le {w:World} {b n m:Nat}(k:Blk w b (.le n))(h:m≤n):Blk w b (.le m):=by
 obtain⟨arr,T,e,l⟩:=k
 exact⟨arr,T,e,by omega⟩
theorem Whole.of_heap {w w':World} {b n:Nat}(h:w'.heap[b]?=w.heap[b]?)(k:Whole w b n):Whole w' b n:=by
 obtain⟨arr,T,e,l⟩:=k
 exact⟨arr,T,h.trans e,l⟩
theorem Qt {w:World} {b:Nat} {arr:Array MapEntry} {c:Nat}(h:ZV w b=some (arr,c)):w.heap[b]?=some (.map arr c)∧Q1 arr c=true:=by
 unfold ZV at h
 split at h
 ·rename_i es c' hb
  split at h
  ·rename_i hs
   injection h with h;injection h with h1 h2;subst h1;subst h2
   exact⟨hb,hs⟩
  ·cases h
 ·cases h
theorem xV {w:World} {b:Nat} {arr:Array MapEntry} {c:Nat}(h:w.heap[b]?=some (.map arr c))(hs:Q1 arr c=true):ZV w b=some (arr,c):=by unfold ZV;rw[h];simp only[hs,if_true]
theorem qT {w w':World} {b:Nat}(h:w'.heap[b]?=w.heap[b]?):ZV w' b=ZV w b:=by unfold ZV;rw[h]
structure xc(g:Gh)(w:World)(g':Gh)(w':World)(rt tt:Tok→Bool):Prop where
 ext:Ext g.fr w g'.fr w'
 kr:∀b t,rt t=true→g.K b=.root t→g'.K b=.root t∧∀n,Blk w b n→Blk w' b n
 kt:∀b t,tt t=true→g.K b=.tail t→g'.K b=.tail t∧g'.fr b=g.fr b∧w'.heap[b]?=w.heap[b]?
theorem za.zfD {g g':Gh} {w w':World} {rt tt:Tok→Bool}(k:xc g w g' w' rt tt):∀(x:AV) (v:Value),za g w x v→za g' w' (ZS rt tt x) v
 |.p x,v,r=>by simp only[ZS,za]at r⊢;exact r.ext k.ext
 |.os t z es,v,r=>by
  simp only[za]at r
  obtain⟨h1,h2⟩:=r
  simp only[ZS]
  split
  ·rename_i ht
   simp only[za]
   refine⟨h1.ext k.ext,h2.imp id ?_⟩
   rintro⟨b,o,len,cap,e,hk,hf,hb⟩
   obtain⟨a1,a2,a3⟩:=k.kt b t ht hk
   exact⟨b,o,len,cap,e,a1,a2.trans hf,Blk.of_heap a3 hb⟩
  ·simp only[za];exact h1.ext k.ext
 |.om t ks xs,v,r=>by
  simp only[ZS]
  split
  ·rename_i ht
   simp only[za]at r⊢
   obtain⟨b,arr,c,e,hk,hf,hm,r1,r2⟩:=r
   obtain⟨a1,a2,a3⟩:=k.kt b t ht hk
   exact⟨b,arr,c,e,a1,a2.trans hf,(qT a3).trans hm,r1.ext k.ext,r2.ext k.ext⟩
  ·simp only[za]
 |.ow t z es,v,r=>by
  simp only[ZS]
  split
  ·rename_i ht
   simp only[za]at r⊢
   exact r
  ·simp only[za]
 |.lp t o,v,r=>by
  simp only[ZS]
  split
  ·rename_i ht
   simp only[za]at r⊢
   obtain⟨b,hk,e⟩:=r
   exact⟨b,(k.kr b t ht hk).1,e⟩
  ·simp only[za]
 |.la t z o n,v,r=>by
  simp only[ZS]
  split
  ·rename_i ht
   simp only[za]at r⊢
   obtain⟨b,o',cap,hk,e,hn⟩:=r
   exact⟨b,o',cap,(k.kr b t ht hk).1,e,hn.1,hn.2.1,(k.kr b t ht hk).2 _ hn.2.2⟩
  ·simp only[za]
 |.ip z e o,v,r=>by
  simp only[ZS,za]at r⊢
  obtain⟨b,base,ev,hf,he⟩:=r
  exact⟨b,base,ev,Nat.le_trans hf (k.ext.le b),qo.ext k.ext z b [e] base (by simpa using hf) he⟩
 |.gd c x,v,r=>by simp only[ZS,za]
 |.tup xs,v,r=>by simp only[ZS,za]
 |.ag xs,v,r=>by simp only[ZS,za]
 |.fn f xs,v,r=>by simp only[ZS,za]
 |.bz t T m,v,r=>by
  simp only[ZS]
  split
  ·rename_i ht
   simp only[za]at r⊢
   obtain⟨b,hk,hb,e⟩:=r
   exact⟨b,(k.kr b t ht hk).1,(k.kr b t ht hk).2 _ hb,e⟩
  ·simp only[za]
 |.bb t T l,v,r=>by
  simp only[ZS]
  split
  ·rename_i ht
   simp only[za]at r⊢
   refine r.imp id ?_
   rintro⟨b,cap,arr,e,hk,hf,hb,rest⟩
   obtain⟨a1,a2,a3⟩:=k.kt b t ht hk
   exact⟨b,cap,arr,e,a1,a2.trans hf,a3.trans hb,rest⟩
  ·simp only[za]
 |.st t j,v,r=>by
  simp only[ZS]
  split
  ·rename_i ht
   simp only[za]at r⊢
   obtain⟨b,arr,c,e,hk,hm,he,hv⟩:=r
   obtain⟨a1,a2,a3⟩:=k.kt b t ht hk
   exact⟨b,arr,c,e,a1,(qT a3).trans hm,he,hv⟩
  ·simp only[za]
 |.it t ks xs l c,v,r=>by
  simp only[ZS]
  split
  ·rename_i ht
   simp only[za]at r⊢
   obtain⟨b,bm,since,seen,c0,arr,clock,e,hk,hf,hi,hs,hfm,hm,hold,r1,r2,rest⟩:=r
   obtain⟨a1,a2,a3⟩:=k.kt b t ht hk
   have hx:=k.ext bm 0 hfm
   exact⟨b,bm,since,seen,c0,arr,clock,e,a1,a2.trans hf,a3.trans hi,hs,hx.1,hx.2.2.trans hm,hold,r1.ext k.ext,r2.ext k.ext,rest⟩
  ·simp only[za]
 |.zK,v,r=>by simp only[ZS,za]
theorem zm.map {g g':Gh} {w w':World}(f:AV→AV)(h:∀x v,za g w x v→za g' w' (f x) v):∀(xs:List AV) (vs:List Value),zm g w xs vs→zm g' w' (xs.map f) vs
 | [],vs,r=>by simpa only[zm,List.map_nil]using r
 |x::xs,vs,r=>by
  simp only[zm,List.map_cons]at r⊢
  obtain⟨v,vs',e,h1,h2⟩:=r
  exact⟨v,vs',e,h x v h1,zm.map f h xs vs' h2⟩
theorem za.flat {g g':Gh} {w w':World} {rt tt:Tok→Bool}(k:xc g w g' w' rt tt)(x:AV)(v:Value)(r:za g w x v):za g' w' (fil rt tt x) v:=by
 cases x with
 |ag xs=>
  simp only[fil,za]at r⊢
  obtain⟨vs,e,h1,r⟩:=r
  exact⟨vs,e,h1,zm.map _ (za.zfD k) xs _ r⟩
 |fn f xs=>
  simp only[fil,za]at r⊢
  obtain⟨vs,e,r⟩:=r
  exact⟨vs,e,zm.map _ (za.zfD k) xs _ r⟩
 |_=>exact za.zfD k _ v r
theorem zm.flat {g g':Gh} {w w':World} {rt tt:Tok→Bool}(k:xc g w g' w' rt tt):∀(xs:List AV) (vs:List Value),zm g w xs vs→zm g' w' (xs.map (fil rt tt)) vs:=
 zm.map _ (za.flat k)
theorem za.upd {g g':Gh} {w w':World} {rt tt:Tok→Bool}(k:xc g w g' w' rt tt)(x:AV)(v:Value)(r:za g w x v):za g' w' (x.upd (fil rt tt)) v:=by
 cases x with
 |tup xs=>
  simp only[AV.upd,za]at r⊢
  obtain⟨vs,e,r⟩:=r
  exact⟨vs,e,zm.flat k xs _ r⟩
 |gd c x=>
  simp only[AV.upd,za]at r⊢
  exact⟨fun hc=>za.flat k x v (r.1 hc),r.2⟩
 |_=>exact za.flat k _ v r
def ftt:Tok→Bool:=fun _=>true
mutual
theorem za.all {g g':Gh} {w w':World}(k:xc g w g' w' ftt ftt):∀(x:AV) (v:Value),za g w x v→za g' w' x v
 |.gd c x,v,r=>by simp only[za]at r⊢;exact⟨fun hc=>za.all k x v (r.1 hc),r.2⟩
 |.tup xs,v,r=>by simp only[za]at r⊢;obtain⟨vs,e,r⟩:=r;exact⟨vs,e,zm.all k xs _ r⟩
 |.ag xs,v,r=>by simp only[za]at r⊢;obtain⟨vs,e,h1,r⟩:=r;exact⟨vs,e,h1,zm.all k xs _ r⟩
 |.fn f xs,v,r=>by simp only[za]at r⊢;obtain⟨vs,e,r⟩:=r;exact⟨vs,e,zm.all k xs _ r⟩
 |.p x,v,r=>by have:=za.flat k _ v r;simpa only[fil,ZS]using this
 |.os t z es,v,r=>by have:=za.flat k _ v r;simpa[fil,ZS,ftt]using this
 |.om t ks xs,v,r=>by have:=za.flat k _ v r;simpa[fil,ZS,ftt]using this
 |.ow t z es,v,r=>by have:=za.flat k _ v r;simpa[fil,ZS,ftt]using this
 |.bb t T l,v,r=>by have:=za.flat k _ v r;simpa[fil,ZS,ftt]using this
 |.bz t T m,v,r=>by have:=za.flat k _ v r;simpa[fil,ZS,ftt]using this
 |.st t j,v,r=>by have:=za.flat k _ v r;simpa[fil,ZS,ftt]using this
 |.it t ks xs l c,v,r=>by have:=za.flat k _ v r;simpa only[fil,ZS,ftt,if_true]using this
 |.lp t o,v,r=>by have:=za.flat k _ v r;simpa[fil,ZS,ftt]using this
 |.la t z o n,v,r=>by have:=za.flat k _ v r;simpa[fil,ZS,ftt]using this
 |.ip z e o,v,r=>by have:=za.flat k _ v r;simpa only[fil,ZS]using this
 |.zK,v,r=>by simp only[za]
theorem zm.all {g g':Gh} {w w':World}(k:xc g w g' w' ftt ftt):∀(xs:List AV) (vs:List Value),zm g w xs vs→zm g' w' xs vs
 | [],vs,r=>by simpa only[zm]using r
 |x::xs,vs,r=>by simp only[zm]at r⊢;obtain⟨v,vs',e,h1,h2⟩:=r;exact⟨v,vs',e,za.all k x v h1,zm.all k xs vs' h2⟩
end
variable {S:St} {g:Gh} {a:Act} {w:World}
theorem Zo {w w':World} {b:Nat}(h:w'.heap[b]?=w.heap[b]?):w'.heap[b]?=w.heap[b]?:=h
theorem zP {w w':World} {b o:Nat}(h:w'.heap[b]?=w.heap[b]?):w'.cell? ⟨b,o,none⟩=w.cell? ⟨b,o,none⟩∧ZV w' b=ZV w b:=⟨cell_of_heap h,qT h⟩
theorem kg {w:World} {b:Nat} {arr:Array Value} {T:TypeId} {f:Nat×Nat}(h:w.heap[b]?=some (.cells arr T f)):ZV w b=none:=by unfold ZV;rw[h]
theorem heap_alloc(w:World)(o:Obj)(b:Nat):(w.alloc o).heap[b]?=if b=w.heap.size then some o else w.heap[b]?:=by
 show(w.heap.push o)[b]?=_
 rw[Array.getElem?_push]
theorem zV(w:World)(b:Nat)(arr:Array Value)(k:Nat)(h:k≠b):(w.setRow b arr).heap[k]?=w.heap[k]?:=by
 simp only[World.setRow,Array.getElem?_modify]
 rw[if_neg (fun e=>h e.symm)]
theorem size_setRow(w:World)(b:Nat)(arr:Array Value):(w.setRow b arr).heap.size=w.heap.size:=by simp[World.setRow]
theorem SR.keep [Gi] {E:Ent}(h:SR E S g a w) {fr':Nat→Nat} {w':World}(k:xc g w ⟨fr',g.K⟩ w' ftt ftt)
  (hroot:∀b t,g.K b=.root t→w'.heap[b]?=w.heap[b]?∧fr' b=g.fr b)
  (hframe:∀b,¬E.may b→w'.heap[b]?=w.heap[b]?∧fr' b=g.fr b)
  (hout:w'.os=w.os∧w'.tape=w.tape∧w'.output=w.output) (hmono:w.heap.size≤w'.heap.size)
  (hfrb:∀b,w'.heap.size≤b→fr' b=0):SR E S ⟨fr',g.K⟩ a w' where
 size:=h.size
 defers:=h.defers
 slots t:=za.all k _ _ (h.slots t)
 roots b t hk:=by
  obtain⟨cs,hl,h0,arr,T,hb,hle,hc⟩:=h.roots b t hk
  obtain⟨e1,e2⟩:=hroot b t hk
  exact⟨cs,hl,e2.trans h0,arr,T,e1.trans hb,hle,fun j x hj=>let⟨v,hv,h1,r⟩:=hc j x hj;⟨v,hv,h1,za.all k _ _ r⟩⟩
 ur:=h.ur
 ut:=h.ut
 own b hb:=⟨Nat.lt_of_lt_of_le (h.own b hb).1 hmono,(h.own b hb).2⟩
 frame b hb:=⟨(hframe b hb).1.trans (h.frame b hb).1,(hframe b hb).2.trans (h.frame b hb).2⟩
 ext:=h.ext.trans k.ext
 out:=⟨hout.1.trans h.out.1,hout.2.1.trans h.out.2.1,hout.2.2.trans h.out.2.2⟩
 mono:=Nat.le_trans h.mono hmono
 frb:=hfrb
 pins b t hk ht:=⟨(h.pins b t hk ht).1,fun n hb=>(k.kr b t rfl (h.pins b t hk ht).1).2 n ((h.pins b t hk ht).2 n hb)⟩
theorem SR.yQ [Gi] {E:Ent}(h:SR E S g a w) {b:Nat}(hb:¬E.may b):b<w.heap.size:=by
 unfold Ent.may at hb
 have:=h.mono
 omega
theorem SR.extend [Gi] {E:Ent}(h:SR E S g a w) {fr':Nat→Nat} {w':World}(hh:∀b,b<w.heap.size→w'.heap[b]?=w.heap[b]?∧fr' b=g.fr b)
  (hout:w'.os=w.os∧w'.tape=w.tape∧w'.output=w.output) (hmono:w.heap.size≤w'.heap.size)
  (hfrb:∀b,w'.heap.size≤b→fr' b=0):SR E S ⟨fr',g.K⟩ a w':=by
 refine h.keep ⟨fun b o ho=>?_,fun b t _ hk=>⟨hk,fun _ hb=>Blk.of_heap (hh b (h.own b (by rw[hk];simp)).1).1 hb⟩,fun b t _ hk=>?_⟩ (fun b t hk=>hh b (h.own b (by rw[hk];simp)).1) (fun b hb=>hh b (h.yQ hb)) hout hmono hfrb
 ·have hb:b<w.heap.size:=by
   rcases Nat.lt_or_ge b w.heap.size with h'|h'
   ·exact h'
   ·have:=h.frb b h';omega
  exact⟨by show o<fr' b;rw[(hh b hb).2];exact ho,zP (hh b hb).1⟩
 ·have hb:=(h.own b (by rw[hk];simp)).1
  exact⟨hk,(hh b hb).2,Zo (hh b hb).1⟩
theorem SR.drew [Gi] {E:Ent}(h:SR E S g a w):SR E S g a {w with drawn:=w.drawn+1}:=
 h.extend (fr':=g.fr) (fun _ _=>⟨rfl,rfl⟩) ⟨rfl,rfl,rfl⟩ (Nat.le_refl _) h.frb
theorem SR.alloc [Gi] {E:Ent}(h:SR E S g a w)(o:Obj):SR E S g a (w.alloc o):=
 h.extend (fr':=g.fr) (fun b hb=>⟨by rw[heap_alloc,if_neg (by omega)],rfl⟩) ⟨rfl,rfl,rfl⟩ (by simp) (fun b hb=>h.frb b (by simp at hb;omega))
theorem SR.modify [Gi] {E:Ent}(h:SR E S g a w) {b:Nat} {arr arr':Array Value} {T:TypeId}(hb:w.heap[b]?=some (.cells arr T (0,0)))(hp:g.K b=.prot)(hm:E.may b)
  (hfr:∀o,o<g.fr b→arr'[o]?=arr[o]?):SR E S g a (w.setRow b arr'):=by
 have hne:∀c t,g.K c=.root t∨g.K c=.tail t→c≠b:=fun c t hk e=>by subst e;rw[hp]at hk;simp at hk
 refine h.keep (fr':=g.fr) ⟨fun c o ho=>⟨ho,?_⟩,fun c t _ hk=>⟨hk,fun _ hb'=>Blk.of_heap (zV w b arr' c (hne c t (.inl hk))) hb'⟩,fun c t _ hk=>⟨hk,rfl,Zo (zV w b arr' c (hne c t (.inr hk)))⟩⟩
  (fun c t hk=>⟨zV w b arr' c (hne c t (.inl hk)),rfl⟩) (fun c hc=>⟨zV w b arr' c (fun e=>hc (e▸hm)),rfl⟩) ⟨rfl,rfl,rfl⟩ (by rw[size_setRow];exact Nat.le_refl _)
  (fun c hc=>h.frb c (by rwa[size_setRow]at hc))
 by_cases e:c=b
 ·subst e
  refine⟨?_,by rw[kg (setRow_heap w c arr arr' T (0,0) hb),kg hb]⟩
  simp only[World.cell?,setRow_heap w c arr arr' T (0,0) hb,hb]
  simpa using hfr o ho
 ·exact zP (zV w b arr' c e)
def Zu {α:Type}(f:Nat→α)(b:Nat)(x:α):Nat→α:=fun c=>if c=b then x else f c
theorem zX {α:Type}(f:Nat→α)(b:Nat)(x:α):Zu f b x b=x:=by simp[Zu]
theorem qm {α:Type}(f:Nat→α)(b:Nat)(x:α) {c:Nat}(h:c≠b):Zu f b x c=f c:=by simp[Zu,h]
theorem SR.zb0 [Gi] {E:Ent}(h:SR E S g a w) {b m:Nat}(hp:g.K b=.prot)(hm:E.may b)(hb:b<w.heap.size)(hle:g.fr b≤m):SR E S ⟨Zu g.fr b m,g.K⟩ a w:=by
 have hne:∀c t,g.K c=.root t∨g.K c=.tail t→c≠b:=fun c t hk e=>by subst e;rw[hp]at hk;simp at hk
 refine h.keep ⟨fun c o ho=>⟨?_,rfl,rfl⟩,fun c t _ hk=>⟨hk,fun _ hb=>hb⟩,fun c t _ hk=>⟨hk,qm _ _ _ (hne c t (.inr hk)),rfl⟩⟩
  (fun c t hk=>⟨rfl,qm _ _ _ (hne c t (.inl hk))⟩) (fun c hc=>⟨rfl,qm _ _ _ (fun e=>hc (e▸hm))⟩) ⟨rfl,rfl,rfl⟩ (Nat.le_refl _) (fun c hc=>?_)
 ·by_cases e:c=b
  ·subst e;show o<Zu g.fr c m c;rw[zX];omega
  ·show o<Zu g.fr b m c;rw[qm _ _ _ e];exact ho
 ·rw[qm _ _ _ (by omega)];exact h.frb c hc
def Kd.fil(rt tt:Tok→Bool):Kd→Kd
 |.root t=>if rt t then .root t else .prot
 |.tail t=>if tt t then .tail t else .prot
 |.prot=>.prot
theorem Kd.zS {rt tt:Tok→Bool} {t:Tok}:∀{k:Kd},k.fil rt tt=.root t↔k=.root t∧rt t=true
 |.prot=>by simp[Kd.fil]
 |.tail u=>by simp only[Kd.fil];split<;>simp
 |.root u=>by
  simp only[Kd.fil]
  split
  ·rename_i h;constructor
   ·intro e;injection e with e;subst e;exact⟨rfl,h⟩
   ·exact fun e=>e.1
  ·rename_i h;constructor
   ·intro e;cases e
   ·rintro⟨e,h'⟩;injection e with e;subst e;exact absurd h' h
theorem Kd.qG {rt tt:Tok→Bool} {t:Tok}:∀{k:Kd},k.fil rt tt=.tail t↔k=.tail t∧tt t=true
 |.prot=>by simp[Kd.fil]
 |.root u=>by simp only[Kd.fil];split<;>simp
 |.tail u=>by
  simp only[Kd.fil]
  split
  ·rename_i h;constructor
   ·intro e;injection e with e;subst e;exact⟨rfl,h⟩
   ·exact fun e=>e.1
  ·rename_i h;constructor
   ·intro e;cases e
   ·rintro⟨e,h'⟩;injection e with e;subst e;exact absurd h' h
def Gh.fil(rt tt:Tok→Bool)(g:Gh):Gh:=⟨g.fr,fun b=>(g.K b).fil rt tt⟩
theorem Gh.zS {rt tt:Tok→Bool} {g:Gh} {b:Nat} {t:Tok}:(g.fil rt tt).K b=.root t↔g.K b=.root t∧rt t=true:=Kd.zS
theorem Gh.qG {rt tt:Tok→Bool} {g:Gh} {b:Nat} {t:Tok}:(g.fil rt tt).K b=.tail t↔g.K b=.tail t∧tt t=true:=Kd.qG
theorem SR.filter [Gi] {E:Ent}(h:SR E S g a w)(rt tt:Tok→Bool)(hpin:∀t,t∈S.pin→rt t=true:=by exact fun _ _=>rfl):SR E (S.fil rt tt) (g.fil rt tt) a w:=by
 have k:xc g w (g.fil rt tt) w rt tt:=⟨Ext.refl _ _,fun b t ht hk=>⟨Gh.zS.2 ⟨hk,ht⟩,fun _ hb=>hb⟩,fun b t ht hk=>⟨Gh.qG.2 ⟨hk,ht⟩,rfl,rfl⟩⟩
 refine⟨h.size,h.defers,fun t=>?_,fun b t hk=>?_,fun b b' t hk hk'=>h.ur b b' t (Gh.zS.1 hk).1 (Gh.zS.1 hk').1,fun b b' t hk hk'=>h.ut b b' t (Gh.qG.1 hk).1 (Gh.qG.1 hk').1,
  fun b hb=>h.own b ?_,h.frame,h.ext,h.out,h.mono,h.frb,fun b t hk ht=>⟨Gh.zS.2 ⟨(h.pins b t hk ht).1,hpin t ht⟩,(h.pins b t hk ht).2⟩⟩
 ·rw[St.zgo];exact za.upd k _ _ (h.slots t)
 ·obtain⟨cs,hl,h0,arr,T,hb,hle,hc⟩:=h.roots b t (Gh.zS.1 hk).1
  refine⟨cs.map (AV.upd (AM.fil rt tt)),?_,h0,arr,T,hb,by simpa using hle,fun j x hj=>?_⟩
  ·simp only[St.fil]
   rw[uC (List.map (AV.upd (AM.fil rt tt))),hl]
   rfl
  ·simp only[List.getElem?_map,Option.map_eq_some_iff]at hj
   obtain⟨y,hy,rfl⟩:=hj
   obtain⟨v,hv,h1,r⟩:=hc j y hy
   exact⟨v,hv,h1,za.upd k _ _ r⟩
 ·intro e;apply hb;show(g.K b).fil rt tt=.prot;rw[e];rfl
theorem SR.put [Gi] {E:Ent}(h:SR E S g a w) {d:Nat} {x:AV} {v:Value}(r:za g w x v)(hd:d<S.n):SR E (S.set d x) g (a.put (some d) v) w:=by
 refine⟨?_,h.defers,fun t=>?_,?_,h.ur,h.ut,h.own,h.frame,h.ext,h.out,h.mono,h.frb,fun b t hk ht=>h.pins b t hk (by rw[←St.zbI];exact ht)⟩
 ·rw[St.zeJ];simp[Act.put,h.size]
 ·rw[St.JC]
  split
  ·rename_i e;subst e
   have:d<a.tmps.size:=by rw[h.size];exact hd
   simpa[Act.put,this]using r
  ·rename_i e
   have:(a.put (some d) v).tmps.getD t undef=a.tmps.getD t undef:=by
    simp only[Act.put,Array.getD_eq_getD_getElem?,Array.getElem?_setIfInBounds_ne e]
   rw[this];exact h.slots t
 ·intro b t hk;rw[St.zey];exact h.roots b t hk
theorem SR.uX [Gi] {E:Ent}(h:SR E S g a w) {b:Nat} {t:Tok} {cs:List AV} {arr:Array Value} {T:TypeId}(hp:g.K b=.prot)(hm:E.may b)(hno:∀c,g.K c≠ .root t)
  (hb:w.heap[b]?=some (.cells arr T (0,0))) (h0:g.fr b=0) (hle:cs.length≤arr.size) (hc:∀(j:Nat) (x:AV),cs[j]?=some x→∃v,arr[j]?=some v∧v.oneCell'=true∧za g w x v):
  SR E {S with rs:=jg S.rs t cs} ⟨g.fr,Zu g.K b (.root t)⟩ a w:=by
 have hne:∀c,g.K c≠ .prot→c≠b:=fun c hk e=>hk (e▸hp)
 have k:xc g w ⟨g.fr,Zu g.K b (.root t)⟩ w ftt ftt:=⟨Ext.refl _ _,fun c u _ hk=>⟨by show Zu g.K b _ c=_;rw[qm _ _ _ (hne c (by rw[hk];simp))];exact hk,fun _ hb=>hb⟩,
  fun c u _ hk=>⟨by show Zu g.K b _ c=_;rw[qm _ _ _ (hne c (by rw[hk];simp))];exact hk,rfl,rfl⟩⟩
 have hroot:∀c u,Zu g.K b (.root t) c=.root u→(c=b∧u=t)∨(c≠b∧g.K c=.root u∧u≠t):=fun c u hk=>by
  by_cases e:c=b
  ·subst e;rw[zX]at hk;injection hk with hk;exact .inl ⟨rfl,hk.symm⟩
  ·rw[qm _ _ _ e]at hk;exact .inr ⟨e,hk,fun e'=>hno c (e'▸hk)⟩
 refine⟨h.size,h.defers,fun u=>za.all k _ _ (h.slots u),fun c u hk=>?_,fun c c' u hk hk'=>?_,fun c c' u hk hk'=>?_,fun c hc'=>?_,h.frame,h.ext,h.out,h.mono,h.frb,fun c u hk hu=>?_⟩
 ·rcases hroot c u hk with ⟨rfl,rfl⟩|⟨hcb,hk,hut⟩
  ·refine⟨cs,by simp only[];rw[Z0,if_pos rfl],h0,arr,T,hb,hle,fun j x hj=>?_⟩
   obtain⟨v,hv,h1,r⟩:=hc j x hj
   exact⟨v,hv,h1,za.all k _ _ r⟩
  ·obtain⟨ds,hl,h0,arr,T,hb,hle,hc⟩:=h.roots c u hk
   refine⟨ds,by simp only[];rw[Z0,if_neg (fun e=>hut e.symm)];exact hl,h0,arr,T,hb,hle,fun j x hj=>?_⟩
   obtain⟨v,hv,h1,r⟩:=hc j x hj
   exact⟨v,hv,h1,za.all k _ _ r⟩
 ·rcases hroot c u hk with ⟨rfl,rfl⟩|⟨hcb,hk,hut⟩<;>rcases hroot c' u hk' with ⟨rfl,e⟩|⟨hcb',hk',hut'⟩
  ·rfl
  ·exact absurd rfl hut'
  ·exact absurd e hut
  ·exact h.ur c c' u hk hk'
 ·have f:∀c,Zu g.K b (.root t) c=.tail u→g.K c=.tail u:=fun c hk=>by
   by_cases e:c=b
   ·subst e;rw[zX]at hk;cases hk
   ·rwa[qm _ _ _ e]at hk
  exact h.ut c c' u (f c hk) (f c' hk')
 ·by_cases e:c=b
  ·subst e;exact⟨(Array.getElem?_eq_some_iff.1 hb).1,hm⟩
  ·have:Zu g.K b (.root t) c≠ .prot:=hc'
   rw[qm _ _ _ e]at this;exact h.own c this
 ·have hh:=h.pins c u hk hu
  refine⟨?_,hh.2⟩
  show Zu g.K b _ c=_
  rw[qm _ _ _ (hne c (by rw[hh.1];simp))];exact hh.1
theorem SR.yk [Gi] {E:Ent}(h:SR E S g a w) {b:Nat} {t:Tok}(hp:g.K b=.prot)(hm:E.may b)(hb:b<w.heap.size)(hno:∀c,g.K c≠ .tail t):
  SR E S ⟨g.fr,Zu g.K b (.tail t)⟩ a w:=by
 have hne:∀c,g.K c≠ .prot→c≠b:=fun c hk e=>hk (e▸hp)
 have k:xc g w ⟨g.fr,Zu g.K b (.tail t)⟩ w ftt ftt:=⟨Ext.refl _ _,fun c u _ hk=>⟨by show Zu g.K b _ c=_;rw[qm _ _ _ (hne c (by rw[hk];simp))];exact hk,fun _ hb=>hb⟩,
  fun c u _ hk=>⟨by show Zu g.K b _ c=_;rw[qm _ _ _ (hne c (by rw[hk];simp))];exact hk,rfl,rfl⟩⟩
 have hroot:∀c u,Zu g.K b (.tail t) c=.root u→g.K c=.root u:=fun c u hk=>by
  by_cases e:c=b
  ·subst e;rw[zX]at hk;cases hk
  ·rwa[qm _ _ _ e]at hk
 have htail:∀c u,Zu g.K b (.tail t) c=.tail u→(c=b∧u=t)∨(c≠b∧g.K c=.tail u∧u≠t):=fun c u hk=>by
  by_cases e:c=b
  ·subst e;rw[zX]at hk;injection hk with hk;exact .inl ⟨rfl,hk.symm⟩
  ·rw[qm _ _ _ e]at hk;exact .inr ⟨e,hk,fun e'=>hno c (e'▸hk)⟩
 refine⟨h.size,h.defers,fun u=>za.all k _ _ (h.slots u),fun c u hk=>?_,fun c c' u hk hk'=>h.ur c c' u (hroot c u hk) (hroot c' u hk'),fun c c' u hk hk'=>?_,fun c hc'=>?_,h.frame,h.ext,h.out,h.mono,h.frb,fun c u hk hu=>?_⟩
 ·obtain⟨ds,hl,h0,arr,T,hb,hle,hc⟩:=h.roots c u (hroot c u hk)
  refine⟨ds,hl,h0,arr,T,hb,hle,fun j x hj=>?_⟩
  obtain⟨v,hv,h1,r⟩:=hc j x hj
  exact⟨v,hv,h1,za.all k _ _ r⟩
 ·rcases htail c u hk with ⟨rfl,rfl⟩|⟨hcb,hk,hut⟩<;>rcases htail c' u hk' with ⟨rfl,e⟩|⟨hcb',hk',hut'⟩
  ·rfl
  ·exact absurd rfl hut'
  ·exact absurd e hut
  ·exact h.ut c c' u hk hk'
 ·by_cases e:c=b
  ·subst e;exact⟨hb,hm⟩
  ·have:Zu g.K b (.tail t) c≠ .prot:=hc'
   rw[qm _ _ _ e]at this;exact h.own c this
 ·have hh:=h.pins c u hk hu
  refine⟨?_,hh.2⟩
  show Zu g.K b _ c=_
  rw[qm _ _ _ (hne c (by rw[hh.1];simp))];exact hh.1
theorem SR.zi3 [Gi] {E:Ent}(h:SR E S g a w) {b:Nat} {t:Tok} {cs':List AV} {arr arr':Array Value} {T:TypeId}(hk:g.K b=.root t)
  (hb:w.heap[b]?=some (.cells arr T (0,0))) (hsz:arr.size=arr'.size) (hle:cs'.length≤arr'.size) (hc:∀(j:Nat) (x:AV),cs'[j]?=some x→∃v,arr'[j]?=some v∧v.oneCell'=true∧za g w x v):
  SR E {S with rs:=jg S.rs t cs'} g a (w.setRow b arr'):=by
 have hm:=(h.own b (by rw[hk];simp)).2
 have h0:g.fr b=0:=by obtain⟨_,_,h0,_⟩:=h.roots b t hk;exact h0
 have hnt:∀c u,g.K c=.tail u→c≠b:=fun c u hk' e=>by subst e;rw[hk]at hk';cases hk'
 have k:xc g w g (w.setRow b arr') ftt ftt:=⟨fun c o ho=>⟨ho,zP (zV w b arr' c (fun e=>by subst e;omega))⟩,fun c u _ hku=>⟨hku,fun n hn=>by
  by_cases e:c=b
  ·subst e
   cases n with
   |le n=>
    obtain⟨arr2,T2,h2,h3⟩:=hn
    rw[hb]at h2
    injection h2 with h2;injection h2 with h4 h5;subst h4
    exact⟨arr',T,setRow_heap w c arr arr' T (0,0) hb,by omega⟩
   |eq T2 m=>
    obtain⟨arr2,h2,h3⟩:=hn
    rw[hb]at h2
    injection h2 with h2;injection h2 with h4 h5;subst h4;subst h5
    exact⟨arr',setRow_heap w c arr arr' T (0,0) hb,by omega⟩
  ·exact Blk.of_heap (zV w b arr' c e) hn⟩,
  fun c u _ hk'=>⟨hk',rfl,Zo (zV w b arr' c (hnt c u hk'))⟩⟩
 refine⟨h.size,h.defers,fun u=>za.all k _ _ (h.slots u),fun c u hku=>?_,h.ur,h.ut,fun c hc'=>?_,fun c hc'=>?_,h.ext.trans k.ext,h.out,by rw[size_setRow];exact h.mono,fun c hc'=>h.frb c (by rwa[size_setRow]at hc'),fun c u hk hu=>⟨(h.pins c u hk hu).1,fun n hn=>(k.kr c u rfl (h.pins c u hk hu).1).2 n ((h.pins c u hk hu).2 n hn)⟩⟩
 ·by_cases e:c=b
  ·subst e
   have:u=t:=by rw[hk]at hku;injection hku with e;exact e.symm
   subst this
   refine⟨cs',by simp only[];rw[Z0,if_pos rfl],h0,arr',T,setRow_heap w c arr arr' T (0,0) hb,hle,fun j x hj=>?_⟩
   obtain⟨v,hv,h1,r⟩:=hc j x hj
   exact⟨v,hv,h1,za.all k _ _ r⟩
  ·have hut:t≠u:=fun e'=>by subst e';exact e (h.ur c b _ hku hk)
   obtain⟨ds,hl,h0,arr1,T,hb,hle,hc⟩:=h.roots c u hku
   refine⟨ds,by simp only[];rw[Z0,if_neg hut];exact hl,h0,arr1,T,(zV w b arr' c e).trans hb,hle,fun j x hj=>?_⟩
   obtain⟨v,hv,h1,r⟩:=hc j x hj
   exact⟨v,hv,h1,za.all k _ _ r⟩
 ·rw[size_setRow];exact h.own c hc'
 ·exact⟨(zV w b arr' c (fun e=>hc' (e▸hm))).trans (h.frame c hc').1,(h.frame c hc').2⟩
theorem SR.zky [Gi] {E:Ent}(h:SR E S g a w) {b:Nat} {t:Tok} {cs':List AV} {arr:Array Value} {T:TypeId}(hk:g.K b=.root t)
  (hb:w.heap[b]?=some (.cells arr T (0,0))) (hle:cs'.length≤arr.size) (hc:∀(j:Nat) (x:AV),cs'[j]?=some x→∃v,arr[j]?=some v∧v.oneCell'=true∧za g w x v):
  SR E {S with rs:=jg S.rs t cs'} g a w:=by
 refine⟨h.size,h.defers,fun u=>h.slots u,fun c u hku=>?_,h.ur,h.ut,h.own,h.frame,h.ext,h.out,h.mono,h.frb,h.pins⟩
 by_cases e:c=b
 ·subst e
  have:u=t:=by rw[hk]at hku;injection hku with e;exact e.symm
  subst this
  exact⟨cs',by simp only[];rw[Z0,if_pos rfl],(by obtain⟨_,_,h0,_⟩:=h.roots c u hk;exact h0),arr,T,hb,hle,hc⟩
 ·have hut:t≠u:=fun e'=>by subst e';exact e (h.ur c b _ hku hk)
  obtain⟨ds,hl,rest⟩:=h.roots c u hku
  exact⟨ds,by simp only[];rw[Z0,if_neg hut];exact hl,rest⟩
def LeA(x y:AV):Prop:=∀g w v,za g w x v→za g w y v
theorem LeA.refl(x:AV):LeA x x:=fun _ _ _ h=>h
theorem LeA.zK(x:AV):LeA x .zK:=fun _ _ _ _=>by simp only[za]
theorem LeA.dem(t:Tok)(z:Nat)(es:List PV):LeA (.os t z es) (.p (.sl z es)):=fun _ _ _ h=>by simp only[za]at h⊢;exact h.1
theorem LeA.nil(z:Nat):LeA (.p (.opq (.slice none 0 0))) (.p (.sl z [])):=fun _ _ _ h=>by
 simp only[za,zi]at h⊢;exact .inl ⟨trivial,none,0,h⟩
theorem LeA.uD(t:Tok)(z:Nat):LeA (.p (.opq (.slice none 0 0))) (.os t z []):=fun _ _ _ h=>by
 simp only[za,zi]at h⊢;exact⟨.inl ⟨trivial,none,0,h⟩,.inl ⟨none,0,h⟩⟩
end
end Go.AM
