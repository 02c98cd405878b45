/- A part of the proof of this seat's statements, by an abstract machine: what each operation does to values, and what the law's functions compute. Conditions: as each law says. -/
import Derived.Orders
import Derived.Laws.CopyRow
import Derived.Laws.AppendOwn
section
namespace Go.AM
abbrev Tok:=List Nat
inductive PV where
 |int (k:IntKind) (n:Int)
 |bool (b:Bool)
 |str (s:List UInt8)
 |opq (v:Value)
 |agg (cs:List PV)
 |sl (z:Nat) (es:List PV)
 |mp (ks xs:List PV)
 |pt (z:Nat) (e:PV)
 deriving Inhabited
inductive AV where
 |p (x:PV)
 |os (t:Tok) (z:Nat) (es:List PV)
 |om (t:Tok) (ks xs:List PV)
 |ow (t:Tok) (z:Nat) (es:List PV)
 |lp (t:Tok) (o:Nat)
 |la (t:Tok) (z o n:Nat)
 |ip (z:Nat) (e:PV) (o:Nat)
 |gd (c:Bool) (x:AV)
 |ag (xs:List AV)
 |fn (f:FuncId) (xs:List AV)
 |bb (t:Tok) (T:TypeId) (l:List UInt8)
 |bz (t:Tok) (T:TypeId) (m:Nat)
 |st (t:Tok) (j:Nat)
 |it (t:Tok) (ks xs:List PV) (left:List Nat) (cur:Option Nat)
 |tup (xs:List AV)
 |zZ
 deriving Inhabited
inductive Kd where
 |prot
 |root (t:Tok)
 |tail (t:Tok)
structure Gh where
 fr:Nat→Nat
 K:Nat→Kd
def kQ(es:Array MapEntry)(c:Nat):Bool:=decide (es.toList.map (·.born)).Nodup&&es.toList.all fun e=>decide (e.born<c)
def Q2(w:World)(b:Nat):Option (Array MapEntry×Nat):=match w.heap[b]? with
 |some (.map es c)=>if kQ es c then some (es,c)else none
 |_=>none
mutual
def zk(fr:Nat→Nat)(w:World):PV→Value→Prop
 |.int k n,v=>v=.int k n
 |.bool b,v=>v=.bool b
 |.str s,v=>v=.string ⟨s.toArray⟩
 |.opq u,v=>v=u
 |.agg cs,v=>∃vs:Array Value,v=.agg vs∧zG fr w cs vs.toList
 |.sl z es,v=>(es=[]∧∃a cap,v=.slice a 0 cap)∨
   ∃b o cap,v=.slice (some ⟨b,o,none⟩) es.length cap∧es.length≤cap∧o+es.length*z≤fr b∧qD fr w z b es o
 |.mp ks xs,v=>∃b arr c,v=.map (some b)∧0<fr b∧Q2 w b=some (arr,c)∧qU fr w ks (arr.toList.map (·.key))∧qU fr w xs (arr.toList.map (·.val))
 |.pt z e,v=>∃b o,v=.pointer (some ⟨b,o,none⟩)∧o+z≤fr b∧∃u,zk fr w e u∧u.cells.size=z∧∀j c,u.cells[j]?=some c→c.oneCell'=true∧w.cell? ⟨b,o+j,none⟩=some c
def zG(fr:Nat→Nat)(w:World):List PV→List Value→Prop
 | [],vs=>vs=[]
 |c::cs,vs=>∃v vs',vs=v::vs'∧v.oneCell'=true∧zk fr w c v∧zG fr w cs vs'
def qU(fr:Nat→Nat)(w:World):List PV→List Value→Prop
 | [],vs=>vs=[]
 |c::cs,vs=>∃v vs',vs=v::vs'∧zk fr w c v∧qU fr w cs vs'
def qD(fr:Nat→Nat)(w:World)(z b:Nat):List PV→Nat→Prop
 | [],_=>True
 |e::es,o=>(∃v,zk fr w e v∧v.cells.size=z∧∀j c,v.cells[j]?=some c→c.oneCell'=true∧w.cell? ⟨b,o+j,none⟩=some c)∧qD fr w z b es (o+z)
end
def Ext(fr:Nat→Nat)(w:World)(fr':Nat→Nat)(w':World):Prop:=
 ∀b o,o<fr b→o<fr' b∧w'.cell? ⟨b,o,none⟩=w.cell? ⟨b,o,none⟩∧Q2 w' b=Q2 w b
theorem Ext.refl(fr:Nat→Nat)(w:World):Ext fr w fr w:=fun _ _ h=>⟨h,rfl,rfl⟩
theorem Ext.trans {f1 f2 f3:Nat→Nat} {w1 w2 w3:World}(h:Ext f1 w1 f2 w2)(k:Ext f2 w2 f3 w3):Ext f1 w1 f3 w3:=
 fun b o ho=>let⟨a,e⟩:=h b o ho;let⟨a',e'⟩:=k b o a;⟨a',e'.1.trans e.1,e'.2.trans e.2⟩
theorem Ext.le {f1 f2:Nat→Nat} {w1 w2:World}(h:Ext f1 w1 f2 w2)(b:Nat):f1 b≤f2 b:=by
 rcases Nat.eq_zero_or_pos (f1 b)with h0|h0
 ·omega
 ·have:=(h b (f1 b-1) (by omega)).1;omega
section
variable {f1 f2:Nat→Nat} {w1 w2:World}
mutual
theorem zk.ext(h:Ext f1 w1 f2 w2):∀(x:PV) (v:Value),zk f1 w1 x v→zk f2 w2 x v
 |.int _ _,_,r=>r
 |.bool _,_,r=>r
 |.str _,_,r=>r
 |.opq _,_,r=>r
 |.agg cs,v,r=>by
  simp only[zk]at r⊢
  obtain⟨vs,e,r⟩:=r
  exact⟨vs,e,zG.ext h cs _ r⟩
 |.sl z es,v,r=>by
  simp only[zk]at r⊢
  rcases r with r|⟨b,o,cap,e,hc,hf,r⟩
  ·exact .inl r
  ·exact .inr ⟨b,o,cap,e,hc,Nat.le_trans hf (h.le b),qD.ext h z b es o hf r⟩
 |.mp ks xs,v,r=>by
  simp only[zk]at r⊢
  obtain⟨b,arr,c,e,hf,hm,r1,r2⟩:=r
  exact⟨b,arr,c,e,(h b 0 hf).1,(h b 0 hf).2.2.trans hm,qU.ext h ks _ r1,qU.ext h xs _ r2⟩
 |.pt z e,v,r=>by
  simp only[zk]at r⊢
  obtain⟨b,o,hv,hf,u,h1,h2,h3⟩:=r
  refine⟨b,o,hv,Nat.le_trans hf (h.le b),u,zk.ext h e u h1,h2,fun j c hj=>?_⟩
  have hj':j<z:=by rw[←h2];exact(Array.getElem?_eq_some_iff.1 hj).1
  rw[(h b (o+j) (by omega)).2.1]
  exact h3 j c hj
theorem zG.ext(h:Ext f1 w1 f2 w2):∀(cs:List PV) (vs:List Value),zG f1 w1 cs vs→zG f2 w2 cs vs
 | [],_,r=>by simpa only[zG]using r
 |c::cs,vs,r=>by
  simp only[zG]at r⊢
  obtain⟨v,vs',e,h1,h2,h3⟩:=r
  exact⟨v,vs',e,h1,zk.ext h c v h2,zG.ext h cs vs' h3⟩
theorem qU.ext(h:Ext f1 w1 f2 w2):∀(cs:List PV) (vs:List Value),qU f1 w1 cs vs→qU f2 w2 cs vs
 | [],_,r=>by simpa only[qU]using r
 |c::cs,vs,r=>by
  simp only[qU]at r⊢
  obtain⟨v,vs',e,h2,h3⟩:=r
  exact⟨v,vs',e,zk.ext h c v h2,qU.ext h cs vs' h3⟩
theorem qD.ext(h:Ext f1 w1 f2 w2)(z b:Nat):∀(es:List PV) (o:Nat),o+es.length*z≤f1 b→qD f1 w1 z b es o→qD f2 w2 z b es o
 | [],_,_,_=>by simp only[qD]
 |e::es,o,hf,r=>by
  simp only[qD]at r⊢
  have hl:(e::es).length*z=es.length*z+z:=by simp[Nat.add_mul]
  obtain⟨⟨v,h1,h2,h3⟩,h4⟩:=r
  refine⟨⟨v,zk.ext h e v h1,h2,fun j c hj=>?_⟩,qD.ext h z b es (o+z) (by omega) h4⟩
  have hj':j<z:=by rw[←h2];exact(Array.getElem?_eq_some_iff.1 hj).1
  rw[(h b (o+j) (by omega)).2.1]
  exact h3 j c hj
end
end
theorem qD.move {f1 f2:Nat→Nat} {w1 w2:World}(h:Ext f1 w1 f2 w2) {z b:Nat}(hb:∀o,w2.cell? ⟨b,o,none⟩=w1.cell? ⟨b,o,none⟩):∀(es:List PV) (o:Nat),qD f1 w1 z b es o→qD f2 w2 z b es o
 | [],_,_=>by simp only[qD]
 |e::es,o,r=>by
  simp only[qD]at r⊢
  obtain⟨⟨v,h1,h2,h3⟩,h4⟩:=r
  exact⟨⟨v,zk.ext h e v h1,h2,fun j c hj=>by rw[hb];exact h3 j c hj⟩,qD.move h hb es (o+z) h4⟩
theorem qD.get {fr:Nat→Nat} {w:World} {z b:Nat}:∀{es:List PV} {o:Nat},qD fr w z b es o→∀{i:Nat} {e:PV},es[i]?=some e→
  ∃v,zk fr w e v∧v.cells.size=z∧∀j c,v.cells[j]?=some c→c.oneCell'=true∧w.cell? ⟨b,o+i*z+j,none⟩=some c
 | [],_,_,_,_,he=>by simp at he
 |x::es,o,r,i,e,he=>by
  simp only[qD]at r
  cases i with
  |zero=>simp at he;subst he;simpa using r.1
  |succ i=>
   have:=qD.get r.2 (i:=i) (e:=e) (by simpa using he)
   have e1:o+z+i*z=o+(i+1)*z:=by rw[Nat.add_mul];omega
   rwa[e1]at this
theorem qD.append {fr:Nat→Nat} {w:World} {z b:Nat}:∀{es es':List PV} {o:Nat},qD fr w z b es o→qD fr w z b es' (o+es.length*z)→qD fr w z b (es++es') o
 | [],es',o,_,r'=>by simpa using r'
 |e::es,es',o,r,r'=>by
  simp only[List.cons_append,qD]at r⊢
  refine⟨r.1,qD.append r.2 ?_⟩
  have e1:o+(e::es).length*z=o+z+es.length*z:=by simp[Nat.add_mul];omega
  rwa[e1]at r'
theorem qD.left {fr:Nat→Nat} {w:World} {z b:Nat}:∀{es es':List PV} {o:Nat},qD fr w z b (es++es') o→qD fr w z b es o∧qD fr w z b es' (o+es.length*z)
 | [],es',o,r=>by simpa[qD]using r
 |e::es,es',o,r=>by
  simp only[List.cons_append,qD]at r⊢
  obtain⟨h1,h2⟩:=qD.left r.2
  refine⟨⟨r.1,h1⟩,?_⟩
  have e1:o+(e::es).length*z=o+z+es.length*z:=by simp[Nat.add_mul];omega
  rwa[e1]
inductive BN where
 |le (n:Nat)
 |eq (T:TypeId) (m:Nat)
def Blk(w:World)(b:Nat):BN→Prop
 |.le n=>∃arr T,w.heap[b]?=some (.cells arr T (0,0))∧n≤arr.size
 |.eq T m=>∃arr,w.heap[b]?=some (.cells arr T (0,0))∧arr.size=m
def Whole(w:World)(b n:Nat):Prop:=
 ∃arr T,w.heap[b]?=some (.cells arr T (0,0))∧arr.size=n∧(∀v∈arr.toList,v.oneCell'=true)∧n≤9223372036854775807
mutual
def zd(g:Gh)(w:World):AV→Value→Prop
 |.p x,v=>zk g.fr w x v
 |.os t z es,v=>zk g.fr w (.sl z es) v∧((∃a len,v=.slice a len len)∨
   ∃b o len cap,v=.slice (some ⟨b,o,none⟩) len cap∧g.K b=.tail t∧g.fr b=o+len*z∧Blk w b (.le (o+cap*z)))
 |.om t ks xs,v=>∃b arr c,v=.map (some b)∧g.K b=.tail t∧g.fr b=0∧Q2 w b=some (arr,c)∧qU g.fr w ks (arr.toList.map (·.key))∧qU g.fr w xs (arr.toList.map (·.val))
 |.ow _ _ es,v=>es=[]∧∃a,v=.slice a 0 0
 |.lp t o,v=>∃b,g.K b=.root t∧v=.pointer (some ⟨b,o,none⟩)
 |.la t z o n,v=>∃b o' cap,g.K b=.root t∧v=.slice (some ⟨b,o',none⟩) n cap∧n≤cap∧(n=0∨o'=o)∧Blk w b (.le (o'+cap*z))
 |.ip z e o,v=>∃b base,v=.pointer (some ⟨b,base+o,none⟩)∧base+z≤g.fr b∧qD g.fr w z b [e] base
 |.gd c x,v=>(c=true→zd g w x v)∧(c=false→v=undef)
 |.tup xs,v=>∃vs:Array Value,v=.tuple vs∧zt g w xs vs.toList
 |.ag xs,v=>∃vs:Array Value,v=.agg vs∧(∀u∈vs.toList,u.oneCell'=true)∧zt g w xs vs.toList
 |.fn f xs,v=>∃vs:Array Value,v=.func (.func f) #[] vs∧zt g w xs vs.toList
 |.bb t T l,v=>(l=[]∧v=.slice none 0 0)∨
   ∃b cap arr,v=.slice (some ⟨b,0,none⟩) l.length cap∧g.K b=.tail t∧g.fr b=0∧w.heap[b]?=some (.cells arr T (0,0))∧l.length≤cap∧cap≤9223372036854775807∧arr.size=cap∧(arr.toList.take l.length=l.map fun c=>Value.int .u8 (c.toNat:Int))∧l≠ []
 |.bz t T m,v=>∃b,g.K b=.root t∧Blk w b (.eq T m)∧(v=.pointer none∨v=.pointer (some ⟨b,0,none⟩))
 |.st t j,v=>∃b arr c e,g.K b=.tail t∧Q2 w b=some (arr,c)∧arr[j]?=some e∧v=.int .i64 e.born
 |.it t ks xs left cur,v=>∃b bm since seen c0 arr clock,v=.pointer (some ⟨b,0,none⟩)∧g.K b=.tail t∧g.fr b=0∧w.heap[b]?=some (.mapIter (some bm) since seen c0)∧(since≤c0∧since≤clock)∧0<g.fr bm∧
   Q2 w bm=some (arr,clock)∧(∀e∈arr.toList,e.born<since)∧qU g.fr w ks (arr.toList.map (·.key))∧qU g.fr w xs (arr.toList.map (·.val))∧
   (∀(i:Nat) (e:MapEntry),arr[i]?=some e→(i∈left↔seen.contains e.born=false))∧(∀i∈left,i<arr.size)∧∀i,cur=some i→c0=clock∧∃e,arr[i]?=some e∧∃seen':Array Nat,seen=seen'.push e.born
 |.zZ,_=>True
def zt(g:Gh)(w:World):List AV→List Value→Prop
 | [],vs=>vs=[]
 |x::xs,vs=>∃v vs',vs=v::vs'∧zd g w x v∧zt g w xs vs'
end
end Go.AM
end
section
namespace Go.AM
def look {α:Type}:List (Nat×α)→Nat→Option α
 | [],_=>none
 |(k,x)::l,t=>if k=t then some x else look l t
def zH {α:Type}:List (Tok×α)→Tok→Option α
 | [],_=>none
 |(k,x)::l,t=>if k=t then some x else zH l t
def xL {α:Type}:List (Nat×α)→Nat→α→List (Nat×α)
 | [],t,x=>[(t,x)]
 |(k,y)::l,t,x=>if k=t then(t,x)::l else(k,y)::xL l t x
def vr {α:Type}:List (Tok×α)→Tok→α→List (Tok×α)
 | [],t,x=>[(t,x)]
 |(k,y)::l,t,x=>if k=t then(t,x)::l else(k,y)::vr l t x
theorem zhX {α:Type}(l:List (Nat×α))(t:Nat)(x:α)(u:Nat):look (xL l t x) u=if t=u then some x else look l u:=by
 induction l with
 |nil=>simp[xL,look]
 |cons y l ih=>
  obtain⟨k,y⟩:=y
  simp only[xL]
  split
  ·rename_i h;subst h;simp only[look];split<;>rfl
  ·rename_i h
   simp only[look,ih]
   split
   ·rename_i h2;subst h2;rw[if_neg (fun e=>h e.symm)]
   ·rfl
theorem QY {α:Type}(l:List (Tok×α))(t:Tok)(x:α)(u:Tok):zH (vr l t x) u=if t=u then some x else zH l u:=by
 induction l with
 |nil=>simp[vr,zH]
 |cons y l ih=>
  obtain⟨k,y⟩:=y
  simp only[vr]
  split
  ·rename_i h;subst h;simp only[zH];split<;>rfl
  ·rename_i h
   simp only[zH,ih]
   split
   ·rename_i h2;subst h2;rw[if_neg (fun e=>h e.symm)]
   ·rfl
structure St where
 n:Nat
 nv:Nat
 vs:List (Nat×AV)
 ts:List (Nat×AV)
 rs:List (Tok×List AV)
 pin:List Tok:=[]
 ex:List Nat:=[]
 rm:List Nat:=[]
 bt:List TypeId:=[]
def St.kept(S:St)(t:Nat):Bool:=decide (t<S.nv) || S.ex.contains t
def qu:Option AV→AV
 |some x=>x
 |none=>.zZ
def St.get(S:St)(t:Nat):AV:=if S.kept t then qu (look S.vs t)else qu (look S.ts t)
def St.set(S:St)(t:Nat)(x:AV):St:=
 if S.kept t then {S with vs:=xL S.vs t x}else {S with ts:=(t,x)::S.ts}
theorem St.zfP(S:St)(t:Nat)(x:AV):(S.set t x).n=S.n:=by unfold St.set;split<;>rfl
theorem St.zfW(S:St)(t:Nat)(x:AV):(S.set t x).pin=S.pin:=by unfold St.set;split<;>rfl
theorem St.zid(S:St)(t:Nat)(x:AV):(S.set t x).rs=S.rs:=by unfold St.set;split<;>rfl
theorem St.zja(S:St)(t:Nat)(x:AV)(u:Nat):(S.set t x).kept u=S.kept u:=by unfold St.set;split<;>rfl
theorem St.zaG(S:St)(t:Nat)(x:AV)(u:Nat):(S.set t x).get u=if t=u then x else S.get u:=by
 have hk:=S.zja t x u
 unfold St.get
 rw[hk]
 unfold St.set
 by_cases ht:S.kept t=true
 ·simp only[ht,if_true,zhX]
  by_cases e:t=u
  ·subst e;simp[ht,qu]
  ·simp[e]
 ·have ht':S.kept t=false:=by simpa using ht
  simp only[ht',Bool.false_eq_true,if_false,look]
  by_cases e:t=u
  ·subst e;simp[ht',qu]
  ·simp[e]
def AV.upd(f:AV→AV):AV→AV
 |.tup xs=>.tup (xs.map f)
 |.gd c x=>.gd c (f x)
 |x=>f x
def QB(rt tt:Tok→Bool):AV→AV
 |.lp t o=>if rt t then .lp t o else .zZ
 |.la t z o n=>if rt t then .la t z o n else .zZ
 |.os t z es=>if tt t then .os t z es else .p (.sl z es)
 |.om t ks xs=>if tt t then .om t ks xs else .zZ
 |.ow t z es=>if tt t then .ow t z es else .zZ
 |.bb t T l=>if tt t then .bb t T l else .zZ
 |.bz t T m=>if rt t then .bz t T m else .zZ
 |.st t j=>if tt t then .st t j else .zZ
 |.it t ks xs l c=>if tt t then .it t ks xs l c else .zZ
 |.tup _=>.zZ
 |.gd _ _=>.zZ
 |.ag _=>.zZ
 |.fn _ _=>.zZ
 |x=>x
def fil(rt tt:Tok→Bool):AV→AV
 |.ag xs=>.ag (xs.map (QB rt tt))
 |.fn f xs=>.fn f (xs.map (QB rt tt))
 |x=>QB rt tt x
def St.fil (rt tt : Tok → Bool) (S : St) : St :=
  { S with vs := S.vs.map fun x => (x.1, x.2.upd (AM.fil rt tt)), ts := S.ts.map fun x => (x.1, x.2.upd (AM.fil rt tt)),
           rs := S.rs.map fun x => (x.1, x.2.map (AV.upd (AM.fil rt tt))) }
theorem vN {α:Type}(f:α→α)(l:List (Nat×α))(t:Nat):look (l.map fun x=>(x.1,f x.2)) t=(look l t).map f:=by
 induction l with
 |nil=>rfl
 |cons y l ih=>simp only[List.map_cons,look,ih];split<;>rfl
theorem V4 {α:Type}(f:α→α)(l:List (Tok×α))(t:Tok):zH (l.map fun x=>(x.1,f x.2)) t=(zH l t).map f:=by
 induction l with
 |nil=>rfl
 |cons y l ih=>simp only[List.map_cons,zH,ih];split<;>rfl
theorem St.zj7(rt tt:Tok→Bool)(S:St)(t:Nat):(S.fil rt tt).get t=(S.get t).upd (AM.fil rt tt):=by
 have hk:(S.fil rt tt).kept t=S.kept t:=rfl
 unfold St.get
 rw[hk]
 have h:∀l:List (Nat×AV),qu (look (l.map fun x=>(x.1,x.2.upd (AM.fil rt tt))) t)=(qu (look l t)).upd (AM.fil rt tt):=fun l=>by
  rw[vN (AV.upd (AM.fil rt tt))]
  cases look l t<;>simp[qu,AV.upd,AM.fil,AM.QB]
 split
 ·exact h S.vs
 ·exact h S.ts
class Gi where
 val:Nat→Option (Array Value)
def zaB [Gi](g:Gh)(w:World):Prop:=∀b arr,Gi.val b=some arr→g.K b=.prot∧∃T f,w.heap[b]?=some (.cells arr T f)
structure Ent [Gi]where
 w0:World
 g0:Gh
 gl:zaB g0 w0
def Ent.may [Gi](E:Ent)(b:Nat):Prop:=E.w0.heap.size≤b∨E.g0.K b≠ .prot
def zfl(g:Gh)(w:World)(b:Nat)(cs:List AV):Prop:=
 g.fr b=0∧∃arr T,w.heap[b]?=some (.cells arr T (0,0))∧cs.length≤arr.size∧∀(j:Nat) (x:AV),cs[j]?=some x→∃v,arr[j]?=some v∧v.oneCell'=true∧zd g w x v
structure SR [Gi](E:Ent)(S:St)(g:Gh)(a:Act)(w:World):Prop where
 size:a.tmps.size=S.n
 defers:a.defers=[]
 slots:∀t,zd g w (S.get t) (a.tmps.getD t undef)
 roots:∀b t,g.K b=.root t→∃cs,zH S.rs t=some cs∧zfl g w b cs
 ur:∀b b' t,g.K b=.root t→g.K b'=.root t→b=b'
 ut:∀b b' t,g.K b=.tail t→g.K b'=.tail t→b=b'
 own:∀b,g.K b≠ .prot→b<w.heap.size∧E.may b
 frame:∀b,¬E.may b→w.heap[b]?=E.w0.heap[b]?∧g.fr b=E.g0.fr b
 ext:Ext E.g0.fr E.w0 g.fr w
 out:w.os=E.w0.os∧w.tape=E.w0.tape∧w.output=E.w0.output
 mono:E.w0.heap.size≤w.heap.size
 frb:∀b,w.heap.size≤b→g.fr b=0
 pins:∀b t,E.g0.K b=.root t→t∈S.pin→g.K b=.root t∧∀n,Blk E.w0 b n→Blk w b n
theorem SR.gl [Gi] {E:Ent} {S:St} {g:Gh} {a:Act} {w:World}(h:SR E S g a w):zaB g w:=fun b arr e=>by
 obtain⟨hk,T,f,hb⟩:=E.gl b arr e
 have hlt:b<E.w0.heap.size:=(Array.getElem?_eq_some_iff.1 hb).1
 have hmay:¬E.may b:=fun m=>m.elim (fun k=>by omega) (fun k=>k hk)
 exact⟨Classical.byContradiction fun hn=>hmay (h.own b hn).2,T,f,(h.frame b hmay).1.trans hb⟩
theorem Vl {w w':World} {b o:Nat}(h:w'.heap[b]?=w.heap[b]?):w'.cell? ⟨b,o,none⟩=w.cell? ⟨b,o,none⟩:=
 World.cell?_of_block (a:=⟨b,o,none⟩) h
theorem Blk.of_heap {w w':World} {b:Nat} {n:BN}(h:w'.heap[b]?=w.heap[b]?)(k:Blk w b n):Blk w' b n:=by
 cases n with
 |le n=>
  obtain⟨arr,T,e,l⟩:=k
  exact⟨arr,T,h.trans e,l⟩
 |eq T m=>
  obtain⟨arr,e,l⟩:=k
  exact⟨arr,h.trans e,l⟩
theorem Blk.le {w:World} {b n m:Nat}(k:Blk w b (.le n))(h:m≤n):Blk w b (.le m):=by
 obtain⟨arr,T,e,l⟩:=k
 exact⟨arr,T,e,by omega⟩
theorem Whole.of_heap {w w':World} {b n:Nat}(h:w'.heap[b]?=w.heap[b]?)(k:Whole w b n):Whole w' b n:=by
 obtain⟨arr,T,e,l⟩:=k
 exact⟨arr,T,h.trans e,l⟩
theorem jH {w:World} {b:Nat} {arr:Array MapEntry} {c:Nat}(h:Q2 w b=some (arr,c)):w.heap[b]?=some (.map arr c)∧kQ arr c=true:=by
 unfold Q2 at h
 split at h
 ·rename_i es c' hb
  split at h
  ·rename_i hs
   injection h with h;injection h with h1 h2;subst h1;subst h2
   exact⟨hb,hs⟩
  ·cases h
 ·cases h
theorem uw {w:World} {b:Nat} {arr:Array MapEntry} {c:Nat}(h:w.heap[b]?=some (.map arr c))(hs:kQ arr c=true):Q2 w b=some (arr,c):=by unfold Q2;rw[h];simp only[hs,if_true]
theorem Zp {w w':World} {b:Nat}(h:w'.heap[b]?=w.heap[b]?):Q2 w' b=Q2 w b:=by unfold Q2;rw[h]
structure vq(g:Gh)(w:World)(g':Gh)(w':World)(rt tt:Tok→Bool):Prop where
 ext:Ext g.fr w g'.fr w'
 kr:∀b t,rt t=true→g.K b=.root t→g'.K b=.root t∧∀n,Blk w b n→Blk w' b n
 kt:∀b t,tt t=true→g.K b=.tail t→g'.K b=.tail t∧g'.fr b=g.fr b∧w'.heap[b]?=w.heap[b]?
theorem zd.ziF {g g':Gh} {w w':World} {rt tt:Tok→Bool}(k:vq g w g' w' rt tt):∀(x:AV) (v:Value),zd g w x v→zd g' w' (QB rt tt x) v
 |.p x,v,r=>by simp only[QB,zd]at r⊢;exact r.ext k.ext
 |.os t z es,v,r=>by
  simp only[zd]at r
  obtain⟨h1,h2⟩:=r
  simp only[QB]
  split
  ·rename_i ht
   simp only[zd]
   refine⟨h1.ext k.ext,h2.imp id ?_⟩
   rintro⟨b,o,len,cap,e,hk,hf,hb⟩
   obtain⟨a1,a2,a3⟩:=k.kt b t ht hk
   exact⟨b,o,len,cap,e,a1,a2.trans hf,Blk.of_heap a3 hb⟩
  ·simp only[zd];exact h1.ext k.ext
 |.om t ks xs,v,r=>by
  simp only[QB]
  split
  ·rename_i ht
   simp only[zd]at r⊢
   obtain⟨b,arr,c,e,hk,hf,hm,r1,r2⟩:=r
   obtain⟨a1,a2,a3⟩:=k.kt b t ht hk
   exact⟨b,arr,c,e,a1,a2.trans hf,(Zp a3).trans hm,r1.ext k.ext,r2.ext k.ext⟩
  ·simp only[zd]
 |.ow t z es,v,r=>by
  simp only[QB]
  split
  ·rename_i ht
   simp only[zd]at r⊢
   exact r
  ·simp only[zd]
 |.lp t o,v,r=>by
  simp only[QB]
  split
  ·rename_i ht
   simp only[zd]at r⊢
   obtain⟨b,hk,e⟩:=r
   exact⟨b,(k.kr b t ht hk).1,e⟩
  ·simp only[zd]
 |.la t z o n,v,r=>by
  simp only[QB]
  split
  ·rename_i ht
   simp only[zd]at r⊢
   obtain⟨b,o',cap,hk,e,hn⟩:=r
   exact⟨b,o',cap,(k.kr b t ht hk).1,e,hn.1,hn.2.1,(k.kr b t ht hk).2 _ hn.2.2⟩
  ·simp only[zd]
 |.ip z e o,v,r=>by
  simp only[QB,zd]at r⊢
  obtain⟨b,base,ev,hf,he⟩:=r
  exact⟨b,base,ev,Nat.le_trans hf (k.ext.le b),qD.ext k.ext z b [e] base (by simpa using hf) he⟩
 |.gd c x,v,r=>by simp only[QB,zd]
 |.tup xs,v,r=>by simp only[QB,zd]
 |.ag xs,v,r=>by simp only[QB,zd]
 |.fn f xs,v,r=>by simp only[QB,zd]
 |.bz t T m,v,r=>by
  simp only[QB]
  split
  ·rename_i ht
   simp only[zd]at r⊢
   obtain⟨b,hk,hb,e⟩:=r
   exact⟨b,(k.kr b t ht hk).1,(k.kr b t ht hk).2 _ hb,e⟩
  ·simp only[zd]
 |.bb t T l,v,r=>by
  simp only[QB]
  split
  ·rename_i ht
   simp only[zd]at r⊢
   refine r.imp id ?_
   rintro⟨b,cap,arr,e,hk,hf,hb,rest⟩
   obtain⟨a1,a2,a3⟩:=k.kt b t ht hk
   exact⟨b,cap,arr,e,a1,a2.trans hf,a3.trans hb,rest⟩
  ·simp only[zd]
 |.st t j,v,r=>by
  simp only[QB]
  split
  ·rename_i ht
   simp only[zd]at r⊢
   obtain⟨b,arr,c,e,hk,hm,he,hv⟩:=r
   obtain⟨a1,a2,a3⟩:=k.kt b t ht hk
   exact⟨b,arr,c,e,a1,(Zp a3).trans hm,he,hv⟩
  ·simp only[zd]
 |.it t ks xs l c,v,r=>by
  simp only[QB]
  split
  ·rename_i ht
   simp only[zd]at r⊢
   obtain⟨b,bm,since,seen,c0,arr,clock,e,hk,hf,hi,hs,hfm,hm,hold,r1,r2,rest⟩:=r
   obtain⟨a1,a2,a3⟩:=k.kt b t ht hk
   have hx:=k.ext bm 0 hfm
   exact⟨b,bm,since,seen,c0,arr,clock,e,a1,a2.trans hf,a3.trans hi,hs,hx.1,hx.2.2.trans hm,hold,r1.ext k.ext,r2.ext k.ext,rest⟩
  ·simp only[zd]
 |.zZ,v,r=>by simp only[QB,zd]
theorem zt.map {g g':Gh} {w w':World}(f:AV→AV)(h:∀x v,zd g w x v→zd g' w' (f x) v):∀(xs:List AV) (vs:List Value),zt g w xs vs→zt g' w' (xs.map f) vs
 | [],vs,r=>by simpa only[zt,List.map_nil]using r
 |x::xs,vs,r=>by
  simp only[zt,List.map_cons]at r⊢
  obtain⟨v,vs',e,h1,h2⟩:=r
  exact⟨v,vs',e,h x v h1,zt.map f h xs vs' h2⟩
theorem zd.flat {g g':Gh} {w w':World} {rt tt:Tok→Bool}(k:vq g w g' w' rt tt)(x:AV)(v:Value)(r:zd g w x v):zd g' w' (fil rt tt x) v:=by
 cases x with
 |ag xs=>
  simp only[fil,zd]at r⊢
  obtain⟨vs,e,h1,r⟩:=r
  exact⟨vs,e,h1,zt.map _ (zd.ziF k) xs _ r⟩
 |fn f xs=>
  simp only[fil,zd]at r⊢
  obtain⟨vs,e,r⟩:=r
  exact⟨vs,e,zt.map _ (zd.ziF k) xs _ r⟩
 |_=>exact zd.ziF k _ v r
theorem zt.flat {g g':Gh} {w w':World} {rt tt:Tok→Bool}(k:vq g w g' w' rt tt):∀(xs:List AV) (vs:List Value),zt g w xs vs→zt g' w' (xs.map (fil rt tt)) vs:=
 zt.map _ (zd.flat k)
theorem zd.upd {g g':Gh} {w w':World} {rt tt:Tok→Bool}(k:vq g w g' w' rt tt)(x:AV)(v:Value)(r:zd g w x v):zd g' w' (x.upd (fil rt tt)) v:=by
 cases x with
 |tup xs=>
  simp only[AV.upd,zd]at r⊢
  obtain⟨vs,e,r⟩:=r
  exact⟨vs,e,zt.flat k xs _ r⟩
 |gd c x=>
  simp only[AV.upd,zd]at r⊢
  exact⟨fun hc=>zd.flat k x v (r.1 hc),r.2⟩
 |_=>exact zd.flat k _ v r
def ftt:Tok→Bool:=fun _=>true
mutual
theorem zd.all {g g':Gh} {w w':World}(k:vq g w g' w' ftt ftt):∀(x:AV) (v:Value),zd g w x v→zd g' w' x v
 |.gd c x,v,r=>by simp only[zd]at r⊢;exact⟨fun hc=>zd.all k x v (r.1 hc),r.2⟩
 |.tup xs,v,r=>by simp only[zd]at r⊢;obtain⟨vs,e,r⟩:=r;exact⟨vs,e,zt.all k xs _ r⟩
 |.ag xs,v,r=>by simp only[zd]at r⊢;obtain⟨vs,e,h1,r⟩:=r;exact⟨vs,e,h1,zt.all k xs _ r⟩
 |.fn f xs,v,r=>by simp only[zd]at r⊢;obtain⟨vs,e,r⟩:=r;exact⟨vs,e,zt.all k xs _ r⟩
 |.p x,v,r=>by have:=zd.flat k _ v r;simpa only[fil,QB]using this
 |.os t z es,v,r=>by have:=zd.flat k _ v r;simpa[fil,QB,ftt]using this
 |.om t ks xs,v,r=>by have:=zd.flat k _ v r;simpa[fil,QB,ftt]using this
 |.ow t z es,v,r=>by have:=zd.flat k _ v r;simpa[fil,QB,ftt]using this
 |.bb t T l,v,r=>by have:=zd.flat k _ v r;simpa[fil,QB,ftt]using this
 |.bz t T m,v,r=>by have:=zd.flat k _ v r;simpa[fil,QB,ftt]using this
 |.st t j,v,r=>by have:=zd.flat k _ v r;simpa[fil,QB,ftt]using this
 |.it t ks xs l c,v,r=>by have:=zd.flat k _ v r;simpa only[fil,QB,ftt,if_true]using this
 |.lp t o,v,r=>by have:=zd.flat k _ v r;simpa[fil,QB,ftt]using this
 |.la t z o n,v,r=>by have:=zd.flat k _ v r;simpa[fil,QB,ftt]using this
 |.ip z e o,v,r=>by have:=zd.flat k _ v r;simpa only[fil,QB]using this
 |.zZ,v,r=>by simp only[zd]
theorem zt.all {g g':Gh} {w w':World}(k:vq g w g' w' ftt ftt):∀(xs:List AV) (vs:List Value),zt g w xs vs→zt g' w' xs vs
 | [],vs,r=>by simpa only[zt]using r
 |x::xs,vs,r=>by simp only[zt]at r⊢;obtain⟨v,vs',e,h1,h2⟩:=r;exact⟨v,vs',e,zd.all k x v h1,zt.all k xs vs' h2⟩
end
end Go.AM
end
