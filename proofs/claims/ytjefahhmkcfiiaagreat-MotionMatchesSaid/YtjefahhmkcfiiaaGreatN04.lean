/- A part of the proof of this seat's statements, by an abstract machine: what each operation does to values, and what the law's functions compute. Conditions: as each law says. -/
import Derived.Test.YtjefahhmkcfiiaaGreatN03
import Derived.Laws.BytesString
import Derived.ChangeKeysEq
section
namespace Go.AM
def zhY:AV→Option Int
 |.p (.str s)=>some s.length
 |.p (.sl _ es)=>some es.length
 |.os _ _ es=>some es.length
 |.la _ _ _ n=>some n
 |.p (.opq (.slice none 0 0))=>some 0
 |_=>none
def vH:TypeDesc→Bool
 |.string=>true
 |_=>false
def vC:TypeDesc→Bool
 |.slice _=>true
 |_=>false
def UI:AV→Bool
 |.p (.str _)=>true
 |_=>false
def ziX(P:Program)(T:TypeId)(x:AV):PR:=
 match ty P T,zhY x with
 |some D,some n=>if vH D.desc || vC D.desc then
   (vH D.desc=UI x,.p (.int .i64 n))else bad
 |_,_=>bad
theorem zeO {g:Gh} {w:World} {x:AV} {n:Int} {v:Value}(h:zhY x=some n)(r:zd g w x v)(hs:UI x=false):
  ∃base len cap,v=.slice base len cap∧n=len:=by
 unfold zhY at h
 split at h<;>simp only[Option.some.injEq,reduceCtorEq]at h
 ·cases hs
 ·simp only[zd]at r
  obtain⟨base,cap,e,_⟩:=yb r
  exact⟨base,_,cap,e,h.symm⟩
 ·simp only[zd]at r
  obtain⟨base,cap,e,_⟩:=yb r.1
  exact⟨base,_,cap,e,h.symm⟩
 ·simp only[zd]at r
  obtain⟨b,o',cap,_,e,_⟩:=r
  exact⟨_,_,cap,e,h.symm⟩
 ·simp only[zd,zk]at r
  exact⟨none,0,0,r,h.symm⟩
theorem zeh {P:Program} {T tt:TypeId} {x:AV} {g:Gh} {w:World} {v:Value} {ts:Array TypeId} {args:Array Value}(h0:ts[0]?=some T)(ha:args[0]?=some v)(h:(ziX P T x).1)(r:zd g w x v):
  ∃u,(Builtin.len_ ts tt args).run P w=.ok u w∧zd g w (ziX P T x).2 u:=by
 unfold ziX at h⊢
 cases hT:ty P T with
 |none=>simp only[hT]at h;exact h.elim
 |some D=>
  have hu:=zw w hT
  cases hl:zhY x with
  |none=>simp only[hT,hl]at h;exact h.elim
  |some n=>
   simp only[hT,hl]at h⊢
   split at h
   ·rename_i hd
    simp only[hd,if_true]
    refine⟨.int .i64 n,?_,by show zd g w (.p (.int .i64 n)) _;simp only[zd,zk]⟩
    by_cases hs:UI x=true
    ·have hx:∃s,x=.p (.str s):=by
      unfold UI at hs;split at hs
      ·exact⟨_,rfl⟩
      ·cases hs
     obtain⟨s,rfl⟩:=hx
     simp only[zhY,Option.some.injEq]at hl
     simp only[zd,zk]at r
     subst r;subst hl
     rw[hs]at h
     have hD:D.desc=.string:=by cases hq:D.desc<;>simp[hq,vH]at h;rfl
     rw[hD]at hu
     unfold Builtin.len_
     simp only[h0,ha]
     have hsz:(⟨s.toArray⟩:ByteArray).size=s.length:=by simp[ByteArray.size]
     simp only[Sem.run_bind,hu,Result.andThen_ok,Sem.run_pure,goInt,hsz]
    ·have hs':UI x=false:=by simpa using hs
     obtain⟨base,len,cap,rfl,rfl⟩:=zeO hl r hs'
     rw[hs']at h
     have hD:∃e,D.desc=.slice e:=by
      cases hq:D.desc<;>simp[hq,vH,vC]at hd h
      exact⟨_,rfl⟩
     obtain⟨e,hD⟩:=hD
     rw[hD]at hu
     unfold Builtin.len_
     simp only[h0,ha]
     simp[hu,goInt]
   ·exact h.elim
def uk(isMax:Bool)(x y:AV):PR:=
 match x,y with
 |.p (.int k a),.p (.int k' b)=>(k=k',.p (.int k (if isMax then max a b else min a b)))
 |_,_=>bad
theorem uY {P:Program} {isMax:Bool} {x y:AV} {g:Gh} {w:World} {u v:Value} {ts:Array TypeId} {tt:TypeId}(h:(uk isMax x y).1)(hx:zd g w x u)(hy:zd g w y v):
  ∃r,(if isMax then Builtin.max_ ts tt #[u,v]else Builtin.min_ ts tt #[u,v]).run P w=.ok r w∧zd g w (uk isMax x y).2 r:=by
 unfold uk at h⊢
 split at h
 ·rename_i k a k' b
  simp only[zd,zk]at hx hy
  subst hx;subst hy
  simp only[]at h;subst h
  cases isMax
  ·refine⟨_,?_,by simp only[zd,zk];rfl⟩
   simp[Builtin.min_,Builtin.min2]
   by_cases e:b<a
   ·rw[if_pos e];omega
   ·rw[if_neg e];omega
  ·refine⟨_,?_,by simp only[zd,zk];rfl⟩
   simp[Builtin.max_,Builtin.max2]
   by_cases e:a<b
   ·rw[if_pos e];omega
   ·rw[if_neg e];omega
 ·exact h.elim
def zch(c x y:AV):PR:=
 match c with
 |.p (.bool b)=>
  match(unG x).2,(unG y).2 with
  |.p (.bool p),.p (.bool q)=>((b=true→(unG x).1)∧(b=false→(unG y).1),.p (.bool (cond b p q)))
  |.p (.bool p),_=>(b=true∧(unG x).1,.p (.bool p))
  |_,.p (.bool q)=>(b=false∧(unG y).1,.p (.bool q))
  |_,_=>bad
 |_=>bad
theorem zcr {P:Program} {c x y:AV} {g:Gh} {w:World} {vc vx vy:Value}(h:(zch c x y).1)(hc:zd g w c vc)(hx:zd g w x vx)(hy:zd g w y vy):
  ∃r,(do pure (Next.value (if←asBool vc then vx else vy)):Sem Next).run P w=.ok (.value r) w∧zd g w (zch c x y).2 r:=by
 unfold zch at h⊢
 split at h
 ·rename_i b
  split at h
  ·rename_i p q h1 h2
   simp only[zd,zk]at hc
   subst hc
   simp only[]at h
   cases b
   ·have:=zA (h.2 rfl) hy
    rw[h2]at this
    exact⟨vy,by simp[asBool],by simpa[zd,zk]using this⟩
   ·have:=zA (h.1 rfl) hx
    rw[h1]at this
    exact⟨vx,by simp[asBool],by simpa[zd,zk]using this⟩
  ·rename_i p h1 h2
   simp only[zd,zk]at hc
   subst hc
   obtain⟨rfl,h⟩:=h
   have:=zA h hx
   rw[h1]at this
   exact⟨vx,by simp[asBool],by simpa[zd,zk]using this⟩
  ·rename_i q h1 h2
   simp only[zd,zk]at hc
   subst hc
   obtain⟨rfl,h⟩:=h
   have:=zA h hy
   rw[h1]at this
   exact⟨vy,by simp[asBool],by simpa[zd,zk]using this⟩
  ·exact h.elim
 ·exact h.elim
def UW(x:AV):PR:=
 match x with
 |.lp t o=>(True,.lp t o)
 |.ip z e o=>(True,.ip z e o)
 |.p (.pt z e)=>(True,.ip z e 0)
 |.p (.opq (.func (.func f) a b))=>(True,.p (.opq (.func (.func f) a b)))
 |_=>bad
def unA(op:UnOp)(x:AV):PR:=
 match op,x with
 |.not,.p (.bool b)=>(True,.p (.bool (!b)))
 |.neg,.p (.int k n)=>(True,.p (.int k (k.wrap (0-n))))
 |.xor,.p (.int k n)=>(True,.p (vE .xor k (if k.signed then -1 else k.max) n).2)
 |_,_=>bad
theorem zhu {P:Program} {op:UnOp} {x:AV} {g:Gh} {w:World} {v:Value}(h:(unA op x).1)(r:zd g w x v):
  ∃u,(Op.unary op v).run P w=.ok u w∧zd g w (unA op x).2 u:=by
 unfold unA at h⊢
 split at h
 ·simp only[zd,zk]at r;subst r;exact⟨_,rfl,by simp only[zd,zk]⟩
 ·simp only[zd,zk]at r;subst r;exact⟨_,rfl,by simp only[zd,zk]⟩
 ·rename_i k n
  simp only[zd,zk]at r;subst r
  refine⟨_,rfl,?_⟩
  simp only[zd,vE,zk]
 ·exact h.elim
def za6:TypeDesc→Option IntKind
 |.int k=>some k
 |_=>none
def ko:List PV→Option (List UInt8)
 | []=>some []
 |.int .u8 n::l=>(ko l).map (UInt8.ofNat n.toNat::·)
 |_=>none
def VS(P:Program)(S D:TypeDesc)(es:List PV):PR:=
 match S,ko es with
 |.slice e,some t=>match ty P e with
  |some E=>(E.desc=.int .u8∧es≠ []∧D=.string,.p (.str t))
  |none=>bad
 |_,_=>bad
theorem Vf {fr:Nat→Nat} {w:World} {b:Nat}:∀{es:List PV} {t:List UInt8} {o:Nat},ko es=some t→qD fr w 1 b es o→
  ∃ns:List Int,ns.length=es.length∧(∀s:ByteArray,(ns.foldl (fun r n=>r.push (UInt8.ofNat n.toNat)) s).data.toList=s.data.toList++t)∧∀(j:Nat) (v:Value),(ns.map (Value.int .u8))[j]?=some v→w.cell? ⟨b,o+j,none⟩=some v
 | [],t,o,h,_=>by
  simp only[ko,Option.some.injEq]at h;subst h
  exact⟨[],rfl,fun s=>by simp,fun j v hj=>by simp at hj⟩
 |e::es,t,o,h,r=>by
  cases e with
  |int k n=>
   cases k with
   |u8=>
    simp only[ko,Option.map_eq_some_iff]at h
    obtain⟨t',h,rfl⟩:=h
    simp only[qD,zk]at r
    obtain⟨⟨v,rfl,_,h3⟩,h4⟩:=r
    obtain⟨ns,k1,k2,k3⟩:=Vf h h4
    refine⟨n::ns,by simp[k1],fun s=>?_,fun j v hj=>?_⟩
    ·rw[List.foldl_cons,k2];simp
    ·cases j with
     |zero=>
      simp at hj;subst hj
      exact(h3 0 _ rfl).2
     |succ j=>
      have:=k3 j v (by simpa using hj)
      rwa[show o+1+j=o+(j+1)from by omega]at this
   |_=>simp[ko]at h
  |_=>simp[ko]at h
theorem Kp {P:Program} {s d:TypeId} {S D:Ty}(hS:ty P s=some S)(hD:ty P d=some D) {es:List PV} {g:Gh} {w:World} {v:Value}(h:(VS P S.desc D.desc es).1)(r:zk g.fr w (.sl 1 es) v):
  ∃u,(convert s d v).run P w=.ok u w∧zd g w (VS P S.desc D.desc es).2 u:=by
 unfold VS at h⊢
 split at h
 ·rename_i e t hs ht
  split at h
  ·rename_i E hE
   obtain⟨h1,h2,h3⟩:=h
   simp only[zk]at r
   rcases r with ⟨e0,_⟩|⟨b,o,cap,rfl,_,_,he⟩
   ·exact absurd e0 h2
   ·obtain⟨ns,k1,k2,k3⟩:=Vf ht he
    have hs':P.underlying s=some S.desc:=(Zd hS).choose_spec.2.1
    have hd':P.underlying d=some D.desc:=(Zd hD).choose_spec.2.1
    have he':P.underlying e=some E.desc:=(Zd hE).choose_spec.2.1
    rw[hs]at hs';rw[h3]at hd';rw[h1]at he'
    have hl:(loadCells ⟨b,o,none⟩ es.length).run P w=.ok (ns.map (Value.int .u8)).toArray w:=by
     have:=run_loadCells_list (P:=P) w ⟨b,o,none⟩ (ns.map (Value.int .u8)) (fun j v hj=>by rw[qy];exact k3 j v hj)
     simpa[k1]using this
    refine⟨_,(run_convert_bytes_string w s d e _ _ _ hs' he' hd').trans (run_bytesToString w _ _ _ ns hl),?_⟩
    simp only[zd,zk]
    congr 1
    have:=k2 ByteArray.empty
    apply ByteArray.ext
    apply Array.toList_inj.1
    simpa using this
  ·exact h.elim
 ·exact h.elim
def zcX(P:Program)(s d:TypeId)(x:AV):PR:=
 match ty P s,ty P d,x with
 |some _,some D,.p (.int _ n)=>match za6 D.desc with
  |some k=>(True,.p (.int k (k.wrap n)))
  |none=>bad
 |some _,some D,.p (.str t)=>if vH D.desc then(True,.p (.str t))else bad
 |some S,some D,.p (.sl 1 es)=>VS P S.desc D.desc es
 |some S,some D,.os _ 1 es=>VS P S.desc D.desc es
 |_,_,_=>bad
theorem zdS {P:Program} {s d:TypeId} {x:AV} {g:Gh} {w:World} {v:Value}(h:(zcX P s d x).1)(r:zd g w x v):
  ∃u,(convert s d v).run P w=.ok u w∧zd g w (zcX P s d x).2 u:=by
 unfold zcX at h⊢
 split at h
 ·rename_i S D k0 n hS hD
  have hs:=zw w hS
  have hd:=zw w hD
  simp only[zd,zk]at r;subst r
  cases hk:za6 D.desc with
  |none=>simp only[hk]at h;exact h.elim
  |some k=>
   simp only
   have hq:D.desc=.int k:=by cases hq:D.desc<;>simp[hq,za6]at hk;rw[hk]
   rw[hq]at hd
   refine⟨.int k (k.wrap n),?_,by simp only[zd,zk]⟩
   unfold convert
   rw[Sem.run_bind,hs,Result.andThen_ok,Sem.run_bind,hd,Result.andThen_ok]
   cases S.desc<;>rfl
 ·rename_i S D t hS hD
  have hs:=zw w hS
  have hd:=zw w hD
  simp only[zd,zk]at r;subst r
  split at h
  ·rename_i hk
   simp only[hk,if_true]
   have hq:D.desc=.string:=by cases hq:D.desc<;>simp[hq,vH]at hk;rfl
   rw[hq]at hd
   refine⟨_,?_,by simp only[zd,zk];rfl⟩
   unfold convert
   rw[Sem.run_bind,hs,Result.andThen_ok,Sem.run_bind,hd,Result.andThen_ok]
   cases S.desc<;>rfl
  ·exact h.elim
 ·rename_i S D es hS hD
  simp only[zd]at r
  exact Kp hS hD h r
 ·rename_i S D t es hS hD
  simp only[zd]at r
  exact Kp hS hD h r.1
 ·exact h.elim
end Go.AM
end
section
namespace Go.AM
inductive Kc where
 |b
 |i (k:IntKind)
 |s
def okC:List Kc→List PV→Bool
 | [],[]=>true
 |.b::ks,.bool _::xs=>okC ks xs
 |.i k::ks,.int k' _::xs=>decide (k'=k)&&okC ks xs
 |.s::ks,.str _::xs=>okC ks xs
 |_,_=>false
def eqC:List PV→List PV→Bool
 |.bool a::xs,.bool b::ys=>(a==b)&&eqC xs ys
 |.int _ a::xs,.int _ b::ys=>decide (a=b)&&eqC xs ys
 |.str a::xs,.str b::ys=>decide (a=b)&&eqC xs ys
 |_,_=>true
theorem Zy:∀{ks:List Kc} {xs:List PV},okC ks xs=true→xs.length=ks.length
 | [],[],_=>rfl
 | [],_::_,h=>by simp[okC]at h
 |.b::ks,[],h=>by simp[okC]at h
 |.i _::ks,[],h=>by simp[okC]at h
 |.s::ks,[],h=>by simp[okC]at h
 |.b::ks,x::xs,h=>by
  cases x<;>simp[okC]at h
  simp[Zy h]
 |.i k::ks,x::xs,h=>by
  cases x<;>simp[okC]at h
  simp[Zy h.2]
 |.s::ks,x::xs,h=>by
  cases x<;>simp[okC]at h
  simp[Zy h]
theorem yw:∀{k1 k2:List Kc} {xs:List PV},okC (k1++k2) xs=true→okC k1 (xs.take k1.length)=true∧okC k2 (xs.drop k1.length)=true
 | [],k2,xs,h=>by simpa[okC]using h
 |k::k1,k2,[],h=>by cases k<;>simp[okC]at h
 |.b::k1,k2,x::xs,h=>by
  cases x<;>simp[okC]at h
  simpa[okC]using yw h
 |.i _::k1,k2,x::xs,h=>by
  cases x<;>simp[okC]at h
  have:=yw h.2
  simpa[okC,h.1]using this
 |.s::k1,k2,x::xs,h=>by
  cases x<;>simp[okC]at h
  simpa[okC]using yw h
theorem W9:∀{ks:List Kc} {x1 y1 x2 y2:List PV},okC ks x1=true→okC ks y1=true→eqC (x1++x2) (y1++y2)=(eqC x1 y1&&eqC x2 y2)
 | [],[],[],x2,y2,_,_=>by simp[eqC]
 | [],_::_,_,_,_,h,_=>by simp[okC]at h
 | [],[],_::_,_,_,_,h=>by simp[okC]at h
 |.b::ks,[],_,_,_,h,_=>by simp[okC]at h
 |.i _::ks,[],_,_,_,h,_=>by simp[okC]at h
 |.s::ks,[],_,_,_,h,_=>by simp[okC]at h
 |.b::ks,_::_,[],_,_,_,h=>by simp[okC]at h
 |.i _::ks,_::_,[],_,_,_,h=>by simp[okC]at h
 |.s::ks,_::_,[],_,_,_,h=>by simp[okC]at h
 |.b::ks,x::xs,y::ys,x2,y2,h,k=>by
  cases x<;>simp[okC]at h
  cases y<;>simp[okC]at k
  simp only[List.cons_append,eqC,W9 h k,Bool.and_assoc]
 |.i _::ks,x::xs,y::ys,x2,y2,h,k=>by
  cases x<;>simp[okC]at h
  cases y<;>simp[okC]at k
  simp only[List.cons_append,eqC,W9 h.2 k.2,Bool.and_assoc]
 |.s::ks,x::xs,y::ys,x2,y2,h,k=>by
  cases x<;>simp[okC]at h
  cases y<;>simp[okC]at k
  simp only[List.cons_append,eqC,W9 h k,Bool.and_assoc]
def UX(P:Program)(rec:TypeId→Option (List Kc)):List Field→Nat→Option (List Kc)
 | [],_=>some []
 |f::fs,o=>
  match rec f.type,ty P f.type with
  |some a,some T=>
   if f.name≠ "_" ∧f.offset=o∧T.size=a.length∧(qv T.desc || a.length==1)=true then(UX P rec fs (o+a.length)).map (a++·)else none
  |_,_=>none
def ZQ(P:Program):Nat→TypeId→Option (List Kc)
 |0,_=>none
 |d+1,t=>
  match P.underlying t with
  |some .bool=>some [.b]
  |some (.int k)=>some [.i k]
  |some .string=>some [.s]
  |some (.struct fs)=>if P.stoodInHeld t then none else UX P (ZQ P d) fs.toList 0
  |some (.array n e)=>
   match ZQ P d e,ty P e with
   |some a,some T=>if T.size=a.length∧(qv T.desc || a.length==1)=true then some (List.replicate n a).flatten else none
   |_,_=>none
  |_=>none
def ke(P:Program)(t:TypeId):Option (List Kc):=if P.eqGuardType P.depth t then none else match P.underlying t with
 |some (.struct _)=>ZQ P 8 t
 |some (.array _ _)=>ZQ P 8 t
 |_=>none
def kI(P:Program)(t:TypeId)(v:Value)(cs:List Value):Prop:=∀T,ty P t=some T→if qv T.desc then v=.agg cs.toArray else cs=[v]
section
variable {P:Program} {fr:Nat→Nat} {w:World}
theorem wq {t:TypeId} {T:Ty}(hT:ty P t=some T) {a:List Kc}(hs:T.size=a.length)(h1':(qv T.desc || a.length==1)=true) {z:Array Value} {zs:List PV} {o:Nat}(hz:okC a (zs.take a.length)=true)(rz:zG fr w zs (z.toList.drop o)):
  ∃p,(part t z o).run P w=.ok p w∧kI P t p ((z.toList.drop o).take a.length):=by
 have hlz:=Zy hz
 unfold part
 rw[Sem.run_bind,wy w hT]
 cases hA:qv T.desc with
 |true=>
  refine⟨.agg (z.extract o (o+T.size)),by simp[qE w hT],?_⟩
  intro T' hT'
  rw[hT]at hT';injection hT' with hT';subst hT'
  rw[if_pos hA,hs]
  congr 1
  apply Array.ext'
  simp
 |false=>
  have h1:a.length=1:=by simpa[hA]using h1'
  rw[h1]at hlz⊢
  have hl1:0<zs.length:=by
   rw[List.length_take]at hlz
   omega
  obtain⟨c,hc,_⟩:=rz.get (i:=0) (x:=zs[0]) (List.getElem?_eq_getElem hl1)
  have hc':z[o]?=some c:=by simpa using hc
  refine⟨c,by simp[hc'],?_⟩
  intro T' hT'
  rw[hT]at hT';injection hT' with hT';subst hT'
  rw[if_neg (by simp[hA])]
  cases hd:z.toList.drop o with
  |nil=>rw[hd]at hc;simp at hc
  |cons e es=>
   rw[hd]at hc
   simp at hc
   subst hc
   simp
theorem Kl {d:Nat} {e:TypeId} {a:List Kc} {T:Ty}(hT:ty P e=some T)(hs:T.size=a.length)(h1':(qv T.desc || a.length==1)=true) {u v:Array Value}
  (hrec:∀(xs ys:List PV) (p q:Value) (cs ds:List Value),okC a xs=true→okC a ys=true→zG fr w xs cs→zG fr w ys ds→kI P e p cs→kI P e q ds→(Op.equalIn d e p q).run P w=.ok (eqC xs ys) w):
  ∀(m k:Nat) (xs ys:List PV),okC (List.replicate m a).flatten xs=true→okC (List.replicate m a).flatten ys=true→zG fr w xs (u.toList.drop (k*a.length))→zG fr w ys (v.toList.drop (k*a.length))→
   (Op.eqItems d e a.length u v (List.range' k m)).run P w=.ok (eqC xs ys) w
 |0,k,xs,ys,hx,hy,_,_=>by
  have h1:=Zy hx
  have hx0:xs=[]:=List.eq_nil_of_length_eq_zero (by simpa using h1)
  subst hx0
  simp[Op.eqItems,eqC]
 |m+1,k,xs,ys,hx,hy,rx,ry=>by
  rw[List.replicate_succ,List.flatten_cons]at hx hy
  obtain⟨x1,x2⟩:=yw hx
  obtain⟨y1,y2⟩:=yw hy
  obtain⟨p,hp,sp⟩:=wq hT hs h1' x1 rx
  obtain⟨q,hq,sq⟩:=wq hT hs h1' y1 ry
  have e1:=hrec _ _ p q _ _ x1 y1 (rx.take _) (ry.take _) sp sq
  have hk:(k+1)*a.length=k*a.length+a.length:=by rw[Nat.add_mul];omega
  have e2:=Kl hT hs h1' hrec m (k+1) (xs.drop a.length) (ys.drop a.length) x2 y2 (by rw[hk];simpa[List.drop_drop]using rx.drop a.length) (by rw[hk];simpa[List.drop_drop]using ry.drop a.length)
  have e3:eqC xs ys=(eqC (xs.take a.length) (ys.take a.length)&&eqC (xs.drop a.length) (ys.drop a.length)):=by
   rw[←W9 x1 y1,List.take_append_drop,List.take_append_drop]
  rw[List.range'_succ,e3]
  simp only[Op.eqItems,Sem.run_bind,hp,hq,e1,Result.andThen_ok]
  cases eqC (xs.take a.length) (ys.take a.length)
  ·simp
  ·simpa using e2
theorem VW {d:Nat} {rec:TypeId→Option (List Kc)} {u v:Array Value}
  (hrec:∀(t:TypeId) (ks:List Kc) (xs ys:List PV) (a b:Value) (cs ds:List Value),rec t=some ks→okC ks xs=true→okC ks ys=true→zG fr w xs cs→zG fr w ys ds→kI P t a cs→kI P t b ds→
   (Op.equalIn d t a b).run P w=.ok (eqC xs ys) w):
  ∀{fs:List Field} {o:Nat} {ks:List Kc} {xs ys:List PV},UX P rec fs o=some ks→okC ks xs=true→okC ks ys=true→zG fr w xs (u.toList.drop o)→zG fr w ys (v.toList.drop o)→
   (Op.eqFields d u v fs).run P w=.ok (eqC xs ys) w
 | [],o,ks,xs,ys,hk,hx,hy,_,_=>by
  simp only[UX,Option.some.injEq]at hk
  subst hk
  have:=Zy hx
  have h2:=Zy hy
  have hx0:xs=[]:=List.eq_nil_of_length_eq_zero (by simpa using this)
  subst hx0
  simp[Op.eqFields,eqC]
 |f::fs,o,ks,xs,ys,hk,hx,hy,rx,ry=>by
  unfold UX at hk
  split at hk
  ·rename_i a T ha hT
   split at hk
   ·rename_i hc
    obtain⟨hn,ho,hs,h1'⟩:=hc
    simp only[Option.map_eq_some_iff]at hk
    obtain⟨b,hb,rfl⟩:=hk
    obtain⟨x1,x2⟩:=yw hx
    obtain⟨y1,y2⟩:=yw hy
    have part1:∀(z:Array Value) (zs:List PV),okC a (zs.take a.length)=true→zG fr w zs (z.toList.drop o)→∃p,(part f.type z f.offset).run P w=.ok p w∧kI P f.type p ((z.toList.drop o).take a.length):=by
     intro z zs hz rz
     rw[ho]
     have hlz:=Zy hz
     have hlen:=zG.length rz
     unfold part
     rw[Sem.run_bind,wy w hT]
     cases hA:qv T.desc with
     |true=>
      refine⟨.agg (z.extract o (o+T.size)),by simp[qE w hT],?_⟩
      intro T' hT'
      rw[hT]at hT';injection hT' with hT';subst hT'
      rw[if_pos hA,hs]
      congr 1
      apply Array.ext'
      simp
     |false=>
      have h1:a.length=1:=by simpa[hA]using h1'
      rw[h1]at hlz⊢
      have hl1:0<zs.length:=by
       rw[List.length_take]at hlz
       have:[].length=0:=(rfl:([]:List Nat).length=0)
       omega
      obtain⟨c,hc,_⟩:=rz.get (i:=0) (x:=zs[0]) (List.getElem?_eq_getElem hl1)
      have hc':z[o]?=some c:=by simpa using hc
      refine⟨c,by simp[hc'],?_⟩
      intro T' hT'
      rw[hT]at hT';injection hT' with hT';subst hT'
      rw[if_neg (by simp[hA])]
      cases hd:z.toList.drop o with
      |nil=>rw[hd]at hc;simp at hc
      |cons e es=>
       rw[hd]at hc
       simp at hc
       subst hc
       simp
    obtain⟨p,hp,sp⟩:=part1 u xs x1 rx
    obtain⟨q,hq,sq⟩:=part1 v ys y1 ry
    have e1:=hrec f.type a _ _ p q _ _ ha x1 y1 (rx.take _) (ry.take _) sp sq
    have hxs:xs=xs.take a.length++xs.drop a.length:=(List.take_append_drop _ _).symm
    have hys:ys=ys.take a.length++ys.drop a.length:=(List.take_append_drop _ _).symm
    have e2:=VW hrec (u:=u) (v:=v) hb x2 y2 (by simpa[List.drop_drop]using rx.drop a.length) (by simpa[List.drop_drop]using ry.drop a.length)
    unfold Op.eqFields
    rw[if_pos hn]
    simp only[Sem.run_bind,hp,hq,e1,Result.andThen_ok]
    have e3:eqC xs ys=(eqC (xs.take a.length) (ys.take a.length)&&eqC (xs.drop a.length) (ys.drop a.length)):=by
     rw[←W9 x1 y1,←hxs,←hys]
    rw[e3]
    cases eqC (xs.take a.length) (ys.take a.length)
    ·simp
    ·simpa using e2
   ·cases hk
  ·cases hk
theorem KS {α:Type}[BEq α][LawfulBEq α][DecidableEq α](p q:α):(p==q)=decide (p=q):=by by_cases e:p=q<;>simp[e]
theorem Vu : ∀ (d m : Nat) (t : TypeId) (ks : List Kc) (xs ys : List PV) (a b : Value) (cs ds : List Value), ZQ P m t = some ks → okC ks xs = true → okC ks ys = true → zG fr w xs cs → zG fr w ys ds → kI P t a cs → kI P t b ds →
      (Op.equalIn (d + m) t a b).run P w = .ok (eqC xs ys) w
  | d, 0, t, ks, xs, ys, a, b, cs, ds, hk, _, _, _, _, _, _ => by simp [ZQ] at hk
  | d, m + 1, t, ks, xs, ys, a, b, cs, ds, hk, hx, hy, rx, ry, sa, sb => by
    unfold ZQ at hk
    have one : ∀ {T : TypeDesc} {v : Value} {zs : List Value}, P.underlying t = some T → qv T = false → kI P t v zs → zs = [v] ∨ P.info? t = none := by
      intro T v zs hu hA sv
      cases hi : P.info? t with
      | none => exact .inr rfl
      | some i =>
        left
        have := sv ⟨T, i.size, i.bytes, i.zero.map fun v => v.cells.toList.map yz⟩ (by simp [ty, hi, hu])
        simpa [hA] using this
    have noinfo : ∀ {T : TypeDesc}, P.underlying t = some T → P.info? t ≠ none := fun hu hi => by
      obtain ⟨i, hi'⟩ := info_of_underlying hu
      rw [hi] at hi'; cases hi'
    split at hk
    · rename_i hu
      injection hk with hk; subst hk
      have ea := (one hu rfl sa).resolve_right (noinfo hu)
      have eb := (one hu rfl sb).resolve_right (noinfo hu)
      subst ea; subst eb
      match xs, ys, hx, hy with
      | [x], [y], hx, hy =>
        cases x <;> simp [okC] at hx
        cases y <;> simp [okC] at hy
        simp only [zG, zk] at rx ry
        obtain ⟨_, _, e, _, rfl, _⟩ := rx
        injection e with e _; subst e
        obtain ⟨_, _, e, _, rfl, _⟩ := ry
        injection e with e _; subst e
        rw [show d + (m + 1) = (d + m) + 1 from rfl, run_equalIn_bool' w (d + m) t _ _ hu]
        simp [eqC]
      | [], _, hx, _ => simp [okC] at hx
      | _, [], _, hy => simp [okC] at hy
      | x :: _ :: _, _, hx, _ => cases x <;> simp [okC] at hx
      | _, y :: _ :: _, _, hy => cases y <;> simp [okC] at hy
    · rename_i k hu
      injection hk with hk; subst hk
      have ea := (one hu rfl sa).resolve_right (noinfo hu)
      have eb := (one hu rfl sb).resolve_right (noinfo hu)
      subst ea; subst eb
      match xs, ys, hx, hy with
      | [x], [y], hx, hy =>
        cases x <;> simp [okC] at hx
        cases y <;> simp [okC] at hy
        subst hx; subst hy
        simp only [zG, zk] at rx ry
        obtain ⟨_, _, e, _, rfl, _⟩ := rx
        injection e with e _; subst e
        obtain ⟨_, _, e, _, rfl, _⟩ := ry
        injection e with e _; subst e
        rw [show d + (m + 1) = (d + m) + 1 from rfl, run_equalIn_int w (d + m) t _ _ _ _ hu]
        rw [KS]
        simp [eqC]
      | [], _, hx, _ => simp [okC] at hx
      | _, [], _, hy => simp [okC] at hy
      | x :: _ :: _, _, hx, _ => cases x <;> simp [okC] at hx
      | _, y :: _ :: _, _, hy => cases y <;> simp [okC] at hy
    · rename_i hu
      injection hk with hk; subst hk
      have ea := (one hu rfl sa).resolve_right (noinfo hu)
      have eb := (one hu rfl sb).resolve_right (noinfo hu)
      subst ea; subst eb
      match xs, ys, hx, hy with
      | [x], [y], hx, hy =>
        cases x <;> simp [okC] at hx
        cases y <;> simp [okC] at hy
        simp only [zG, zk] at rx ry
        obtain ⟨_, _, e, _, rfl, _⟩ := rx
        injection e with e _; subst e
        obtain ⟨_, _, e, _, rfl, _⟩ := ry
        injection e with e _; subst e
        rw [show d + (m + 1) = (d + m) + 1 from rfl, run_equalIn_string w (d + m) t _ _ hu]
        rw [KS]
        simp [eqC, ByteArray.toList_eq]
      | [], _, hx, _ => simp [okC] at hx
      | _, [], _, hy => simp [okC] at hy
      | x :: _ :: _, _, hx, _ => cases x <;> simp [okC] at hx
      | _, y :: _ :: _, _, hy => cases y <;> simp [okC] at hy
    · rename_i fs hu
      split at hk
      · cases hk
      · rename_i hs
        obtain ⟨i, hi⟩ := info_of_underlying hu
        have ea := sa ⟨.struct fs, i.size, i.bytes, i.zero.map fun v => v.cells.toList.map yz⟩ (by simp [ty, hi, hu])
        have eb := sb ⟨.struct fs, i.size, i.bytes, i.zero.map fun v => v.cells.toList.map yz⟩ (by simp [ty, hi, hu])
        simp only [qv, if_true] at ea eb
        subst ea; subst eb
        have hfs : P.fieldsOf t = fs := by simp [Program.fieldsOf, hu]
        rw [show d + (m + 1) = (d + m) + 1 from rfl, run_equalIn_struct w (d + m) t _ _ (by rw [hfs]; exact hu) (by simpa using hs), hfs]
        exact VW (fun t ks xs ys a b cs ds h1 h2 h3 h4 h5 h6 h7 => Vu d m t ks xs ys a b cs ds h1 h2 h3 h4 h5 h6 h7) hk hx hy (by simpa using rx) (by simpa using ry)
    · rename_i n e hu
      split at hk
      · rename_i al T hal hT
        split at hk
        · rename_i hc
          injection hk with hk; subst hk
          obtain ⟨i, hi⟩ := info_of_underlying hu
          have ea := sa ⟨.array n e, i.size, i.bytes, i.zero.map fun v => v.cells.toList.map yz⟩ (by simp [ty, hi, hu])
          have eb := sb ⟨.array n e, i.size, i.bytes, i.zero.map fun v => v.cells.toList.map yz⟩ (by simp [ty, hi, hu])
          simp only [qv, if_true] at ea eb
          subst ea; subst eb
          obtain ⟨ie, he1, _, he3, _⟩ := Zd hT
          have hce : P.cellsOf e = al.length := by rw [← hc.1, ← he3]; simp [Program.cellsOf, he1]
          rw [show d + (m + 1) = (d + m) + 1 from rfl, run_equalIn_array w (d + m) _ _ hu he1, hce, List.range_eq_range']
          exact Kl hT hc.1 hc.2 (fun xs ys p q cs ds h2 h3 h4 h5 h6 h7 => Vu d m e al xs ys p q cs ds hal h2 h3 h4 h5 h6 h7) n 0 xs ys hx hy (by simpa using rx) (by simpa using ry)
        · cases hk
      · cases hk
    · cases hk
end
def zjR(P:Program)(op:BinOp)(t:TypeId)(xs ys:List PV):PR:=
 match ke P t with
 |some ks=>
  match op with
  |.eql=>((okC ks xs=true∧okC ks ys=true),.p (.bool (eqC xs ys)))
  |.neq=>((okC ks xs=true∧okC ks ys=true),.p (.bool (!eqC xs ys)))
  |_=>bad
 |none=>bad
def zjC(P:Program)(op:BinOp)(t:TypeId)(x y:AV):PR:=
 match x,y with
 |.p (.agg xs),.p (.agg ys)=>zjR P op t xs ys
 |x,y=>zhn P op t x y
theorem zfb {P : Program} {op : BinOp} {t : TypeId} {x y : AV} {g : Gh} {w : World} {u v : Value} (xo yo : Operand) (h : (zjC P op t x y).1)
    (hx : zd g w x u) (hy : zd g w y v) :
    ∃ r, (do eqGuard op t xo yo u v; binOp op t u v : Sem Value).run P w = .ok r w ∧ zd g w (zjC P op t x y).2 r := by
  unfold zjC at h ⊢
  split at h
  · rename_i xs ys
    simp only [zd, zk] at hx hy
    obtain ⟨p, rfl, rx⟩ := hx
    obtain ⟨q, rfl, ry⟩ := hy
    unfold zjR at h ⊢
    cases hk : ke P t with
    | none => rw [hk] at h; exact h.elim
    | some ks =>
      rw [hk] at h
      simp only [] at h ⊢
      unfold ke at hk
      split at hk
      · cases hk
      · rename_i hg
        cases hu : P.underlying t with
        | none => rw [hu] at hk; cases hk
        | some T =>
        rw [hu] at hk
        have hagg : qv T = true := by cases T <;> first | rfl | (simp only [reduceCtorEq] at hk)
        have hk : ZQ P 8 t = some ks := by cases T <;> first | exact hk | (simp only [reduceCtorEq] at hk)
        have st : ∀ (z : Array Value), kI P t (.agg z) z.toList := by
          intro z T' hT
          obtain ⟨i, _, h2, _⟩ := Zd hT
          rw [h2] at hu
          injection hu with hu
          rw [hu, if_pos hagg]
        have eqn : (eqGuard op t xo yo (.agg p) (.agg q)).run P w = .ok () w := run_eqGuard_agg w op t xo yo p q (by simpa using hg)
        have run : okC ks xs = true → okC ks ys = true → (Op.equalIn 10000 t (.agg p) (.agg q)).run P w = .ok (eqC xs ys) w := fun h1 h2 =>
          Vu 9992 8 t ks xs ys (.agg p) (.agg q) p.toList q.toList hk h1 h2 rx ry (st p) (st q)
        cases op <;> simp only [] at h ⊢ <;> first
          | exact h.elim
          | (refine ⟨_, ?_, by simp only [zd, zk]; rfl⟩
             rw [Sem.run_bind, eqn]
             simp only [Result.andThen_ok]
             rw [run_eql_struct, run h.1 h.2]
             rfl)
          | (refine ⟨_, ?_, by simp only [zd, zk]; rfl⟩
             rw [Sem.run_bind, eqn]
             simp only [Result.andThen_ok]
             rw [run_neq_struct, run h.1 h.2]
             rfl)
  · exact zd2 xo yo h hx hy
end Go.AM
end
