/- A part of the proof of this seat's statements, by an abstract machine: what each operation does to values, and what the law's functions compute. Conditions: as each law says. -/
import Derived.Test.YtjefahhmkcfiiaaGreatM05
section
namespace Go.AM
def optI(S:St):Option Operand→Prop×Option (Option Int)
 |none=>(True,some none)
 |some x=>match(unG (S.ev x)).2 with
  |.p (.int _ n)=>((unG (S.ev x)).1,some (some n))
  |_=>(False,none)
theorem optI_sound [Gi] {E:Ent} {S:St} {g:Gh} {a:Act} {w:World}(hS:SR E S g a w) {x:Option Operand} {b:Option Int}(h:(optI S x).1)(e:(optI S x).2=some b):BndOK b (x.map a.eval):=by
 cases x with
 |none=>simp only[optI,Option.some.injEq]at e;subst e;trivial
 |some x=>
  unfold optI at h e
  simp only[]at h e
  split at h
  ·rename_i k n h1
   simp only[h1,Option.some.injEq]at e
   subst e
   have:=unG_spec h (hS.ev x)
   rw[h1]at this
   simp only[RepA,RepP]at this
   exact⟨k,this⟩
  ·exact h.elim
def isLpA:AV→Option (Tok×Nat)
 |.lp t o=>some (t,o)
 |_=>none
def isArrD:TypeDesc→Option (Nat×TypeId)
 |.array n e=>some (n,e)
 |_=>none
def sliceR(P:Program)(S:St)(T:TypeId)(x:AV)(lo hi mx:Option Int):Option PR:=
 match isLpA x,(ty P T).bind fun T=>isArrD T.desc with
 |some (t,o),some (n,e)=>
  match ty P e,lookT S.rs t with
  |some et,some cs=>some ((0≤lo.getD 0∧lo.getD 0≤hi.getD n∧hi.getD n≤mx.getD n∧mx.getD n≤n∧(mx.isSome=true→hi.isSome=true)∧o+n*et.size≤cs.length),.la t et.size (o+(lo.getD 0).toNat*et.size) ((hi.getD n).toNat- (lo.getD 0).toNat))
  |_,_=>some bad
 |_,_=>none
def sliceB(P:Program)(S:St)(T:TypeId)(x:AV)(lo hi mx:Option Int):PR:=
 match sliceR P S T x lo hi mx with
 |some r=>r
 |none=>sliceV P T x lo hi mx
theorem sliceB_sound [Gi] {P:Program} {E:Ent} {S:St} {g:Gh} {a:Act} {w:World}(hS:SR E S g a w) {T:TypeId} {x:AV} {lo hi mx:Option Int} {vl vh vm:Option Value} {v:Value}(h:(sliceB P S T x lo hi mx).1)(r:RepA g w x v)
  (hl:BndOK lo vl) (hh:BndOK hi vh) (hm:BndOK mx vm):
  ∃u,(Instr.sliceAt T v vl vh vm).run P w=.ok u w∧RepA g w (sliceB P S T x lo hi mx).2 u:=by
 unfold sliceB at h⊢
 cases hR:sliceR P S T x lo hi mx with
 |none=>rw[hR]at h;exact sliceV_sound h r hl hh hm
 |some q=>
  rw[hR]at h
  simp only at h⊢
  unfold sliceR at hR
  split at hR
  ·rename_i t o n e hx hT
   split at hR
   ·rename_i et cs het hcs
    injection hR with hR;subst hR
    obtain⟨h0,h1,h2,h3,h4,h5⟩:=h
    simp only at h0 h1 h2 h3 h4 h5⊢
    simp only[Option.bind_eq_some_iff]at hT
    obtain⟨⟨d,sz,by_,ze⟩,hT,hd⟩:=hT
    unfold isArrD at hd
    split at hd
    ·rename_i n' e' hd'
     injection hd with hd;injection hd with hd1 hd2;subst hd1;subst hd2
     simp only at hd'
     subst hd'
     unfold isLpA at hx
     split at hx
     ·rename_i tk off
      injection hx with hx;injection hx with hx1 hx2;subst hx1;subst hx2
      simp only[RepA]at r⊢
      obtain⟨b,hk,rfl⟩:=r
      have hu:=ty_underlying w hT
      simp only[]at hu
      have hs:=ty_size w het
      have hb:=run_sliceBounds (P:=P) (w:=w) false n' n' lo hi mx vl vh vm hl hh hm h4 h0 h1 (by omega) (by omega)
      obtain⟨cs',hl',_,arr,T0,hbl,hle,_⟩:=hS.roots b _ hk
      rw[hcs]at hl';injection hl' with hl';subst hl'
      generalize hL:(lo.getD 0).toNat=L at hb⊢
      generalize hH:(hi.getD n').toNat=H at hb⊢
      generalize hM:(mx.getD n').toNat=M at hb⊢
      refine⟨.slice (some ⟨b,(if M=L then off else off+L*et.size),none⟩) (H-L) (M-L),?_,b,(if M=L then off else off+L*et.size),M-L,hk,rfl,by omega,?_,?_⟩
      ·unfold Instr.sliceAt
       rw[Sem.run_bind,hu]
       simp only[Result.andThen_ok,Instr.sureAddr,Sem.run_bind,Sem.run_pure,hb,hs]
       congr 2
       by_cases e:M=L<;>simp[e,addr_add]
      ·by_cases e:M=L
       ·left;omega
       ·right;rw[if_neg e]
      ·have hM':M≤n':=by omega
       have hmul:M*et.size≤n'*et.size:=Nat.mul_le_mul_right _ hM'
       by_cases e:M=L
       ·rw[if_pos e,e,Nat.sub_self,Nat.zero_mul]
        exact⟨arr,T0,hbl,by omega⟩
       ·rw[if_neg e]
        refine⟨arr,T0,hbl,?_⟩
        rw[Nat.add_assoc,←Nat.add_mul]
        have:L+(M-L)=M:=by omega
        rw[this]
        omega
     ·cases hx
    ·cases hd
   ·injection hR with hR;subst hR;exact h.elim
  ·cases hR
def sliceA(P:Program)(S:St)(T:TypeId)(x:Operand)(lo hi mx:Option Operand):PR:=
 match(optI S lo).2,(optI S hi).2,(optI S mx).2 with
 |some l,some h,some m=>
  (((unG (S.ev x)).1∧(optI S lo).1∧(optI S hi).1∧(optI S mx).1)∧(sliceB P S T (unG (S.ev x)).2 l h m).1,(sliceB P S T (unG (S.ev x)).2 l h m).2)
 |_,_,_=>bad
def isNilSl:AV→Bool
 |.p (.opq (.slice none 0 0))=>true
 |_=>false
def isOs:AV→Bool
 |.os _ _ _=>true
 |_=>false
def convPure(P:Program)(s d:TypeId):Bool:=
 match ty P s,ty P d with
 |some a,some b=>(!(isSliceD a.desc) || isStrD b.desc)&& !(isSliceD b.desc)
 |_,_=>false
def un1(S:St)(x:Operand)(f:AV→PR):PR:=((unG (S.ev x)).1∧(f (unG (S.ev x)).2).1,(f (unG (S.ev x)).2).2)
def un2(S:St)(x y:Operand)(f:AV→AV→PR):PR:=
 (((unG (S.ev x)).1∧(unG (S.ev y)).1)∧(f (unG (S.ev x)).2 (unG (S.ev y)).2).1,(f (unG (S.ev x)).2 (unG (S.ev y)).2).2)
def capsA(S:St):List Operand→Prop×List AV
 | []=>(True,[])
 |x::l=>((unG (S.ev x)).1∧(capsA S l).1,(unG (S.ev x)).2::(capsA S l).2)
theorem capsA_spec [Gi] {E:Ent} {S:St} {g:Gh} {a:Act} {w:World}(hS:SR E S g a w):∀{l:List Operand},(capsA S l).1→RepAL g w (capsA S l).2 (l.map a.eval)
 | [],_=>by simp[capsA,RepAL]
 |x::l,h=>by
  simp only[capsA,List.map_cons,RepAL]at h⊢
  exact⟨_,_,rfl,unG_spec h.1 (hS.ev x),capsA_spec hS h.2⟩
def convS(P:Program)(S:St)(s d:TypeId)(x:AV):PR:=
 match x with
 |.la t z o n=>match lookT S.rs t,ty P s,ty P d with
  |some cs,some A,some B=>match allP ((cs.drop o).take n)with
   |some ys=>((z=1∧ys.length=n∧(convB P A.desc B.desc ys).1),(convB P A.desc B.desc ys).2)
   |none=>bad
  |_,_,_=>bad
 |x=>convA P s d x
theorem bytesP_at {fr:Nat→Nat} {w:World} {b:Nat}:∀{es:List PV} {t:List UInt8} {o:Nat},bytesP es=some t→(∀(j:Nat) (e:PV),es[j]?=some e→∃c,w.cell? ⟨b,o+j,none⟩=some c∧RepP fr w e c)→
  ∃ns:List Int,ns.length=es.length∧(∀s:ByteArray,(ns.foldl (fun r n=>r.push (UInt8.ofNat n.toNat)) s).data.toList=s.data.toList++t)∧∀(j:Nat) (v:Value),(ns.map (Value.int .u8))[j]?=some v→w.cell? ⟨b,o+j,none⟩=some v
 | [],t,o,h,_=>by
  simp only[bytesP,Option.some.injEq]at h;subst h
  exact⟨[],rfl,fun s=>by simp,fun j v hj=>by simp at hj⟩
 |e::es,t,o,h,r=>by
  cases e with
  |int k n=>
   cases k with
   |u8=>
    simp only[bytesP,Option.map_eq_some_iff]at h
    obtain⟨t',h,rfl⟩:=h
    obtain⟨c,hc,r0⟩:=r 0 _ rfl
    simp only[RepP]at r0
    subst r0
    obtain⟨ns,k1,k2,k3⟩:=bytesP_at (o:=o+1) h (fun j e hj=>by
     have:=r (j+1) e (by simpa using hj)
     rwa[show o+(j+1)=o+1+j from by omega]at this)
    refine⟨n::ns,by simp[k1],fun s=>?_,fun j v hj=>?_⟩
    ·rw[List.foldl_cons,k2];simp
    ·cases j with
     |zero=>
      simp at hj;subst hj
      exact hc
     |succ j=>
      have:=k3 j v (by simpa using hj)
      rwa[show o+1+j=o+(j+1)from by omega]at this
   |_=>simp[bytesP]at h
  |_=>simp[bytesP]at h
theorem convS_sound [Gi] {P:Program} {E:Ent} {S:St} {g:Gh} {a:Act} {w:World}(hS:SR E S g a w) {s d:TypeId} {x:AV} {v:Value}(h:(convS P S s d x).1)(r:RepA g w x v):
  ∃u,(convert s d v).run P w=.ok u w∧RepA g w (convS P S s d x).2 u:=by
 unfold convS at h⊢
 split at h
 ·rename_i t z o n
  split at h
  ·rename_i cs A B hl hA hB
   split at h
   ·rename_i ys hy
    obtain⟨rfl,hn,hc⟩:=h
    simp only
    simp only[RepA]at r
    obtain⟨b,o',cap,hk,rfl,_,ho,_⟩:=r
    obtain⟨cs',hl',_,arr,T,hb,_,hcs⟩:=hS.roots b t hk
    obtain rfl:cs=cs':=Option.some.inj (hl.symm.trans hl')
    have he:=allP_spec hy
    unfold convB at hc⊢
    split at hc
    ·rename_i e tx hs ht
     split at hc
     ·rename_i E' hE
      obtain⟨h1,h2,h3⟩:=hc
      have hpos:n≠0:=fun e0=>h2 (List.eq_nil_of_length_eq_zero (by omega))
      obtain rfl:o'=o:=ho.resolve_left hpos
      obtain⟨ns,k1,k2,k3⟩:=bytesP_at (fr:=g.fr) (w:=w) (b:=b) (o:=o') ht (fun j y hj=>by
       have hjn:j<n:=by have:=(List.getElem?_eq_some_iff.1 hj).1;omega
       have h4:=congrArg (·[j]?) he
       simp only[List.getElem?_take,hjn,if_true,List.getElem?_drop,List.getElem?_map,hj,Option.map_some]at h4
       obtain⟨u,hu,_,hr⟩:=hcs (o'+j) _ h4
       exact⟨u,by rw[World.cell?_of_block (show w.heap[b]?=w.heap[b]? from rfl)];simp only[World.cell?,hb];exact hu,by simpa only[RepA]using hr⟩)
      have hs':P.underlying s=some A.desc:=(ty_spec hA).choose_spec.2.1
      have hd':P.underlying d=some B.desc:=(ty_spec hB).choose_spec.2.1
      have he':P.underlying e=some E'.desc:=(ty_spec hE).choose_spec.2.1
      rw[hs]at hs';rw[h3]at hd';rw[h1]at he'
      have hload:(loadCells ⟨b,o',none⟩ n).run P w=.ok (ns.map (Value.int .u8)).toArray w:=by
       have:=run_loadCells_list (P:=P) w ⟨b,o',none⟩ (ns.map (Value.int .u8)) (fun j v hj=>by rw[addr_add];exact k3 j v hj)
       simpa[k1,hn]using this
      refine⟨_,(run_convert_bytes_string w s d e _ _ _ hs' he' hd').trans (run_bytesToString w _ _ _ ns hload),?_⟩
      simp only[RepA,RepP]
      congr 1
      have:=k2 ByteArray.empty
      apply ByteArray.ext
      apply Array.toList_inj.1
      simpa using this
     ·exact hc.elim
    ·exact hc.elim
   ·exact h.elim
  ·exact h.elim
 ·rename_i x _
  exact convA_sound h r
def pureA(P:Program)(S:St)(o:Oper):Option PR:=
 match o.op with
 |.move x=>some (unG (S.ev x))
 |.assign x=>if isOs (S.ev x) || isNilSl (S.ev x)then none else some (unG (S.ev x))
 |.pick c x y=>some (un1 S c fun c=>pickA c (S.ev x) (S.ev y))
 |.nilCheck x=>some (un1 S x nilCheckA)
 |.binOp op t x y _=>some (un2 S x y (binH P op t y))
 |.unOp op _ x=>some (un1 S x (unA op))
 |.convert s d x=>if convPure P s d then some (un1 S x (convS P S s d))else none
 |.slice T x lo hi mx=>some (sliceA P S T x lo hi mx)
 |.fieldAddr T x f=>some (un1 S x fun x=>fieldAddrA P T x f)
 |.field T x f=>some (un1 S x fun x=>fieldA P T x f)
 |.indexAddr T x i=>some (un2 S x i (indexAddrA P T))
 |.index T x i=>some (un2 S x i (indexA P T))
 |.extract x i=>some (un1 S x fun x=>extractA x i)
 |.lookup T x k ok=>some (un2 S x k fun x k=>lookupA P T x k ok)
 |.load t x=>some (un1 S x (loadA P S t))
 |.build T parts=>some (buildA P S T parts.toList)
 |.makeFunc (.func f) first caps=>if first.size=0 then some ((capsA S caps.toList).1,.fn f (capsA S caps.toList).2)else none
 |.call c=>
  match c.callee,c.args.toList,c.argTypes.toList with
  |.builtin .len,[x],[T]=>some (un1 S x (lenR P T))
  |.builtin .min,[x,y],_=>some (un2 S x y (minMaxA false))
  |.builtin .max,[x,y],_=>some (un2 S x y (minMaxA true))
  |_,_,_=>none
 |_=>none
theorem run_value {P:Program} {w w':World} {s:Sem Value} {u:Value}(h:s.run P w=.ok u w'):(do pure (Next.value (←s)):Sem Next).run P w=.ok (.value u) w':=by
 rw[Sem.run_bind,h];rfl
theorem pure_sound [Gi] {P:Program} {E:Ent} {S:St} {g:Gh} {a:Act} {w:World}(hS:SR E S g a w) {o:Oper} {r:PR}(e:pureA P S o=some r)(h:r.1):
  ∃v,(execOp a.eval o).run P w=.ok (.value v) w∧RepA g w r.2 v:=by
 have k1:∀(x:Operand) (f:AV→PR) (sem:Value→Sem Value),(∀y v,(f y).1→RepA g w y v→∃u,(sem v).run P w=.ok u w∧RepA g w (f y).2 u)→(un1 S x f).1→
   ∃v,(do pure (Next.value (←sem (a.eval x))):Sem Next).run P w=.ok (.value v) w∧RepA g w (un1 S x f).2 v:=by
  intro x f sem hf hh
  obtain⟨u,h1,h2⟩:=hf _ _ hh.2 (unG_spec hh.1 (hS.ev x))
  exact⟨u,run_value h1,h2⟩
 have k2:∀(x y:Operand) (f:AV→AV→PR) (sem:Value→Value→Sem Value),(∀p q v u,(f p q).1→RepA g w p v→RepA g w q u→∃r,(sem v u).run P w=.ok r w∧RepA g w (f p q).2 r)→(un2 S x y f).1→
   ∃v,(do pure (Next.value (←sem (a.eval x) (a.eval y))):Sem Next).run P w=.ok (.value v) w∧RepA g w (un2 S x y f).2 v:=by
  intro x y f sem hf hh
  obtain⟨u,h1,h2⟩:=hf _ _ _ _ hh.2 (unG_spec hh.1.1 (hS.ev x)) (unG_spec hh.1.2 (hS.ev y))
  exact⟨u,run_value h1,h2⟩
 obtain⟨dst,op,tt,pos,after,guard⟩:=o
 unfold pureA at e
 cases op with
 |move x=>
  simp only[Option.some.injEq]at e;subst e
  exact⟨_,rfl,unG_spec h (hS.ev x)⟩
 |assign x=>
  simp only[]at e
  split at e
  ·cases e
  ·simp only[Option.some.injEq]at e;subst e
   exact⟨_,rfl,unG_spec h (hS.ev x)⟩
 |pick c x y=>
  simp only[Option.some.injEq]at e;subst e
  obtain⟨v,h1,h2⟩:=pickA_sound (P:=P) h.2 (unG_spec h.1 (hS.ev c)) (hS.ev x) (hS.ev y)
  exact⟨v,h1,h2⟩
 |nilCheck x=>
  simp only[Option.some.injEq]at e;subst e
  have hr:=unG_spec h.1 (hS.ev x)
  have hh:=h.2
  unfold un1
  have go:∀v,a.eval x=v→((∃b o,v=.pointer (some ⟨b,o,none⟩))∨∃f p q,v=.func (.func f) p q)→
    (execOp a.eval {dst:=dst,op:=Op.nilCheck x,type:=tt,pos:=pos,after:=after,guard:=guard}).run P w=.ok (.value v) w:=by
   intro v hv hc
   simp only[execOp,hv]
   rcases hc with ⟨b,o,rfl⟩|⟨f,p,q,rfl⟩<;>rfl
  revert hr hh
  generalize (unG (S.ev x)).2=y
  intro hr hh
  unfold nilCheckA at hh⊢
  split at hh
  ·have hr':=hr
   simp only[RepA]at hr'
   obtain⟨b,_,hv⟩:=hr'
   exact⟨_,go _ rfl (.inl ⟨b,_,hv⟩),hr⟩
  ·have hr':=hr
   simp only[RepA]at hr'
   obtain⟨b,base,hv,_⟩:=hr'
   exact⟨_,go _ rfl (.inl ⟨b,_,hv⟩),hr⟩
  ·have hr':=hr
   simp only[RepA,RepP]at hr'
   obtain⟨b,base,hv,hf,u,h1,h2,h3⟩:=hr'
   exact⟨_,go _ rfl (.inl ⟨b,_,hv⟩),by simp only[RepA,RepE,and_true];exact⟨b,base,hv,hf,u,h1,h2,h3⟩⟩
  ·have hr':=hr
   simp only[RepA,RepP]at hr'
   exact⟨_,go _ rfl (.inr ⟨_,_,_,hr'⟩),hr⟩
  ·exact hh.elim
 |binOp op t x y yt=>
  simp only[Option.some.injEq]at e;subst e
  obtain⟨u,h1,h2⟩:=binH_sound (v:=a.eval y) x (fun c e=>by rw[e];rfl) h.2 (unG_spec h.1.1 (hS.ev x)) (unG_spec h.1.2 (hS.ev y))
  exact⟨u,run_value h1,h2⟩
 |unOp op t x=>
  simp only[Option.some.injEq]at e;subst e
  exact k1 x _ (fun v=>Op.unary op v) (fun y v=>unA_sound) h
 |convert s d x=>
  simp only[]at e
  split at e
  ·simp only[Option.some.injEq]at e;subst e
   exact k1 x _ (fun v=>convert s d v) (fun y v=>convS_sound hS) h
  ·cases e
 |slice T x lo hi mx=>
  simp only[Option.some.injEq]at e;subst e
  unfold sliceA at h⊢
  split at h
  ·rename_i l hh m h1 h2 h3
   obtain⟨⟨c0,c1,c2,c3⟩,c4⟩:=h
   simp only
   obtain⟨u,hu,hr⟩:=sliceB_sound (P:=P) hS c4 (unG_spec c0 (hS.ev x)) (optI_sound hS c1 h1) (optI_sound hS c2 h2) (optI_sound hS c3 h3)
   exact⟨u,run_value hu,hr⟩
  ·exact h.elim
 |fieldAddr T x f=>
  simp only[Option.some.injEq]at e;subst e
  exact k1 x _ (fun v=>Instr.fieldAt T v f) (fun y v=>fieldAddrA_sound) h
 |field T x f=>
  simp only[Option.some.injEq]at e;subst e
  exact k1 x _ (fun v=>Instr.field T v f) (fun y v=>fieldA_sound) h
 |indexAddr T x i=>
  simp only[Option.some.injEq]at e;subst e
  exact k2 x i _ (fun u v=>Instr.indexAt T u v) (fun p q v u=>indexAddrA_sound) h
 |index T x i=>
  simp only[Option.some.injEq]at e;subst e
  exact k2 x i _ (fun u v=>Instr.index T u v) (fun p q v u=>indexA_sound) h
 |extract x i=>
  simp only[Option.some.injEq]at e;subst e
  exact k1 x _ (fun v=>Instr.extract v i) (fun y v=>extractA_sound) h
 |lookup T x k ok=>
  simp only[Option.some.injEq]at e;subst e
  exact k2 x k _ (fun u v=>Instr.lookup T u v ok) (fun p q v u=>lookupA_sound) h
 |load t x=>
  simp only[Option.some.injEq]at e;subst e
  exact k1 x _ (fun v=>Instr.loadAt t v) (fun y v=>loadA_sound hS) h
 |build T parts=>
  simp only[Option.some.injEq]at e;subst e
  obtain⟨u,hu,hr⟩:=buildA_sound (P:=P) hS h
  exact⟨u,run_value hu,hr⟩
 |makeFunc fn first caps=>
  cases fn with
  |func f=>
   simp only[]at e
   split at e
   ·rename_i h0
    simp only[Option.some.injEq]at e;subst e
    have hf:first= #[]:=Array.eq_empty_of_size_eq_zero (by assumption)
    subst hf
    refine⟨.func (.func f) #[] (caps.map a.eval),by simp[execOp,Instr.makeFunc],?_⟩
    simp only[RepA]
    refine⟨_,rfl,?_⟩
    have:=capsA_spec hS h
    simpa using this
   ·cases e
  |_=>cases e
 |call c=>
  obtain⟨callee,args,argTypes⟩:=c
  simp only[]at e
  split at e
  ·rename_i x T h1 h2
   simp only[Option.some.injEq]at e;subst e
   have ha:args= #[x]:=by rw[←Array.toArray_toList (xs:=args),h1]
   have ht:argTypes= #[T]:=by rw[←Array.toArray_toList (xs:=argTypes),h2]
   subst ha;subst ht
   obtain⟨u,hu,hr⟩:=lenR_sound (P:=P) (T:=T) (tt:=tt) (ts:= #[T]) (args:= #[x].map a.eval) rfl (by simp) h.2 (unG_spec h.1 (hS.ev x))
   exact⟨u,run_value hu,hr⟩
  ·rename_i x y h1
   simp only[Option.some.injEq]at e;subst e
   have ha:args= #[x,y]:=by rw[←Array.toArray_toList (xs:=args),h1]
   subst ha
   obtain⟨u,hu,hr⟩:=minMaxA_sound (P:=P) (ts:=argTypes) (tt:=tt) h.2 (unG_spec h.1.1 (hS.ev x)) (unG_spec h.1.2 (hS.ev y))
   refine⟨u,run_value ?_,hr⟩
   have hm:Array.map a.eval #[x,y]= #[a.eval x,a.eval y]:=by simp
   simp only[hm]
   simpa using hu
  ·rename_i x y h1
   simp only[Option.some.injEq]at e;subst e
   have ha:args= #[x,y]:=by rw[←Array.toArray_toList (xs:=args),h1]
   subst ha
   obtain⟨u,hu,hr⟩:=minMaxA_sound (P:=P) (ts:=argTypes) (tt:=tt) h.2 (unG_spec h.1.1 (hS.ev x)) (unG_spec h.1.2 (hS.ev y))
   refine⟨u,run_value ?_,hr⟩
   have hm:Array.map a.eval #[x,y]= #[a.eval x,a.eval y]:=by simp
   simp only[hm]
   simpa using hu
  ·cases e
 |_=>cases e
end Go.AM
end
