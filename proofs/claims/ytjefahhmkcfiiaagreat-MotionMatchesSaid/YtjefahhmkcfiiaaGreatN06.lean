/- A part of the proof of this seat's statements, by an abstract machine: what each operation does to values, and what the law's functions compute. Conditions: as each law says. -/
import Derived.Test.YtjefahhmkcfiiaaGreatN05
section
namespace Go.AM
def VL(S:St):Option Operand→Prop×Option (Option Int)
 |none=>(True,some none)
 |some x=>match(unG (S.ev x)).2 with
  |.p (.int _ n)=>((unG (S.ev x)).1,some (some n))
  |_=>(False,none)
theorem WD [Gi] {E:Ent} {S:St} {g:Gh} {a:Act} {w:World}(hS:SR E S g a w) {x:Option Operand} {b:Option Int}(h:(VL S x).1)(e:(VL S x).2=some b):xA b (x.map a.eval):=by
 cases x with
 |none=>simp only[VL,Option.some.injEq]at e;subst e;trivial
 |some x=>
  unfold VL at h e
  simp only[]at h e
  split at h
  ·rename_i k n h1
   simp only[h1,Option.some.injEq]at e
   subst e
   have:=zA h (hS.ev x)
   rw[h1]at this
   simp only[zd,zk]at this
   exact⟨k,this⟩
  ·exact h.elim
def zh2:AV→Option (Tok×Nat)
 |.lp t o=>some (t,o)
 |_=>none
def zfm:TypeDesc→Option (Nat×TypeId)
 |.array n e=>some (n,e)
 |_=>none
def YA(P:Program)(S:St)(T:TypeId)(x:AV)(lo hi mx:Option Int):Option PR:=
 match zh2 x,(ty P T).bind fun T=>zfm T.desc with
 |some (t,o),some (n,e)=>
  match ty P e,zH S.rs t with
  |some et,some cs=>some ((0≤lo.getD 0∧lo.getD 0≤hi.getD n∧hi.getD n≤mx.getD n∧mx.getD n≤n∧(mx.isSome=true→hi.isSome=true)∧o+n*et.size≤cs.length),.la t et.size (o+(lo.getD 0).toNat*et.size) ((hi.getD n).toNat- (lo.getD 0).toNat))
  |_,_=>some bad
 |_,_=>none
def sliceB(P:Program)(S:St)(T:TypeId)(x:AV)(lo hi mx:Option Int):PR:=
 match YA P S T x lo hi mx with
 |some r=>r
 |none=>wS P T x lo hi mx
theorem za3 [Gi] {P:Program} {E:Ent} {S:St} {g:Gh} {a:Act} {w:World}(hS:SR E S g a w) {T:TypeId} {x:AV} {lo hi mx:Option Int} {vl vh vm:Option Value} {v:Value}(h:(sliceB P S T x lo hi mx).1)(r:zd g w x v)
  (hl:xA lo vl) (hh:xA hi vh) (hm:xA mx vm):
  ∃u,(Instr.sliceAt T v vl vh vm).run P w=.ok u w∧zd g w (sliceB P S T x lo hi mx).2 u:=by
 unfold sliceB at h⊢
 cases hR:YA P S T x lo hi mx with
 |none=>rw[hR]at h;exact zbd h r hl hh hm
 |some q=>
  rw[hR]at h
  simp only at h⊢
  unfold YA at hR
  split at hR
  ·rename_i t o n e hx hT
   split at hR
   ·rename_i et cs het hcs
    injection hR with hR;subst hR
    obtain⟨h0,h1,h2,h3,h4,h5⟩:=h
    simp only at h0 h1 h2 h3 h4 h5⊢
    simp only[Option.bind_eq_some_iff]at hT
    obtain⟨⟨d,sz,by_,ze⟩,hT,hd⟩:=hT
    unfold zfm at hd
    split at hd
    ·rename_i n' e' hd'
     injection hd with hd;injection hd with hd1 hd2;subst hd1;subst hd2
     simp only at hd'
     subst hd'
     unfold zh2 at hx
     split at hx
     ·rename_i tk off
      injection hx with hx;injection hx with hx1 hx2;subst hx1;subst hx2
      simp only[zd]at r⊢
      obtain⟨b,hk,rfl⟩:=r
      have hu:=zw w hT
      simp only[]at hu
      have hs:=qE w het
      have hb:=QA (P:=P) (w:=w) false n' n' lo hi mx vl vh vm hl hh hm h4 h0 h1 (by omega) (by omega)
      obtain⟨cs',hl',_,arr,T0,hbl,hle,_⟩:=hS.roots b _ hk
      rw[hcs]at hl';injection hl' with hl';subst hl'
      generalize hL:(lo.getD 0).toNat=L at hb⊢
      generalize hH:(hi.getD n').toNat=H at hb⊢
      generalize hM:(mx.getD n').toNat=M at hb⊢
      refine⟨.slice (some ⟨b,(if M=L then off else off+L*et.size),none⟩) (H-L) (M-L),?_,b,(if M=L then off else off+L*et.size),M-L,hk,rfl,by omega,?_,?_⟩
      ·unfold Instr.sliceAt
       rw[Sem.run_bind,hu]
       simp only[Result.andThen_ok,Instr.sureAddr,Sem.run_bind,Sem.run_pure,hb,hs]
       congr 2
       by_cases e:M=L<;>simp[e,qy]
      ·by_cases e:M=L
       ·left;omega
       ·right;rw[if_neg e]
      ·have hM':M≤n':=by omega
       have hmul:M*et.size≤n'*et.size:=Nat.mul_le_mul_right _ hM'
       by_cases e:M=L
       ·rw[if_pos e,e,Nat.sub_self,Nat.zero_mul]
        exact⟨arr,T0,hbl,by omega⟩
       ·rw[if_neg e]
        refine⟨arr,T0,hbl,?_⟩
        rw[Nat.add_assoc,←Nat.add_mul]
        have:L+(M-L)=M:=by omega
        rw[this]
        omega
     ·cases hx
    ·cases hd
   ·injection hR with hR;subst hR;exact h.elim
  ·cases hR
def zaL(P:Program)(S:St)(T:TypeId)(x:Operand)(lo hi mx:Option Operand):PR:=
 match(VL S lo).2,(VL S hi).2,(VL S mx).2 with
 |some l,some h,some m=>
  (((unG (S.ev x)).1∧(VL S lo).1∧(VL S hi).1∧(VL S mx).1)∧(sliceB P S T (unG (S.ev x)).2 l h m).1,(sliceB P S T (unG (S.ev x)).2 l h m).2)
 |_,_,_=>bad
def Qc:AV→Bool
 |.p (.opq (.slice none 0 0))=>true
 |_=>false
def zn3:AV→Bool
 |.os _ _ _=>true
 |_=>false
def zcY(P:Program)(s d:TypeId):Bool:=
 match ty P s,ty P d with
 |some a,some b=>(!(vC a.desc) || vH b.desc)&& !(vC b.desc)
 |_,_=>false
def un1(S:St)(x:Operand)(f:AV→PR):PR:=((unG (S.ev x)).1∧(f (unG (S.ev x)).2).1,(f (unG (S.ev x)).2).2)
def un2(S:St)(x y:Operand)(f:AV→AV→PR):PR:=
 (((unG (S.ev x)).1∧(unG (S.ev y)).1)∧(f (unG (S.ev x)).2 (unG (S.ev y)).2).1,(f (unG (S.ev x)).2 (unG (S.ev y)).2).2)
def vf(S:St):List Operand→Prop×List AV
 | []=>(True,[])
 |x::l=>((unG (S.ev x)).1∧(vf S l).1,(unG (S.ev x)).2::(vf S l).2)
theorem Jg [Gi] {E:Ent} {S:St} {g:Gh} {a:Act} {w:World}(hS:SR E S g a w):∀{l:List Operand},(vf S l).1→zt g w (vf S l).2 (l.map a.eval)
 | [],_=>by simp[vf,zt]
 |x::l,h=>by
  simp only[vf,List.map_cons,zt]at h⊢
  exact⟨_,_,rfl,zA h.1 (hS.ev x),Jg hS h.2⟩
def KC(P:Program)(S:St)(s d:TypeId)(x:AV):PR:=
 match x with
 |.la t z o n=>match zH S.rs t,ty P s,ty P d with
  |some cs,some A,some B=>match Vh ((cs.drop o).take n)with
   |some ys=>((z=1∧ys.length=n∧(VS P A.desc B.desc ys).1),(VS P A.desc B.desc ys).2)
   |none=>bad
  |_,_,_=>bad
 |x=>zcX P s d x
theorem XO {fr:Nat→Nat} {w:World} {b:Nat}:∀{es:List PV} {t:List UInt8} {o:Nat},ko es=some t→(∀(j:Nat) (e:PV),es[j]?=some e→∃c,w.cell? ⟨b,o+j,none⟩=some c∧zk fr w e c)→
  ∃ns:List Int,ns.length=es.length∧(∀s:ByteArray,(ns.foldl (fun r n=>r.push (UInt8.ofNat n.toNat)) s).data.toList=s.data.toList++t)∧∀(j:Nat) (v:Value),(ns.map (Value.int .u8))[j]?=some v→w.cell? ⟨b,o+j,none⟩=some v
 | [],t,o,h,_=>by
  simp only[ko,Option.some.injEq]at h;subst h
  exact⟨[],rfl,fun s=>by simp,fun j v hj=>by simp at hj⟩
 |e::es,t,o,h,r=>by
  cases e with
  |int k n=>
   cases k with
   |u8=>
    simp only[ko,Option.map_eq_some_iff]at h
    obtain⟨t',h,rfl⟩:=h
    obtain⟨c,hc,r0⟩:=r 0 _ rfl
    simp only[zk]at r0
    subst r0
    obtain⟨ns,k1,k2,k3⟩:=XO (o:=o+1) h (fun j e hj=>by
     have:=r (j+1) e (by simpa using hj)
     rwa[show o+(j+1)=o+1+j from by omega]at this)
    refine⟨n::ns,by simp[k1],fun s=>?_,fun j v hj=>?_⟩
    ·rw[List.foldl_cons,k2];simp
    ·cases j with
     |zero=>
      simp at hj;subst hj
      exact hc
     |succ j=>
      have:=k3 j v (by simpa using hj)
      rwa[show o+1+j=o+(j+1)from by omega]at this
   |_=>simp[ko]at h
  |_=>simp[ko]at h
theorem zcl [Gi] {P:Program} {E:Ent} {S:St} {g:Gh} {a:Act} {w:World}(hS:SR E S g a w) {s d:TypeId} {x:AV} {v:Value}(h:(KC P S s d x).1)(r:zd g w x v):
  ∃u,(convert s d v).run P w=.ok u w∧zd g w (KC P S s d x).2 u:=by
 unfold KC at h⊢
 split at h
 ·rename_i t z o n
  split at h
  ·rename_i cs A B hl hA hB
   split at h
   ·rename_i ys hy
    obtain⟨rfl,hn,hc⟩:=h
    simp only
    simp only[zd]at r
    obtain⟨b,o',cap,hk,rfl,_,ho,_⟩:=r
    obtain⟨cs',hl',_,arr,T,hb,_,hcs⟩:=hS.roots b t hk
    obtain rfl:cs=cs':=Option.some.inj (hl.symm.trans hl')
    have he:=uD hy
    unfold VS at hc⊢
    split at hc
    ·rename_i e tx hs ht
     split at hc
     ·rename_i E' hE
      obtain⟨h1,h2,h3⟩:=hc
      have hpos:n≠0:=fun e0=>h2 (List.eq_nil_of_length_eq_zero (by omega))
      obtain rfl:o'=o:=ho.resolve_left hpos
      obtain⟨ns,k1,k2,k3⟩:=XO (fr:=g.fr) (w:=w) (b:=b) (o:=o') ht (fun j y hj=>by
       have hjn:j<n:=by have:=(List.getElem?_eq_some_iff.1 hj).1;omega
       have h4:=congrArg (·[j]?) he
       simp only[List.getElem?_take,hjn,if_true,List.getElem?_drop,List.getElem?_map,hj,Option.map_some]at h4
       obtain⟨u,hu,_,hr⟩:=hcs (o'+j) _ h4
       exact⟨u,by rw[World.cell?_of_block (show w.heap[b]?=w.heap[b]? from rfl)];simp only[World.cell?,hb];exact hu,by simpa only[zd]using hr⟩)
      have hs':P.underlying s=some A.desc:=(Zd hA).choose_spec.2.1
      have hd':P.underlying d=some B.desc:=(Zd hB).choose_spec.2.1
      have he':P.underlying e=some E'.desc:=(Zd hE).choose_spec.2.1
      rw[hs]at hs';rw[h3]at hd';rw[h1]at he'
      have hload:(loadCells ⟨b,o',none⟩ n).run P w=.ok (ns.map (Value.int .u8)).toArray w:=by
       have:=run_loadCells_list (P:=P) w ⟨b,o',none⟩ (ns.map (Value.int .u8)) (fun j v hj=>by rw[qy];exact k3 j v hj)
       simpa[k1,hn]using this
      refine⟨_,(run_convert_bytes_string w s d e _ _ _ hs' he' hd').trans (run_bytesToString w _ _ _ ns hload),?_⟩
      simp only[zd,zk]
      congr 1
      have:=k2 ByteArray.empty
      apply ByteArray.ext
      apply Array.toList_inj.1
      simpa using this
     ·exact hc.elim
    ·exact hc.elim
   ·exact h.elim
  ·exact h.elim
 ·rename_i x _
  exact zdS h r
def Zt(P:Program)(S:St)(o:Oper):Option PR:=
 match o.op with
 |.move x=>some (unG (S.ev x))
 |.assign x=>if zn3 (S.ev x) || Qc (S.ev x)then none else some (unG (S.ev x))
 |.pick c x y=>some (un1 S c fun c=>zch c (S.ev x) (S.ev y))
 |.nilCheck x=>some (un1 S x UW)
 |.binOp op t x y _=>some (un2 S x y (zgQ P op t y))
 |.unOp op _ x=>some (un1 S x (unA op))
 |.convert s d x=>if zcY P s d then some (un1 S x (KC P S s d))else none
 |.slice T x lo hi mx=>some (zaL P S T x lo hi mx)
 |.fieldAddr T x f=>some (un1 S x fun x=>jF P T x f)
 |.field T x f=>some (un1 S x fun x=>YT P T x f)
 |.indexAddr T x i=>some (un2 S x i (jB P T))
 |.index T x i=>some (un2 S x i (K8 P T))
 |.extract x i=>some (un1 S x fun x=>vZ x i)
 |.lookup T x k ok=>some (un2 S x k fun x k=>Zx P T x k ok)
 |.load t x=>some (un1 S x (yq P S t))
 |.build T parts=>some (Uv P S T parts.toList)
 |.makeFunc (.func f) first caps=>if first.size=0 then some ((vf S caps.toList).1,.fn f (vf S caps.toList).2)else none
 |.call c=>
  match c.callee,c.args.toList,c.argTypes.toList with
  |.builtin .len,[x],[T]=>some (un1 S x (ziX P T))
  |.builtin .min,[x,y],_=>some (un2 S x y (uk false))
  |.builtin .max,[x,y],_=>some (un2 S x y (uk true))
  |_,_,_=>none
 |_=>none
theorem qd {P:Program} {w w':World} {s:Sem Value} {u:Value}(h:s.run P w=.ok u w'):(do pure (Next.value (←s)):Sem Next).run P w=.ok (.value u) w':=by
 rw[Sem.run_bind,h];rfl
theorem ZB [Gi] {P:Program} {E:Ent} {S:St} {g:Gh} {a:Act} {w:World}(hS:SR E S g a w) {o:Oper} {r:PR}(e:Zt P S o=some r)(h:r.1):
  ∃v,(execOp a.eval o).run P w=.ok (.value v) w∧zd g w r.2 v:=by
 have k1:∀(x:Operand) (f:AV→PR) (sem:Value→Sem Value),(∀y v,(f y).1→zd g w y v→∃u,(sem v).run P w=.ok u w∧zd g w (f y).2 u)→(un1 S x f).1→
   ∃v,(do pure (Next.value (←sem (a.eval x))):Sem Next).run P w=.ok (.value v) w∧zd g w (un1 S x f).2 v:=by
  intro x f sem hf hh
  obtain⟨u,h1,h2⟩:=hf _ _ hh.2 (zA hh.1 (hS.ev x))
  exact⟨u,qd h1,h2⟩
 have k2:∀(x y:Operand) (f:AV→AV→PR) (sem:Value→Value→Sem Value),(∀p q v u,(f p q).1→zd g w p v→zd g w q u→∃r,(sem v u).run P w=.ok r w∧zd g w (f p q).2 r)→(un2 S x y f).1→
   ∃v,(do pure (Next.value (←sem (a.eval x) (a.eval y))):Sem Next).run P w=.ok (.value v) w∧zd g w (un2 S x y f).2 v:=by
  intro x y f sem hf hh
  obtain⟨u,h1,h2⟩:=hf _ _ _ _ hh.2 (zA hh.1.1 (hS.ev x)) (zA hh.1.2 (hS.ev y))
  exact⟨u,qd h1,h2⟩
 obtain⟨dst,op,tt,pos,after,guard⟩:=o
 unfold Zt at e
 cases op with
 |move x=>
  simp only[Option.some.injEq]at e;subst e
  exact⟨_,rfl,zA h (hS.ev x)⟩
 |assign x=>
  simp only[]at e
  split at e
  ·cases e
  ·simp only[Option.some.injEq]at e;subst e
   exact⟨_,rfl,zA h (hS.ev x)⟩
 |pick c x y=>
  simp only[Option.some.injEq]at e;subst e
  obtain⟨v,h1,h2⟩:=zcr (P:=P) h.2 (zA h.1 (hS.ev c)) (hS.ev x) (hS.ev y)
  exact⟨v,h1,h2⟩
 |nilCheck x=>
  simp only[Option.some.injEq]at e;subst e
  have hr:=zA h.1 (hS.ev x)
  have hh:=h.2
  unfold un1
  have go:∀v,a.eval x=v→((∃b o,v=.pointer (some ⟨b,o,none⟩))∨∃f p q,v=.func (.func f) p q)→
    (execOp a.eval {dst:=dst,op:=Op.nilCheck x,type:=tt,pos:=pos,after:=after,guard:=guard}).run P w=.ok (.value v) w:=by
   intro v hv hc
   simp only[execOp,hv]
   rcases hc with ⟨b,o,rfl⟩|⟨f,p,q,rfl⟩<;>rfl
  revert hr hh
  generalize (unG (S.ev x)).2=y
  intro hr hh
  unfold UW at hh⊢
  split at hh
  ·have hr':=hr
   simp only[zd]at hr'
   obtain⟨b,_,hv⟩:=hr'
   exact⟨_,go _ rfl (.inl ⟨b,_,hv⟩),hr⟩
  ·have hr':=hr
   simp only[zd]at hr'
   obtain⟨b,base,hv,_⟩:=hr'
   exact⟨_,go _ rfl (.inl ⟨b,_,hv⟩),hr⟩
  ·have hr':=hr
   simp only[zd,zk]at hr'
   obtain⟨b,base,hv,hf,u,h1,h2,h3⟩:=hr'
   exact⟨_,go _ rfl (.inl ⟨b,_,hv⟩),by simp only[zd,qD,and_true];exact⟨b,base,hv,hf,u,h1,h2,h3⟩⟩
  ·have hr':=hr
   simp only[zd,zk]at hr'
   exact⟨_,go _ rfl (.inr ⟨_,_,_,hr'⟩),hr⟩
  ·exact hh.elim
 |binOp op t x y yt=>
  simp only[Option.some.injEq]at e;subst e
  obtain⟨u,h1,h2⟩:=Jq (v:=a.eval y) x (fun c e=>by rw[e];rfl) h.2 (zA h.1.1 (hS.ev x)) (zA h.1.2 (hS.ev y))
  exact⟨u,qd h1,h2⟩
 |unOp op t x=>
  simp only[Option.some.injEq]at e;subst e
  exact k1 x _ (fun v=>Op.unary op v) (fun y v=>zhu) h
 |convert s d x=>
  simp only[]at e
  split at e
  ·simp only[Option.some.injEq]at e;subst e
   exact k1 x _ (fun v=>convert s d v) (fun y v=>zcl hS) h
  ·cases e
 |slice T x lo hi mx=>
  simp only[Option.some.injEq]at e;subst e
  unfold zaL at h⊢
  split at h
  ·rename_i l hh m h1 h2 h3
   obtain⟨⟨c0,c1,c2,c3⟩,c4⟩:=h
   simp only
   obtain⟨u,hu,hr⟩:=za3 (P:=P) hS c4 (zA c0 (hS.ev x)) (WD hS c1 h1) (WD hS c2 h2) (WD hS c3 h3)
   exact⟨u,qd hu,hr⟩
  ·exact h.elim
 |fieldAddr T x f=>
  simp only[Option.some.injEq]at e;subst e
  exact k1 x _ (fun v=>Instr.fieldAt T v f) (fun y v=>Uw) h
 |field T x f=>
  simp only[Option.some.injEq]at e;subst e
  exact k1 x _ (fun v=>Instr.field T v f) (fun y v=>za2) h
 |indexAddr T x i=>
  simp only[Option.some.injEq]at e;subst e
  exact k2 x i _ (fun u v=>Instr.indexAt T u v) (fun p q v u=>UJ) h
 |index T x i=>
  simp only[Option.some.injEq]at e;subst e
  exact k2 x i _ (fun u v=>Instr.index T u v) (fun p q v u=>zbC) h
 |extract x i=>
  simp only[Option.some.injEq]at e;subst e
  exact k1 x _ (fun v=>Instr.extract v i) (fun y v=>JO) h
 |lookup T x k ok=>
  simp only[Option.some.injEq]at e;subst e
  exact k2 x k _ (fun u v=>Instr.lookup T u v ok) (fun p q v u=>Xk) h
 |load t x=>
  simp only[Option.some.injEq]at e;subst e
  exact k1 x _ (fun v=>Instr.loadAt t v) (fun y v=>vO hS) h
 |build T parts=>
  simp only[Option.some.injEq]at e;subst e
  obtain⟨u,hu,hr⟩:=zbu (P:=P) hS h
  exact⟨u,qd hu,hr⟩
 |makeFunc fn first caps=>
  cases fn with
  |func f=>
   simp only[]at e
   split at e
   ·rename_i h0
    simp only[Option.some.injEq]at e;subst e
    have hf:first= #[]:=Array.eq_empty_of_size_eq_zero (by assumption)
    subst hf
    refine⟨.func (.func f) #[] (caps.map a.eval),by simp[execOp,Instr.makeFunc],?_⟩
    simp only[zd]
    refine⟨_,rfl,?_⟩
    have:=Jg hS h
    simpa using this
   ·cases e
  |_=>cases e
 |call c=>
  obtain⟨callee,args,argTypes⟩:=c
  simp only[]at e
  split at e
  ·rename_i x T h1 h2
   simp only[Option.some.injEq]at e;subst e
   have ha:args= #[x]:=by rw[←Array.toArray_toList (xs:=args),h1]
   have ht:argTypes= #[T]:=by rw[←Array.toArray_toList (xs:=argTypes),h2]
   subst ha;subst ht
   obtain⟨u,hu,hr⟩:=zeh (P:=P) (T:=T) (tt:=tt) (ts:= #[T]) (args:= #[x].map a.eval) rfl (by simp) h.2 (zA h.1 (hS.ev x))
   exact⟨u,qd hu,hr⟩
  ·rename_i x y h1
   simp only[Option.some.injEq]at e;subst e
   have ha:args= #[x,y]:=by rw[←Array.toArray_toList (xs:=args),h1]
   subst ha
   obtain⟨u,hu,hr⟩:=uY (P:=P) (ts:=argTypes) (tt:=tt) h.2 (zA h.1.1 (hS.ev x)) (zA h.1.2 (hS.ev y))
   refine⟨u,qd ?_,hr⟩
   have hm:Array.map a.eval #[x,y]= #[a.eval x,a.eval y]:=by simp
   simp only[hm]
   simpa using hu
  ·rename_i x y h1
   simp only[Option.some.injEq]at e;subst e
   have ha:args= #[x,y]:=by rw[←Array.toArray_toList (xs:=args),h1]
   subst ha
   obtain⟨u,hu,hr⟩:=uY (P:=P) (ts:=argTypes) (tt:=tt) h.2 (zA h.1.1 (hS.ev x)) (zA h.1.2 (hS.ev y))
   refine⟨u,qd ?_,hr⟩
   have hm:Array.map a.eval #[x,y]= #[a.eval x,a.eval y]:=by simp
   simp only[hm]
   simpa using hu
  ·cases e
 |_=>cases e
end Go.AM
end
