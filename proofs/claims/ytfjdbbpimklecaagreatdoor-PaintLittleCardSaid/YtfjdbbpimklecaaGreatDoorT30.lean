/- A part of this seat's proofs, by an abstract machine. Conditions: each law's. -/
import Derived.Test.YtfjdbbpimklecaaGreatDoorT29
import Derived.Test.YtfjdbbpimklecaaGreatDoorT16
import Derived.ScopeJumps
import Derived.Test.YtfjdbbpimklecaaGreatDoorT18
set_option maxHeartbeats 4000000
set_option maxRecDepth 10000
namespace Go.Proofs.YtfjdbbpimklecaaGreatDoor
section
open Go.AM
def znQ(k:Int→Int)(o:List Int):Int×Int:=o.foldl (fun(p:Int×Int) y=>(p.1+1,if k y=0 then p.1 else p.2)) (0, -1)
def Wo(k:Int→Int)(o:List Int):Int:=(znQ k o).2
theorem zfa(k:Int→Int):Wo k []= -1:=rfl
def zpC(k:Int→Int)(o:List Int)(a x:Int):Bool:=decide (a=o.length-1) || decide (k (o[o.length-1]?.getD 0)<k x)
def mkD(rows:List Row)(a b:Int):Option Int:=(zkn a b).or (znr rows a b)
def UW(k:Int→Int)(mk:Int→Int→Option Int)(O:List Int)(x:Int):List Int:=
 if 0≤Wo k O∧zpC k O (Wo k O) x=true then match mk (O[(Wo k O).toNat]?.getD 0) x with
  |some r=>O.set (Wo k O).toNat r
  |none=>O++[x]
 else O++[x]
def zaF(k:Int→Int)(mk:Int→Int→Option Int)(l:List Int):List Int:=l.foldl (UW k mk) []
theorem zfJ {rows:List Row}(hrw:QK rows)(x y:Int):∀z,znr rows x y=some z→qg z:=by
 suffices H:∀(l:List Row) (a:Option Int),(∀w∈l,w∈rows)→(∀z,a=some z→qg z)→∀z,l.foldl (Ym rows x y) a=some z→qg z by
  exact H rows none (fun _ h=>h) (fun z h=>by cases h)
 intro l
 induction l with
 |nil=>intro a _ ha z hz;exact ha z hz
 |cons w l ih=>
  intro a hw ha z hz
  refine ih _ (fun v hv=>hw v (by simp[hv])) (fun u hu=>?_) z hz
  unfold Ym at hu
  split at hu
  ·rename_i hc
   injection hu with hu;subst hu
   have:=hrw.p w (hw w (by simp)) hc.1
   exact⟨by omega,by omega⟩
  ·exact ha u hu
theorem zld {rows:List Row}(hrw:QK rows) {x y z:Int}(h:mkD rows x y=some z):qg z:=by
 unfold mkD at h
 cases hj:zkn x y with
 |none=>rw[hj]at h;exact zfJ hrw x y z h
 |some q=>
  rw[hj]at h
  simp only[Option.some_or,Option.some.injEq]at h
  subst h
  unfold zkn at hj
  split at hj
  ·injection hj with hj;exact⟨by omega,by omega⟩
  ·split at hj
   ·rename_i hc
    have hs':44032≤x∧x<55204:=by simpa[zis]using hc.1
    injection hj with hj;exact⟨by omega,by omega⟩
   ·cases hj
structure uk(o:List Int)(n:Nat):Prop where
 nn:o.length≤n
 ne:0<n→o≠ []
 r:∀x∈o,qg x
theorem uk.push {o:List Int} {n:Nat}(h:uk o n) {x:Int}(hx:qg x):uk (o++[x]) (n+1):=
 ⟨by simp;exact h.nn,by simp,fun y hy=>by rcases List.mem_append.1 hy with hy|hy;exact h.r y hy;rw[List.mem_singleton.1 hy];exact hx⟩
theorem uk.set {o:List Int} {n:Nat}(h:uk o n)(h0:o≠ []) {j:Nat} {x:Int}(hx:qg x):uk (o.set j x) (n+1):=
 ⟨by simp;have:=h.nn;omega,fun _ e=>h0 (by have:=congrArg List.length e;rw[List.length_set,List.length_nil]at this;exact List.eq_nil_of_length_eq_zero this),fun y hy=>by rcases List.mem_or_eq_of_mem_set hy with hy|rfl;exact h.r y hy;exact hx⟩
theorem zkY {rows:List Row}(hrw:QK rows) {o:List Int} {n:Nat}(h:uk o n) {x:Int}(hx:qg x):uk (UW (kD rows) (mkD rows) o x) (n+1):=by
 unfold UW
 split
 ·rename_i hf
  split
  ·rename_i r hr
   refine h.set (fun e=>?_) (zld hrw hr)
   rw[e,zfa]at hf
   have:=hf.1
   simp at this
  ·exact h.push hx
 ·exact h.push hx
theorem zhX {rows:List Row}(hrw:QK rows)(l:List Int)(hl:∀x∈l,qg x):uk (zaF (kD rows) (mkD rows) l) l.length:=by
 suffices H:∀(l':List Int) (o:List Int) (n:Nat),(∀x∈l',qg x)→uk o n→uk (l'.foldl (UW (kD rows) (mkD rows)) o) (n+l'.length) by
  have:=H l [] 0 hl ⟨by simp,by simp,by simp⟩
  simpa[zaF]using this
 intro l'
 induction l' with
 |nil=>intro o n _ h;simpa using h
 |cons x l' ih=>
  intro o n hl h
  have:=ih _ _ (fun y hy=>hl y (by simp[hy])) (zkY hrw h (hl x (by simp)))
  simpa[Nat.add_assoc,Nat.add_comm 1]using this
def zgA(rows:List Row)(l:List Int):List Int:=zaF (kD rows) (mkD rows) l
def zp8(rows:List Row)(l:List Int):List Int:=zgA rows (zhv rows l)
theorem Y4 {k:Int→Int} {x z:Int}:∀l,z∈vB k x l→z=x∨z∈l
 | [],h=>by simp[vB]at h;exact .inl h
 |y::l,h=>by
  unfold vB at h
  split at h
  ·rcases List.mem_cons.1 h with h|h
   ·exact .inr (by simp[h])
   ·rcases Y4 l h with h|h
    ·exact .inl h
    ·exact .inr (by simp[h])
  ·rcases List.mem_cons.1 h with h|h
   ·exact .inl h
   ·exact .inr h
theorem ziF {k:Int→Int} {z:Int}(l:List Int)(h:z∈zlW k l):z∈l:=by
 suffices H:∀(l O:List Int),z∈l.foldl (zh3 k) O→z∈O∨z∈l by
  rcases H l [] h with h|h
  ·simp at h
  ·exact h
 intro l
 induction l with
 |nil=>intro O h;exact .inl h
 |cons x l ih=>
  intro O h
  rcases ih _ h with h|h
  ·have h2:z∈vB k x O.reverse:=by simpa[zh3]using h
   rcases Y4 _ h2 with h3|h3
   ·exact .inr (by simp[h3])
   ·exact .inl (by simpa using h3)
  ·exact .inr (by simp[h])
theorem zkb(rows:List Row)(l:List Int):(zhv rows l).length≤768*l.length:=by unfold zhv;rw[zjK];exact zfC rows l
theorem zhw {rows:List Row}(hrw:QK rows) {l:List Int}(hl:∀x∈l,qg x):∀x∈zhv rows l,qg x:=fun x hx=>zc2 hrw hl x (ziF _ hx)
end
end Go.Proofs.YtfjdbbpimklecaaGreatDoor
section
namespace Go.AM
def Sem [Gi](P:Program)(c:Code)(Q:Exit→St→Prop)(S:St):Prop:=∀(E:Ent) (g:Gh) (a:Act) (w:World),SR E S g a w→c.wp P (post E Q) a w
theorem Sem.of [Gi] {P:Program}(D:List Nat) {c:Code} {Q:Exit→St→Prop} {S:St}(hm:P.follows .mixedOrders=true)(h:wpA P D c Q S)(hok:Zt D c=true:=by rfl):Sem P c Q S:=
 fun _ _ _ _ hS=>ZJ hm c hok h hS
def zkN [Gi](P:Program)(y:Code)(Q:Exit→St→Prop):Exit→St→Prop:=fun e S=>match e with|.normal=>Sem P y Q S|e=>Q e S
@[go_sem] theorem znk [Gi] {P : Program} {y : Code} {Q : Exit → St → Prop} {S : St} : zkN P y Q .normal S = Sem P y Q S := _root_.id rfl
theorem Sem.seq [Gi] {P:Program} {x y:Code} {Q:Exit→St→Prop} {S:St}(h:Sem P x (zkN P y Q) S):Sem P (.seq x y) Q S:=by
 intro E g a w hS
 refine wp_seq (wp_mono (h E g a w hS) ?_)
 rintro e a' w' ⟨S',g',hq,hs⟩
 cases e with
 |normal=>exact hq E g' a' w' hs
 |_=>exact⟨S',g',hq,hs⟩
theorem Sem.jI [Gi] {P:Program}(D:List Nat) {x y:Code} {Q:Exit→St→Prop} {S:St}(hm:P.follows .mixedOrders=true)(h:wpA P D x (zkN P y Q) S)(hok:Zt D x=true:=by rfl):Sem P (.seq x y) Q S:=Sem.seq (Sem.of D hm h hok)
theorem Sem.mono [Gi] {P:Program} {c:Code} {Q Q':Exit→St→Prop} {S:St}(h:Sem P c Q S)(hq:∀e S',Q e S'→Q' e S'):Sem P c Q' S:=
 fun E g a w hS=>wp_mono (h E g a w hS) fun _ _ _ ⟨S',g',k,hs⟩=>⟨S',g',hq _ _ k,hs⟩
theorem Sem.le [Gi] {P:Program} {c:Code} {Q:Exit→St→Prop} {S S1:St}(h:Sem P c Q S1)(hl:LeS S S1):Sem P c Q S:=fun E _ a w hS=>by
 obtain⟨g',h'⟩:=hS.le hl
 exact h E g' a w h'
theorem ziC [Gi] {P:Program} {f:FuncId} {fn:Func} {c:Code} {ts:List (Nat×Option TypeId)}(nv:Nat)(ex:List Nat)(hf:P.funcs[f]?=some fn)(hb:fn.body=some c)(rm:List Nat)
  (hres:uV fn.results.toList=some ts) {pin:List Tok} {args:List AV} {rs:List (Tok×List AV)} {R:AV→List (Tok×List AV)→Prop} (hnv:args.length≤nv) (hn:args.length≤fn.ntmps)
  (h:Sem P c (Wk P pin ts R) {n:=fn.ntmps,nv:=nv,vs:=ud 0 args,ts:=[],rs:=rs,pin:=pin,ex:=ex,rm:=rm}):CR P f pin args rs R:=by
 intro w g vs hargs hG
 have hlen:vs.length=args.length:=by
  have h0:args.length≤nv:=hnv
  clear h0 h hnv hn
  induction args generalizing vs with
  |nil=>simp only[zo]at hargs;subst hargs;rfl
  |cons x xs ih=>simp only[zo]at hargs;obtain⟨v,vs',rfl,_,h2⟩:=hargs;simp[ih vs' h2]
 let E:Ent:=⟨w,g,hG.gl⟩
 have hS:SR E {n:=fn.ntmps,nv:=nv,vs:=ud 0 args,ts:=[],rs:=rs,pin:=pin,ex:=ex,rm:=rm} g {tmps:=vs.toArray++Array.replicate (fn.ntmps-vs.toArray.size) undef,defers:=[]} w:=by
  refine⟨by simp;omega,rfl,fun t=>?_,hG.roots,hG.ur,hG.ut,fun b hb=>⟨hG.own b hb,.inr hb⟩,fun b _=>⟨rfl,rfl⟩,Ext.refl _ _,⟨rfl,rfl,rfl⟩,Nat.le_refl _,hG.frb,fun b t hk _=>⟨hk,fun _ hn=>hn⟩⟩
  unfold St.get
  split
  ·simp only[xJ,Nat.zero_le,if_true,Nat.sub_zero]
   cases hx:args[t]? with
   |none=>simp only[qt,zb]
   |some x=>
    simp only[qt]
    obtain⟨v,hv,hr⟩:=hargs.get hx
    have hvl:=(List.getElem?_eq_some_iff.1 hv).1
    have:(vs.toArray++Array.replicate (fn.ntmps-vs.toArray.size) undef).getD t undef=v:=by
     simp[Array.getD_eq_getD_getElem?,Array.getElem?_append,hvl]
     have:=(List.getElem?_eq_some_iff.1 hv).2
     exact this
    rw[this];exact hr
  ·simp only[look,qt,zb]
 refine calls_of_wp hf hb (wp_mono (h E g _ w hS) ?_)
 rintro e a' w' ⟨S',g',hq,hs⟩
 have fin:uT P pin ts R S'→a'.defers=[]∧∃v,(results fn a'.tmps).run P w'=.ok v w'∧∃v' x rs' g'',Ending.returned v=.returned v'∧R x rs'∧zb g'' w' x v'∧GS g'' w' rs'∧Aft g w g'' w' pin:=fun h=>⟨hs.defers,Vf hres hs h⟩
 cases e with
 |normal=>exact fin hq
 |ret=>exact fin hq
 |_=>exact hq.elim
end Go.AM
namespace Go.AM
end Go.AM
end
namespace Go.Proofs.YtfjdbbpimklecaaGreatDoor
section
open Go.AM
def cw:zt→List AV
 | []=>[]
 |c::l=>.p (.str c.t)::.p (.int .i64 c.w)::cw l
theorem jo(l:zt):(cw l).length=2*l.length:=by
 induction l with
 |nil=>rfl
 |cons c l ih=>simp only[cw,List.length_cons,ih];omega
theorem zjC(l m:zt):cw (l++m)=cw l++cw m:=by
 induction l with
 |nil=>rfl
 |cons c l ih=>simp only[List.cons_append,cw,ih]
theorem qK(f:Tok→Option Tok)(l:zt):List.map (AV.ren f) (cw l)=cw l:=by
 induction l with
 |nil=>rfl
 |cons c l ih=>simp only[cw,List.map_cons,ih];rfl
theorem zJ(rt tt:Tok→Bool)(l:zt):List.map (AV.upd (fil rt tt)) (cw l)=cw l:=by
 induction l with
 |nil=>rfl
 |cons c l ih=>simp only[cw,List.map_cons,ih];rfl
theorem wA(r1 t1 r2 t2:Tok→Bool)(l:zt):List.map (AV.upd (fil r1 t1)∘AV.upd (fil r2 t2)) (cw l)=cw l:=by rw[←List.map_map,zJ,zJ]
def bl(c:Nat):List AV:=cw (List.replicate c blk)
theorem K0:bl 0=[]:=rfl
theorem K5(c:Nat):bl (c+1)=bl c++[.p (.str [32]),.p (.int .i64 1)]:=by
 rw[bl,List.replicate_succ',zjC];rfl
theorem ziS(c:Nat):(bl c).length=2*c:=by rw[bl,jo,List.length_replicate]
theorem zbq(f:Tok→Option Tok)(c:Nat):List.map (AV.ren f) (bl c)=bl c:=qK _ _
theorem zfT(r1 t1 r2 t2:Tok→Bool)(c:Nat):List.map (AV.upd (fil r1 t1)∘AV.upd (fil r2 t2)) (bl c)=bl c:=wA _ _ _ _ _
theorem jt(rt tt:Tok→Bool)(c:Nat):List.map (AV.upd (fil rt tt)) (bl c)=bl c:=zJ _ _ _
theorem zm3(l:zt)(c:Nat):List.take (c*2) (cw l)=cw (l.take c):=by
 induction l generalizing c with
 |nil=>simp[cw]
 |cons x l ih=>
  cases c with
  |zero=>rfl
  |succ c=>
   rw[show(c+1)*2=c*2+1+1 from by omega]
   simp only[cw,List.take_succ_cons,ih]
theorem zmm(l:zt)(c:Nat):List.drop (c*2) (cw l)=cw (l.drop c):=by
 induction l generalizing c with
 |nil=>simp[cw]
 |cons x l ih=>
  cases c with
  |zero=>rfl
  |succ c=>
   rw[show(c+1)*2=c*2+1+1 from by omega]
   simp only[cw,List.drop_succ_cons,ih]
theorem zfF {l:zt} {c:Nat}(h:c<l.length):(cw l)[c*2+1]?=some (.p (.int .i64 l[c].w)):=by
 induction l generalizing c with
 |nil=>simp at h
 |cons x l ih=>
  cases c with
  |zero=>rfl
  |succ c=>
   rw[show(c+1)*2+1=c*2+1+1+1 from by omega]
   simp only[cw,List.getElem?_cons_succ,List.getElem_cons_succ]
   exact ih (by simpa using h)
theorem kh {l:zt} {c:Nat}(t:List UInt8)(w:Int)(h:c<l.length):List.take (c*2) (cw l)++.p (.str t)::.p (.int .i64 w)::List.drop (c*2+2) (cw l)=cw (l.set c ⟨t,w⟩):=by
 rw[show c*2+2=(c+1)*2 from by omega,zm3,zmm,List.set_eq_take_append_cons_drop,if_pos h,zjC]
 rfl
def Qz(l:zt)(c:Nat):zt:=if(l.getD c blk).w=0 then l.set (c-1) blk else l
def Q3(l:zt)(c:Nat):zt:=if(l.getD c blk).w=2 then l.set (c+1) blk else l
def qH(l:zt)(c:Nat):zt:=(Q3 (Qz l c) c).set c blk
theorem qp {l:zt} {c:Nat}(h:c<l.length):l.getD c blk=l[c]:=by rw[List.getD_eq_getElem?_getD,List.getElem?_eq_getElem h];rfl
theorem WL(l:zt)(c:Nat):(Qz l c).length=l.length:=by unfold Qz;split<;>simp
theorem Wl(l:zt)(c:Nat):(Q3 l c).length=l.length:=by unfold Q3;split<;>simp
theorem jw(l:zt)(c:Nat):(qH l c).length=l.length:=by rw[qH,List.length_set,Wl,WL]
def OkR(l:zt):Prop:=∀(c:Nat) (x:Cl),l[c]?=some x→(x.w=0→0<c)∧(x.w=2→c+1<l.length)
theorem OkR.set {l:zt}(h:OkR l)(c:Nat)(x:Cl)(h0:x.w=0→0<c)(h2:x.w=2→c+1<l.length):OkR (l.set c x):=fun k y hy=>by
 rw[List.length_set]
 rw[List.getElem?_set]at hy
 split at hy
 ·rename_i e
  split at hy
  ·injection hy with hy;subst hy;subst e;exact⟨h0,h2⟩
  ·cases hy
 ·exact h k y hy
theorem OkR.blank {l:zt}(h:OkR l)(c:Nat):OkR (l.set c blk):=h.set c blk (by simp[blk]) (by simp[blk])
theorem OkR.Qz {l:zt}(h:OkR l)(c:Nat):OkR (Qz l c):=by unfold Go.Proofs.YtfjdbbpimklecaaGreatDoor.Qz;split<;>first|exact h.blank _|exact h
theorem OkR.Q3 {l:zt}(h:OkR l)(c:Nat):OkR (Q3 l c):=by unfold Go.Proofs.YtfjdbbpimklecaaGreatDoor.Q3;split<;>first|exact h.blank _|exact h
theorem OkR.qH {l:zt}(h:OkR l)(c:Nat):OkR (qH l c):=((h.Qz c).Q3 c).blank c
def x5(l:zt)(c:Nat)(x:Cl):zt:=(if x.w=2 then(qH (qH l c) (c+1)).set (c+1) ⟨[],0⟩else qH l c).set c x
def KD(C R:Nat)(r c:Int)(x:Cl):Bool:=decide (0≤r)&&decide (r<R)&&decide (0≤c)&&decide (c<C)&&(decide (x.w=1) || decide (x.w=2))&&(!decide (x.w=2) || decide (c+1<C))
def KF(C R:Nat)(r c:Int)(x:Cl)(i:Nat)(l:zt):zt:=if KD C R r c x then if r=(i:Int)then x5 l c.toNat x else l else l
theorem zkK(l:zt)(c:Nat)(x:Cl):(x5 l c x).length=l.length:=by
 unfold x5
 split<;>simp[jw]
theorem ziU(C R:Nat)(r c:Int)(x:Cl)(i:Nat)(l:zt):(KF C R r c x i l).length=l.length:=by
 unfold KF
 split
 ·split
  ·exact zkK _ _ _
  ·rfl
 ·rfl
theorem zmv(C R:Nat)(r c:Int)(x:Cl)(i:Nat)(l:zt)(hl:l.length=C)(h:OkR l):OkR (KF C R r c x i l):=by
 unfold KF
 split
 ·rename_i hb
  split
  ·have hb':((((0≤r∧r<R)∧0≤c)∧c<C)∧(x.w=1∨x.w=2))∧(¬x.w=2∨c+1<C):=by simpa[KD]using hb
   obtain⟨⟨⟨⟨_,h0⟩,h1⟩,h2⟩,h3⟩:=hb'
   unfold x5
   by_cases hw:x.w=2
   ·rw[if_pos hw]
    refine(((h.qH _).qH _).set _ _ (fun _=>by omega) (fun e=>by simp at e)).set _ _ (fun e=>by omega) (fun _=>?_)
    rw[List.length_set,jw,jw,hl]
    have:=h3.resolve_left (by simpa using hw)
    omega
   ·rw[if_neg hw]
    exact(h.qH _).set _ _ (fun e=>by omega) (fun e=>absurd e hw)
  ·exact h
 ·exact h
def zc:Cl:=⟨[],0⟩
def nw(n i:Nat):zt:=List.replicate i blk++List.replicate (n-i) zc
theorem zol {n i:Nat}(h:i≤n):(nw n i).length=n:=by simp[nw];omega
theorem zmj(n:Nat):(List.replicate n [AV.p (PV.str []),AV.p (PV.int .i64 0)]).flatten=cw (nw n 0):=by
 have:∀n,(List.replicate n [AV.p (PV.str []),AV.p (PV.int .i64 0)]).flatten=cw (List.replicate n zc):=by
  intro n
  induction n with
  |zero=>rfl
  |succ n ih=>
   simp only[List.replicate_succ,List.flatten_cons]at ih⊢
   rw[ih];rfl
 rw[this,nw];rfl
theorem zoI {n i:Nat}(h:i<n):(nw n i).set i blk=nw n (i+1):=by
 apply List.ext_getElem?
 intro j
 simp only[nw,List.getElem?_set,List.getElem?_append,List.length_append,List.length_replicate,List.getElem?_replicate]
 repeat' split
 all_goals first|rfl|(exfalso;omega)
theorem znL(n:Nat):nw n n=List.replicate n blk:=by simp[nw]
def inB(R C:Nat)(r c:Int):Bool:=decide (0≤r)&&decide (r<R)&&decide (0≤c)&&decide (c<C)
def y8(l:zt)(i:Nat):zt:=if(l.getD i blk).w=0 then l.set (i-1) blk else if(l.getD i blk).w=2 then l.set (i+1) blk else l
def qV(l:zt)(i:Nat):zt:=(y8 l i).set i blk
theorem XJ(l:zt)(i:Nat):(y8 l i).length=l.length:=by unfold y8;split<;>(try split)<;>simp
theorem jv(l:zt)(i:Nat):(qV l i).length=l.length:=by rw[qV,List.length_set,XJ]
theorem OkR.qV {l:zt}(h:OkR l)(i:Nat):OkR (qV l i):=by
 unfold Go.Proofs.YtfjdbbpimklecaaGreatDoor.qV y8
 split
 ·exact(h.blank _).blank _
 ·split
  ·exact(h.blank _).blank _
  ·exact h.blank _
def yF(R C:Nat)(r c:Int)(x:Cl):Bool:=inB R C r c&&(decide (x.w=1) || decide (x.w=2))&&inB R C r (c+x.w-1)
def V5(l:zt)(i:Nat)(x:Cl):zt:=(if x.w=2 then(qV (qV l i) (i+1)).set (i+1) ⟨[],0⟩else qV l i).set i x
def Q9(R C:Nat)(r c:Int)(x:Cl)(l:zt):zt:=if yF R C r c x then V5 l (r.toNat*C+c.toNat) x else l
theorem zj0(l:zt)(i:Nat)(x:Cl):(V5 l i x).length=l.length:=by
 unfold V5
 split<;>simp[jv]
theorem zie(R C:Nat)(r c:Int)(x:Cl)(l:zt):(Q9 R C r c x l).length=l.length:=by
 unfold Q9
 split
 ·exact zj0 _ _ _
 ·rfl
theorem zi3(R C:Nat)(r c:Int)(x:Cl)(l:zt)(hl:l.length=R*C)(h:OkR l):OkR (Q9 R C r c x l):=by
 unfold Q9
 split
 ·rename_i hb
  have hb':((((0≤r∧r<R)∧0≤c)∧c<C)∧(x.w=1∨x.w=2))∧((0≤r∧r<R)∧0≤c+x.w-1)∧c+x.w-1<C:=by simpa[yF,inB]using hb
  obtain⟨⟨⟨⟨⟨h0,h0'⟩,h1⟩,h2⟩,h3⟩,_,h4⟩:=hb'
  have hk:r.toNat*C+C≤R*C:=by rw[←Nat.succ_mul];exact Nat.mul_le_mul_right _ (by omega)
  unfold V5
  by_cases hw:x.w=2
  ·rw[if_pos hw]
   refine(((h.qV _).qV _).set _ _ (fun _=>by omega) (fun e=>by simp at e)).set _ _ (fun e=>by omega) (fun _=>?_)
   rw[List.length_set,jv,jv,hl]
   omega
  ·rw[if_neg hw]
   exact(h.qV _).set _ _ (fun e=>by omega) (fun e=>absurd e hw)
 ·exact h
def qe(l:zt):PV:=.sl 2 (l.map clP)
attribute [go_sem] qe
theorem zgT(l:zt):cw l=((l.map clP).flatMap PV.cells).map .p:=by
 induction l with
 |nil=>rfl
 |cons c l ih=>
  simp only[List.map_cons,List.flatMap_cons,List.map_append,←ih]
  rfl
theorem YV(l:zt):∀e∈l.map clP,e.cells.length=2∧e.fits=true:=by
 intro e he
 simp only[List.mem_map]at he
 obtain⟨c,_,rfl⟩:=he
 exact⟨rfl,rfl⟩
def zm(C:Nat)(l:zt)(k:Nat):zt:=(l.drop (k*C)).take C
theorem ZA {R C:Nat} {l:zt} {k:Nat}(hl:l.length=R*C)(hk:k<R):(zm C l k).length=C:=by
 have h5:k*C+C≤R*C:=by rw[←Nat.succ_mul];exact Nat.mul_le_mul_right _ hk
 simp only[zm,List.length_take,List.length_drop];omega
theorem YB(x y:Cl):(x.t=y.t∧x.w=y.w)↔x=y:=by
 cases x;cases y;simp
theorem zgk {C i c j d:Nat}(hc:c<C)(hd:d<C):i*C+c=j*C+d↔i=j∧c=d:=by
 constructor
 ·intro h
  have h1:(i*C+c)/C=i:=by rw[Nat.add_comm,Nat.mul_comm,Nat.add_mul_div_left _ _ (by omega),Nat.div_eq_of_lt hc];omega
  have h2:(j*C+d)/C=j:=by rw[Nat.add_comm,Nat.mul_comm,Nat.add_mul_div_left _ _ (by omega),Nat.div_eq_of_lt hd];omega
  have:i=j:=by rw[←h1,←h2,h]
  subst this
  exact⟨rfl,by omega⟩
 ·rintro⟨rfl,rfl⟩;rfl
theorem vI {C:Nat} {l:zt} {k c:Nat}(hc:c<C):(zm C l k)[c]?=l[k*C+c]?:=by
 rw[zm,List.getElem?_take,if_pos hc,List.getElem?_drop]
theorem zfo {C:Nat} {l:zt} {k c:Nat}(hc:c<C):(zm C l k).getD c blk=l.getD (k*C+c) blk:=by
 rw[List.getD_eq_getElem?_getD,List.getD_eq_getElem?_getD,vI hc]
theorem zkA {C:Nat} {a b:zt}(ha:a.length≤C)(hb:b.length≤C)(h:∀c,c<C→a[c]?=b[c]?):a=b:=by
 apply List.ext_getElem?
 intro c
 by_cases hc:c<C
 ·exact h c hc
 ·rw[List.getElem?_eq_none (by omega),List.getElem?_eq_none (by omega)]
theorem vD {C:Nat} {l:zt} {k:Nat}:(zm C l k).length≤C:=by rw[zm];simp;omega
theorem Z0 {C:Nat} {l:zt} {i c k:Nat} {x:Cl}(hc:c<C):zm C (l.set (i*C+c) x) k=if k=i then(zm C l i).set c x else zm C l k:=by
 apply zkA vD (by split<;>simp[vD])
 intro d hd
 rw[vI hd,List.getElem?_set]
 by_cases hk:k=i
 ·subst hk
  rw[if_pos rfl,List.getElem?_set,vI hd]
  by_cases hcd:c=d
  ·subst hcd
   rw[if_pos rfl,if_pos rfl]
   by_cases hl:k*C+c<l.length
   ·rw[if_pos hl,if_pos (by rw[zm];simp;omega)]
   ·rw[if_neg hl,if_neg (by rw[zm];simp;omega)]
  ·rw[if_neg (fun e=>hcd ((zgk hc hd).1 e).2),if_neg hcd]
 ·rw[if_neg hk,if_neg (fun e=>hk ((zgk hc hd).1 e).1.symm),vI hd]
theorem XL {C:Nat} {l:zt} {i c k:Nat}(hc:c<C)(_:i*C+c<l.length)(ho:OkR (zm C l i))(hlen:(zm C l i).length=C):zm C (qV l (i*C+c)) k=if k=i then qH (zm C l i) c else zm C l k:=by
 have hcl:c< (zm C l i).length:=by omega
 have hget:=zfo (C:=C) (l:=l) (k:=i) hc
 have hrow:=qp hcl
 obtain⟨o1,o2⟩:=ho c _ (List.getElem?_eq_getElem hcl)
 rw[←hrow,hget]at o1 o2
 rw[hlen]at o2
 unfold qV y8 qH Q3 Qz
 rw[hget]
 by_cases h0:(l.getD (i*C+c) blk).w=0
 ·rw[if_pos h0,if_pos h0]
  have hp:=o1 h0
  have e1:i*C+c-1=i*C+(c-1):=by omega
  have e2:((zm C l i).set (c-1) blk).getD c blk=l.getD (i*C+c) blk:=by
   rw[←hget,List.getD_eq_getElem?_getD,List.getD_eq_getElem?_getD,List.getElem?_set,if_neg (by omega)]
  have h2n:¬(l.getD (i*C+c) blk).w=2:=by omega
  rw[e2,if_neg h2n,e1,Z0 hc]
  by_cases hk:k=i
  ·rw[if_pos hk,if_pos hk,Z0 (by omega),if_pos rfl]
  ·rw[if_neg hk,if_neg hk,Z0 (by omega),if_neg hk]
 ·rw[if_neg h0,if_neg h0,hget]
  by_cases h2:(l.getD (i*C+c) blk).w=2
  ·have hp:=o2 h2
   rw[if_pos h2,if_pos h2,show i*C+c+1=i*C+(c+1)from by omega,Z0 hc]
   by_cases hk:k=i
   ·rw[if_pos hk,if_pos hk,Z0 hp,if_pos rfl]
   ·rw[if_neg hk,if_neg hk,Z0 hp,if_neg hk]
  ·rw[if_neg h2,if_neg h2,Z0 hc]
theorem zjV(R C:Nat)(r c:Int)(x:Cl):yF R C r c x=KD C R r c x:=by
 rw[Bool.eq_iff_iff]
 simp only[yF,KD,inB,Bool.and_eq_true,Bool.or_eq_true,decide_eq_true_eq,Bool.not_eq_true']
 by_cases h:x.w=2
 ·simp[h];omega
 ·simp[h];omega
theorem znv {R C i c:Nat} {l:zt}(hl:l.length=R*C)(hi:i<R)(hc:c<C):i*C+c<l.length:=by
 have:(i+1)*C≤R*C:=Nat.mul_le_mul (by omega) (Nat.le_refl _)
 rw[Nat.add_mul]at this
 omega
theorem zmG {R C:Nat} {l:zt} {i c k:Nat} {x:Cl}(hl:l.length=R*C)(hi:i<R)(hc:c<C)(hw:x.w=2→c+1<C)(ho:OkR (zm C l i)):
  zm C (V5 l (i*C+c) x) k=if k=i then x5 (zm C l i) c x else zm C l k:=by
 have hlen:=ZA hl hi
 have L1:∀k,zm C (qV l (i*C+c)) k=if k=i then qH (zm C l i) c else zm C l k:=fun k=>XL hc (znv hl hi hc) ho hlen
 unfold V5 x5
 by_cases h2:x.w=2
 ·have hc1:=hw h2
  rw[if_pos h2,if_pos h2]
  have hl1:(qV l (i*C+c)).length=R*C:=by rw[jv,hl]
  have r1:=L1 i
  rw[if_pos rfl]at r1
  have L2:∀k,zm C (qV (qV l (i*C+c)) (i*C+c+1)) k=if k=i then qH (qH (zm C l i) c) (c+1)else zm C l k:=fun k=>by
   rw[show i*C+c+1=i*C+(c+1)from by omega,XL hc1 (znv hl1 hi hc1) (by rw[r1];exact ho.qH c) (by rw[r1,jw,hlen]),r1]
   by_cases hk:k=i
   ·rw[if_pos hk,if_pos hk]
   ·rw[if_neg hk,if_neg hk,L1,if_neg hk]
  rw[Z0 hc,show i*C+c+1=i*C+(c+1)from by omega]
  rw[show i*C+c+1=i*C+(c+1)from by omega]at L2
  by_cases hk:k=i
  ·rw[if_pos hk,if_pos hk,Z0 hc1,if_pos rfl,L2,if_pos rfl]
  ·rw[if_neg hk,if_neg hk,Z0 hc1,if_neg hk,L2,if_neg hk]
 ·rw[if_neg h2,if_neg h2,Z0 hc]
  by_cases hk:k=i
  ·rw[if_pos hk,if_pos hk,L1,if_pos rfl]
  ·rw[if_neg hk,if_neg hk,L1,if_neg hk]
theorem zir {R C:Nat} {l:zt} {i:Nat} {r c:Int} {x:Cl}(hl:l.length=R*C)(_:i<R)(ho:∀j,j<R→OkR (zm C l j)):zm C (Q9 R C r c x l) i=KF C R r c x i (zm C l i):=by
 unfold Q9 KF
 rw[zjV]
 by_cases hb:KD C R r c x=true
 ·rw[if_pos hb,if_pos hb]
  simp only[KD,Bool.and_eq_true,Bool.or_eq_true,decide_eq_true_eq,Bool.not_eq_true',decide_eq_false_iff_not]at hb
  obtain⟨⟨⟨⟨⟨h0,h1⟩,h2⟩,h3⟩,_⟩,h5⟩:=hb
  obtain⟨q,rfl⟩:∃q:Nat,r=q:=⟨r.toNat,by omega⟩
  obtain⟨p,rfl⟩:∃p:Nat,c=p:=⟨c.toNat,by omega⟩
  simp only[Int.toNat_natCast]
  rw[zmG hl (by omega) (by omega) (fun h=>by rcases h5 with h5|h5<;>omega) (ho q (by omega))]
  by_cases hk:i=q
  ·subst hk;rw[if_pos rfl,if_pos rfl]
  ·rw[if_neg hk,if_neg (by omega)]
 ·rw[if_neg hb,if_neg hb]
theorem kG {Q:Cl→Prop} {l:zt} {c:Nat} {x:Cl}(h:∀y∈l,Q y)(hx:Q x):∀y∈l.set c x,Q y:=fun y hy=>by
 rcases List.mem_or_eq_of_mem_set hy with h1|h1
 ·exact h y h1
 ·rw[h1];exact hx
theorem WN {Q:Cl→Prop} {l:zt} {i:Nat}(h:∀y∈l,Q y)(hb:Q blk):∀y∈qV l i,Q y:=by
 unfold qV y8
 split
 ·exact kG (kG h hb) hb
 ·split
  ·exact kG (kG h hb) hb
  ·exact kG h hb
end
end Go.Proofs.YtfjdbbpimklecaaGreatDoor
namespace Go.AM
section
@[go_sem] def zoc : AV → Option Value
 |.p (.int k n)=>some (.int k n)
 |.p (.bool b)=>some (.bool b)
 |.p (.agg [.int k n,.int j m])=>some (.agg #[.int k n,.int j m])
 |_=>none
theorem zh0 {g:Gh} {w:World} {x:AV} {u v:Value}(h:zoc x=some u)(r:zb g w x v):v=u:=by
 unfold zoc at h
 split at h
 ·injection h with h;subst h;simpa only[zb,zl]using r
 ·injection h with h;subst h;simpa only[zb,zl]using r
 ·injection h with h;subst h
  simp only[zb,zl,zw]at r
  obtain⟨vs,rfl,v1,l1,e1,_,rfl,v2,l2,rfl,_,rfl,rfl⟩:=r
  congr 1
  exact Array.ext' e1
 ·cases h
@[go_sem] def u5 (S : St) : List Operand → Prop × Option (List Value)
 | []=>(True,some [])
 |x::l=>((unG (S.ev x)).1∧(u5 S l).1,match zoc (unG (S.ev x)).2,(u5 S l).2 with
  |some v,some vs=>some (v::vs)
  |_,_=>none)
section
variable [Gi] {P:Program} {E:Ent} {Q:Exit→St→Prop} {S:St}
theorem Yc {g:Gh} {a:Act} {w:World}(hS:SR E S g a w):∀{l:List Operand} {vs:List Value},(u5 S l).1→(u5 S l).2=some vs→l.map a.eval=vs
 | [],vs,_,h=>by simp only[u5,Option.some.injEq]at h;subst h;rfl
 |x::l,vs,h1,h=>by
  simp only[u5]at h1 h
  split at h
  ·rename_i v vs' e1 e2
   injection h with h;subst h
   rw[List.map_cons,Yc hS h1.2 e2,zh0 e1 (zu h1.1 (hS.ev x))]
  ·cases h
theorem zV.zog {id l d:Nat} {pre suf:List Oper} {o:Oper} {ops:List Oper}(hops:ops=pre++o::suf) {x:Operand} {as1:Array Operand} {tys:Array TypeId}(ho:o.op=.call ⟨.value x,as1,tys⟩)(hdst:o.dst=some d)
  {pins:List Tok} (hd1:pre.all Zi=true) (hd2:suf.all Zi=true)
  (h:Zu P ops.toArray pre {S with ts:=[]} fun S1=>∃c Uy R,qj ops.toArray S1 o=some c∧c≠some false∧(unG (S1.ev x)).1∧(unG (S1.ev x)).2=.p (.opq (.func (.yield l) #[] #[]))∧(u5 S1 as1.toList).1∧(u5 S1 as1.toList).2=some Uy∧d<S1.n∧
   S1.pin.all (fun t=>pins.contains t)=true∧YJ P E l pins Uy S1 R∧∀rs,R rs→Zu P ops.toArray suf ((xH S1 pins rs).set d (.p (.bool true))) (Q .normal)):zV P E (.region id ops.toArray false) Q S:=by
 intro g a w hS
 refine(wpIn_wide (n:=0)).1 (QV (K:=fun a' w'=>∃S' g',Q .normal S'∧SR E S' g' a' w') (wpIn_region_list ?_) fun a' w' k=>k)
 show wpListIn Fence.wide 0 P ops.toArray (U2 fun a' w'=>∃S' g',Q .normal S'∧SR E S' g' a' w') ops a w
 generalize hoa:ops.toArray=oa at h⊢
 subst hops
 refine zbQ pre (o::suf) hd1 h hS.clean ?_
 rintro S1 g1 a1 w1 ⟨c,Uy,R,hg,hc,hu,hx,hl1,hl2,hd,hp,hY,hrest⟩ hs
 obtain⟨dst,op,tt,pos,after,guard⟩:=o
 simp only at ho hdst
 subst ho
 subst hdst
 have hw:Region.wanted ⟨some d,.call ⟨.value x,as1,tys⟩,tt,pos,after,guard⟩ (yielded oa a1.tmps)=true:=by
  cases c with
  |none=>exact yL hg _
  |some b=>
   rw[ki hs hg]
   cases b with
   |true=>rfl
   |false=>exact absurd rfl hc
 unfold wpListIn
 rw[if_pos hw]
 unfold Oper.wpIn
 rw[Oper.semAt_eq _ _ _ (fun c=>by simp)]
 refine⟨fun _ _=>trivial,?_⟩
 have hr:=zu hu (hs.ev x)
 rw[hx]at hr
 simp only[zb,zl]at hr
 have hargs:=Yc hs hl1 hl2
 obtain⟨fn,tm,asg,bd,hy1,hy2⟩:=hY g1 a1 w1 hs
 have hrun:(execOp a1.eval ⟨some d,.call ⟨.value x,as1,tys⟩,tt,pos,after,guard⟩).run P w1=.ok (.round l fn tm asg bd) w1:=by
  have ha:(as1.map a1.eval)=Uy.toArray:=by
   rw[←hargs];apply Array.ext';simp
  simp only[execOp,resolve,hr,Deferred.ofValue,Sem.run_bind,Sem.run_pure,Result.andThen_ok,invoke]
  rw[←hy1]
  congr 1
  simp[ha]
 rw[hrun]
 refine⟨fun e=>(by cases e),RoundIn.mono hy2 ?_⟩
 rintro e w' ⟨rfl,S',g',a',gl,hs',hp',hR⟩
 have c0:=hs.comp (show SR ⟨w1,g1,hs.gl⟩ S' g' a' w' from hs') (fun t ht=>by rw[hp'];exact(List.contains_iff_mem).1 (List.all_eq_true.1 hp t ht))
 have kv:=KV.of hs (show SR ⟨w1,g1,hs.gl⟩ S' g' a' w' from hs') hp'
 have hb:=hs.back c0 kv rfl
 have hb2:=hb.put (d:=d) (x:=.p (.bool true)) (v:=.bool true) (by simp only[zb,zl]) hd
 exact xV (r:=none) (n:=0) (we _) suf _ _ hd2 (jE (K:=Q .normal) (fun S' g' a' w' hk hs=>⟨S',g',hk,hs⟩) suf (hrest _ hR) hb2)
end
theorem zV.VO [Gi] {P:Program} {E:Ent} {Q:Exit→St→Prop} {S:St} {id l d:Nat}(i:Nat) {o:Oper} {ops:List Oper}(hi:ops[i]?=some o) {x:Operand} {as1:Array Operand} {tys:Array TypeId}(ho:o.op=.call ⟨.value x,as1,tys⟩)(hdst:o.dst=some d)
  {pins:List Tok} (hd1:(ops.take i).all Zi=true) (hd2:(ops.drop (i+1)).all Zi=true)
  (h:Zu P ops.toArray (ops.take i) {S with ts:=[]} fun S1=>∃c Uy R,qj ops.toArray S1 o=some c∧c≠some false∧(unG (S1.ev x)).1∧(unG (S1.ev x)).2=.p (.opq (.func (.yield l) #[] #[]))∧(u5 S1 as1.toList).1∧(u5 S1 as1.toList).2=some Uy∧d<S1.n∧
   S1.pin.all (fun t=>pins.contains t)=true∧YJ P E l pins Uy S1 R∧∀rs,R rs→Zu P ops.toArray (ops.drop (i+1)) ((xH S1 pins rs).set d (.p (.bool true))) (Q .normal)):zV P E (.region id ops.toArray false) Q S:=by
 refine zV.zog (pre:=ops.take i) (suf:=ops.drop (i+1)) (o:=o) ?_ ho hdst hd1 hd2 h
 obtain⟨hlt,rfl⟩:=List.getElem?_eq_some_iff.1 hi
 rw[←List.drop_eq_getElem_cons hlt,List.take_append_drop]
theorem zle.zmt [Gi] {P:Program} {S:St} {Q:Exit→St→Prop} {sg p q id:Nat} {assign body rest:Code} {D:List Nat}(hm:P.follows .mixedOrders=true)
  {gf:FuncId} {caps:List AV} (hent:((P.funcs[gf]?).map (·.body.isSome))=some true) (hnam:((P.funcs[gf]?).map (·.name))≠some "runtime.NumGoroutine")
  {fn':Func} {c:Code} (nv:Nat) (ex:List Nat) (hf:P.funcs[gf]?=some fn') (hb:fn'.body=some c) (hres:fn'.results= #[]) (hnv:caps.length+1≤nv) (hn:caps.length+1≤fn'.ntmps)
  (V:List (Nat×AV)) (pins:List Tok) (R0:List (Tok×List AV)) (Rend:List (Tok×List AV)→Prop) (hV:V.map (fun x=>(x.1,yE pins x.2))=V) (hpins:∀t,t∈S.pin→t∈pins)
  (hsg:S.kept sg=true) (hVs:look V sg=none) (h0:LeS S (lst S (V++[(sg,.fn gf caps)]) R0 S.pin)) (hp:p<S.n) (hq:q<S.n) (hca:QU D assign=true) (hcb:QU D body=true)
  {ι:Type} (Ok:ι→Prop) (R nxt:ι→List (Tok×List AV)) (arg:ι→Int×AV×Value) (pr:ι→List Tok) (hpr:∀k t,t∈S.pin→t∈pr k) (hav:∀k g w,zb g w (arg k).2.1 (arg k).2.2)
  (hround:∀k,Ok k→wpA P D assign (zgt (pr k) fun S1=>wpA P D body (zeG S (pr k) (nxt k)) S1) (((lst S V (R k) (pr k)).set p (.p (.int .i64 (arg k).1))).set q (arg k).2.1))
  (hiter:∀(E:Ent) (l:Nat),(∀k S1,Ok k→S1.rs=R k→S1.pin=pins→YJ P E l (pr k) [.int .i64 (arg k).1,(arg k).2.2] S1 (fun rs=>rs=nxt k))→zV P E c (zhx pins Rend) (itS fn' nv ex l caps R0 pins))
  (hrest:∀rs,Rend rs→zlA P rest Q (lst S V rs S.pin)):zle P (.block id (.rangeFunc (.tmp sg) #[p,q] assign body)) rest Q S:=by
 intro E g a w hS
 obtain⟨g2,hA⟩:=hS.le h0
 have hgv:=hA.ev (.tmp sg)
 have hev:(lst S (V++[(sg,.fn gf caps)]) R0 S.pin).ev (.tmp sg)=.fn gf caps:=by
  show(lst S (V++[(sg,.fn gf caps)]) R0 S.pin).get sg=_
  have hk:(lst S (V++[(sg,.fn gf caps)]) R0 S.pin).kept sg=true:=hsg
  unfold St.get
  rw[if_pos hk]
  show qt (look (V++[(sg,AV.fn gf caps)]) sg)=_
  rw[Yt,hVs]
  simp[look,qt]
 rw[hev]at hgv
 simp only[zb]at hgv
 obtain⟨lb,hgv,hcaps⟩:=hgv
 have h2:SR E (lst S V R0 S.pin) g2 a w:=by
  refine hA.weaken rfl (fun t=>?_) rfl rfl
  have hk:(lst S (V++[(sg,.fn gf caps)]) R0 S.pin).kept t=(lst S V R0 S.pin).kept t:=rfl
  unfold St.get
  rw[hk]
  split
  ·show LeA (qt (look (V++[(sg,AV.fn gf caps)]) t)) (qt (look V t))
   rw[Yt]
   cases look V t with
   |none=>exact LeA.zY _
   |some x=>exact LeA.refl _
  ·exact LeA.refl _
 have hmono:E.w0.heap.size≤w.heap.size:=hS.mono
 have eg:∀args w,(callFunc gf args).run P w=.ok (.enter gf args) w:=fun args w=>jW hent hnam
 refine wpIn_block (wpIn_rangeFunc ?_)
 intro fn hfn
 obtain⟨rec,hrec⟩:∃rec:LoopState→Option Code→Loop,rec=fun st pe=>{state:=st,pending:=pe,fn,tmps:=a.tmps,params:= #[p,q],assign,body,defers:=w.heap.size}:=⟨_,rfl⟩
 obtain⟨W1,hW1⟩:∃W1,(w.alloc (.deferred (some []))).alloc (.loop (rec .ready none))=W1:=⟨_,rfl⟩
 obtain⟨l,hl0⟩:∃l,l=w.heap.size+1:=⟨_,rfl⟩
 have hL1:W1.heap[l]?=some (.loop (rec .ready none)):=by
  rw[←hW1,hl0];have:=World.alloc_heap_new (w.alloc (.deferred (some []))) (.loop (rec .ready none));rwa[World.size_alloc]at this
 have hK1:W1.heap[w.heap.size]?=some (.deferred (some [])):=by
  rw[←hW1,heap_alloc,if_neg (by simp)];exact World.alloc_heap_new w _
 have h3:SR E (lst S V R0 S.pin) g2 a W1:=by rw[←hW1];exact(h2.alloc _).alloc _
 have prot2:∀b,w.heap.size≤b→g2.K b=.prot:=fun b hb=>Classical.byContradiction fun e=>by have:=(h2.own b e).1;omega
 have hmayL:E.may l:=.inl (by omega)
 have hl1:=(Array.getElem?_eq_some_iff.1 hL1).1
 have hD1:=(Array.getElem?_eq_some_iff.1 hK1).1
 have hA1:SR E (lst S (V++[(sg,.fn gf caps)]) R0 S.pin) g2 a W1:=by rw[←hW1];exact(hA.alloc _).alloc _
 have hcaps1:zo g2 W1 caps lb.toList:=by
  have h5:=hA1.ev (.tmp sg)
  rw[hev]at h5
  simp only[zb]at h5
  obtain⟨lb',h6,h7⟩:=h5
  rw[hgv]at h6
  injection h6 with _ _ h6
  subst h6
  exact h7
 have hG1:GS g2 W1 R0:=⟨h3.roots,h3.ur,h3.ut,fun b hb=>(h3.own b hb).1,h3.frb,h3.gl⟩
 have hyield:∀k S1,Ok k→S1.rs=R k→S1.pin=pins→YJ P ⟨W1,g2,h3.gl⟩ l (pr k) [.int .i64 (arg k).1,(arg k).2.2] S1 (fun rs=>rs=nxt k):=by
  intro k S1 hk hr1 hp1 g' a1 A hit
  have c0:=h3.comp hit (fun t ht=>by rw[hp1];exact hpins t ht)
  have hs:=h3.back c0 (KV.of h3 hit hp1) rfl
  have eb0:xH (lst S V R0 S.pin) pins S1.rs=lst S V (R k) S.pin:=by
   show({(lst S V R0 S.pin)with vs:=V.map (fun x=>(x.1,yE pins x.2)),ts:=[],rs:=S1.rs}:St)=_
   rw[hV,hr1];rfl
  rw[show xH (lst S V R0 S.pin) pins ({S1 with pin:=(lst S V R0 S.pin).pin}:St).rs=lst S V (R k) S.pin from eb0]at hs
  obtain⟨s1,_,hkl⟩:=h3.stays hit hl1 (prot2 _ (by omega))
  have hl:A.heap[l]?=some (.loop (rec .ready none)):=s1.trans hL1
  have hy:=run_yield (P:=P) (args:= #[.int .i64 (arg k).1,(arg k).2.2]) hl (by rw[hrec];rfl)
  rw[hrec]at hy
  refine⟨fn,_,assign,body,hy,roundIn_of_wpIn hfn ?_⟩
  have eput:({tmps:=((#[p,q]:Array Nat).zip #[Value.int .i64 (arg k).1,(arg k).2.2]).foldl (fun tmps (x:Nat×Value)=>tmps.setIfInBounds x.1 x.2) a.tmps,defers:=[]}:Act)=(a.put (some p) (.int .i64 (arg k).1)).put (some q) (arg k).2.2:=by
   have:=hS.defers
   cases a
   simp only at this
   subst this
   simp[Act.put]
  have e1:SR ⟨A,g',hs.gl⟩ (lst S V (R k) (pr k)) g' a A:=hs.zjh (pr k)
  have e2:=(e1.put (d:=p) (x:=.p (.int .i64 (arg k).1)) (v:=.int .i64 (arg k).1) (by simp only[zb,zl]) hp).put (d:=q) (x:=(arg k).2.1) (v:=(arg k).2.2) (hav k _ _) (by rw[St.zfU];exact hq)
  rw[←eput]at e2
  refine wpIn_mono (jn (r:=some l) (n:=0) hm assign hca (hround k hk) e2) ?_
  rintro e a2 Wa ⟨S2,g1,hq1,hs1⟩
  cases e with
  |normal=>
   obtain⟨hp2,hbody⟩:=hq1
   obtain⟨l1,_,l3⟩:=hs.stays hs1 (Array.getElem?_eq_some_iff.1 hl).1 hkl
   have hlA:=l1.trans hl
   have cA:=hs.comp hs1 (fun t ht=>by rw[hp2];exact hpr k t ht)
   have hbr:=run_beginRound (P:=P) hlA (by rw[hrec])
   have c2:=cA.wx (o':=.loop {rec .ready none with state:=.busy}) hlA rfl rfl l3 hmayL
   obtain⟨Wb,hWb⟩:∃Wb,Wb=Wa.putObj l (.loop {rec .ready none with state:=.busy}):=⟨_,rfl⟩
   have hb2:Wb.heap[l]?=some (.loop {rec .ready none with state:=.busy}):=by rw[hWb];exact World.putObj_heap_same (Array.getElem?_eq_some_iff.1 hlA).1
   have hbo:∀b,b≠l→Wb.heap[b]?=Wa.heap[b]?:=fun b hb=>by rw[hWb];exact World.putObj_heap_other hb
   have hbs:Wb.heap.size=Wa.heap.size:=by rw[hWb];simp only[World.putObj_size]
   have kvb:KV g1 Wa g1 Wb (pr k):=by rw[hWb];exact KV.wx hlA rfl rfl
   have hbout:Wb.os=Wa.os∧Wb.tape=Wa.tape∧Wb.output=Wa.output:=by rw[hWb];exact⟨rfl,rfl,rfl⟩
   rw[←hWb]at c2 hbr
   have e3:=c2.zjh (pr k)
   rw[St.znF hp2]at e3
   refine⟨_,hbr,wpIn_mono (jn (r:=some l) (n:=0) hm body hcb hbody e3) ?_⟩
   rintro e a3 W3 ⟨S3,g3,hq3,hs3⟩
   cases e with
   |normal=>
    obtain⟨g4,hs4⟩:=hs3.leR hq3.2
    obtain⟨l4,_,l6⟩:=c2.stays hs4 (Array.getElem?_eq_some_iff.1 hb2).1 l3
    have hl4:=l4.trans hb2
    have c3:=c2.comp hs4 (fun t ht=>hpr k t ht)
    have c4:=c3.wx (o':=.loop (rec .ready none)) hl4 rfl rfl l6 hmayL
    have hrun:=run_endRound (P:=P) none hl4
    rw[hrec]at hrun
    obtain⟨W4,hW4⟩:∃W4,W4=W3.putObj l (.loop (rec .ready none)):=⟨_,rfl⟩
    have h4l:W4.heap[l]?=some (.loop (rec .ready none)):=by rw[hW4];exact World.putObj_heap_same (Array.getElem?_eq_some_iff.1 hl4).1
    have h4o:∀b,b≠l→W4.heap[b]?=W3.heap[b]?:=fun b hb=>by rw[hW4];exact World.putObj_heap_other hb
    have h4s:W4.heap.size=W3.heap.size:=by rw[hW4];simp only[World.putObj_size]
    have h4out:W4.os=W3.os∧W4.tape=W3.tape∧W4.output=W3.output:=by rw[hW4];exact⟨rfl,rfl,rfl⟩
    have kv4:KV g4 W3 g4 W4 (pr k):=by rw[hW4];exact KV.wx hl4 rfl rfl
    rw[←hW4]at c4
    have chain:∀b,b<A.heap.size→g'.K b=.prot→W4.heap[b]?=A.heap[b]?∧g4.fr b=g'.fr b∧g4.K b=.prot:=fun b hb hkb=>by
     obtain⟨q1,q2,q3⟩:=hs.stays hs1 hb hkb
     have hbW:b<Wb.heap.size:=by
      have h9:A.heap.size≤Wa.heap.size:=hs1.mono
      omega
     obtain⟨q4,q5,q6⟩:=c2.stays hs4 hbW q3
     refine⟨?_,q5.trans q2,q6⟩
     by_cases e:b=l
     ·rw[e,h4l,hl]
     ·rw[h4o b e,q4,hbo b e,q1]
    refine⟨_,W4,?_,rfl,lst S [] (nxt k) (pr k),g4,a3,hs.gl,⟨c4.size,c4.defers,c4.slots,c4.roots,c4.ur,c4.ut,fun b hb=>⟨(c4.own b hb).1,?_⟩,fun b hb=>?_,?_,?_,?_,c4.frb,fun b t hkb ht=>?_⟩,rfl,rfl⟩
    ·rw[hW4,hrec];exact hrun
    ·rcases Nat.lt_or_ge b A.heap.size with h9|h9
     ·right
      intro e
      exact hb (chain b h9 e).2.2
     ·exact .inl h9
    ·have h9:b<A.heap.size:=Classical.byContradiction fun hc=>hb (.inl (Nat.not_lt.1 hc))
     have h8:g'.K b=.prot:=Classical.byContradiction fun hc=>hb (.inr hc)
     exact⟨(chain b h9 h8).1,(chain b h9 h8).2.1⟩
    ·exact((hs1.ext.trans kvb.ext).trans hs4.ext).trans kv4.ext
    ·exact⟨h4out.1.trans (hs4.out.1.trans (hbout.1.trans hs1.out.1)),h4out.2.1.trans (hs4.out.2.1.trans (hbout.2.1.trans hs1.out.2.1)),h4out.2.2.trans (hs4.out.2.2.trans (hbout.2.2.trans hs1.out.2.2))⟩
    ·have h9:A.heap.size≤Wa.heap.size:=hs1.mono
     have h8:Wb.heap.size≤W3.heap.size:=hs4.mono
     show A.heap.size≤W4.heap.size
     omega
    ·obtain⟨k1,k2⟩:=hs1.pins b t hkb (by rw[hp2];exact ht)
     obtain⟨k3,k4⟩:=hs4.pins b t k1 ht
     have hbl:b≠l:=fun e=>by rw[e,hkl]at hkb;cases hkb
     exact⟨k3,fun n hn=>Blk.of_heap (h4o b hbl) (k4 n (Blk.of_heap (hbo b hbl) (k2 n hn)))⟩
   |ret=>exact False.elim hq3.elim
   |_=>exact hq3.elim
  |_=>exact hq1.elim
 have qI:=zoy nv ex hf hb hres hcaps1 hnv hn hG1 (hiter ⟨W1,g2,h3.gl⟩ l hyield)
 refine⟨l,[mark w.heap.size],W1,{target:=.fn (.func gf) lb,args:= #[.func (.yield l) #[] #[]]},W1,gf,
  #[.func (.yield l) #[] #[]]++lb,W1,?_,?_,fun _ _=>trivial,?_,fun e=>(by cases e),?_⟩
 ·rw[←hW1,hrec,hl0];exact run_enterLoop_outer _ _ _ _ _
 ·simp only[resolve,hgv]
  simp[go_sem]
 ·simp[invoke,go_sem,eg]
 have ea:({a with defers:=[mark w.heap.size]++a.defers}:Act)=j5 [mark w.heap.size] a:=by rw[hS.defers];rfl
 rw[ea]
 have elb:lb.toList.toArray=lb:=by simp
 rw[elb]at qI
 refine CallsIn.mono qI ?_
 rintro e W2 ⟨⟨v,rfl⟩,S',g',a',hs',hp',hR'⟩
 have c0:=h3.comp hs' (fun t ht=>by rw[hp'];exact hpins t ht)
 have hs:=h3.back c0 (KV.of h3 hs' hp') rfl
 have eb0:xH (lst S V R0 S.pin) pins S'.rs=lst S V S'.rs S.pin:=by
  show({(lst S V R0 S.pin)with vs:=V.map (fun x=>(x.1,yE pins x.2)),ts:=[],rs:=S'.rs}:St)=_
  rw[hV];rfl
 rw[show xH (lst S V R0 S.pin) pins ({S' with pin:=(lst S V R0 S.pin).pin}:St).rs=lst S V S'.rs S.pin from eb0]at hs
 obtain⟨s1,_,hkl⟩:=h3.stays hs' hl1 (prot2 _ (by omega))
 obtain⟨s2,_,hkD⟩:=h3.stays hs' hD1 (prot2 _ (Nat.le_refl _))
 refine⟨none,_,by have:=run_endLoop (P:=P) (s1.trans hL1) (by rw[hrec];simp);rw[hrec]at this;exact this,?_⟩
 exact hrest _ hR' E g' a _ w.heap.size (hs.wx (s1.trans hL1) rfl rfl hkl hmayL) hkD ((World.putObj_heap_other (by omega)).trans (s2.trans hK1)) hmono
end
end Go.AM
