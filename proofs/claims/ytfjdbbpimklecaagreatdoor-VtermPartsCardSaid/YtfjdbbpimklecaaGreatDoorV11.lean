/- A part of this seat's proofs, by an abstract machine. Conditions: each law's. -/
import Derived.Test.YtfjdbbpimklecaaGreatDoorV10
import Derived.StillTail
import Derived.Tactics
namespace Go.AM
section
theorem yI {ops:Array Oper} {S:St} {o:Oper}(h:zY ops S o=some none)(y:Nat→Option Bool):Region.wanted o y=true:=by
 unfold zY at h
 unfold Region.wanted
 split at h
 ·rename_i h';rw[h']
 ·split at h
  ·cases hg:Yd (S.get _) _<;>rw[hg]at h<;>simp at h
  ·cases h
theorem jV [Gi] {ops:Array Oper} {E:Ent} {S:St} {g:Gh} {a:Act} {w:World}(hS:SR E S g a w) {o:Oper} {c:Bool}(h:zY ops S o=some (some c)):
  Region.wanted o (yielded ops a.tmps)=c:=by
 unfold zY at h
 unfold Region.wanted
 split at h
 ·cases h
 ·rename_i j want hg
  rw[hg]
  split at h
  ·rename_i t ht
   simp only[Option.map_eq_some_iff,Option.some.injEq]at h
   obtain⟨c',h,rfl⟩:=h
   have hr:=hS.slots t
   have yes:∀b,a.tmps.getD t undef=.bool b→(yielded ops a.tmps j==some want)=(b==want):=by
    intro b hb
    have:yielded ops a.tmps j=some b:=by
     unfold yielded
     rw[ht]
     simp only[Option.bind_some]
     have:a.tmps[t]?=some (.bool b):=by
      simp only[Array.getD_eq_getD_getElem?]at hb
      cases hq:a.tmps[t]? with
      |none=>rw[hq]at hb;cases hb
      |some v=>rw[hq]at hb;simp at hb;rw[hb]
     rw[this]
    rw[this]
    cases b<;>cases want<;>rfl
   have no:a.tmps.getD t undef=undef→(yielded ops a.tmps j==some want)=false:=by
    intro hb
    have:yielded ops a.tmps j=none:=by
     unfold yielded
     rw[ht]
     simp only[Option.bind_some]
     simp only[Array.getD_eq_getD_getElem?]at hb
     cases hq:a.tmps[t]? with
     |none=>rfl
     |some v=>rw[hq]at hb;simp at hb;subst hb;rfl
    rw[this];rfl
   unfold Yd at h
   split at h
   ·rename_i b hb
    rw[hb]at hr
    simp only[za,zi]at hr
    injection h with h;subst h
    exact yes b hr
   ·rename_i c b hb
    rw[hb]at hr
    simp only[za,zi]at hr
    injection h with h;subst h
    cases c
    ·exact no (hr.2 rfl)
    ·exact yes _ (hr.1 rfl)
   ·rename_i y hne hb
    rw[hb]at hr
    simp only[za]at hr
    injection h with h;subst h
    exact no (by simpa using hr.2)
   ·cases h
  ·cases h
theorem Yn [Gi] {P:Program} {E:Ent} {S:St} {g:Gh} {a:Act} {w:World}(hS:SR E S g a w) {o:Oper} {r:PR}(e:qE P S o=some r)(h:r.1)(hd:dOK S o.dst):
  ∃v,(execOp a.eval o).run P w=.ok (.value v) w∧SR E (S.qg o.dst r.2) g (a.put o.dst v) w:=by
 obtain⟨v,h1,h2⟩:=qC hS e h
 exact⟨v,h1,hS.qg h2 hd⟩
theorem wX [Gi] {P:Program} {ops:Array Oper} {E:Ent} {S:St} {g:Gh} {a:Act} {w:World}(hS:SR E S g a w) {o:Oper} {c:Option Bool}(hc:zY ops S o=some c) {K:St→Prop}(h:QQ P S o c K)
  {next:Act→World→Prop} {Q:Exit→Act→World→Prop} (hK:∀S' g' a' w',K S'→SR E S' g' a' w'→next a' w'):
  if Region.wanted o (yielded ops a.tmps)then o.wp P a w next Q else next (a.put o.dst undef) w:=by
 unfold QQ at h
 cases hp:qE P S o with
 |some r=>
  simp only[hp]at h
  cases c with
  |none=>
   rw[yI hc]
   simp only[if_true]
   obtain⟨⟨h1,h2⟩,h3⟩:=h
   obtain⟨v,hv,hs⟩:=Yn hS hp h1 h2
   unfold Oper.wp;rw[hv]
   exact hK _ _ _ _ h3 hs
  |some c=>
   rw[jV hS hc]
   obtain⟨⟨h1,h2⟩,h3⟩:=h
   cases c with
   |true=>
    simp only[if_true]
    obtain⟨v,hv,hr⟩:=qC hS hp (h1 rfl)
    unfold Oper.wp;rw[hv]
    exact hK _ _ _ _ h3 (hS.qg (by simp only[za];exact⟨fun _=>hr,fun e=>by cases e⟩) h2)
   |false=>
    simp only[Bool.false_eq_true,if_false]
    exact hK _ _ _ _ h3 (hS.qg (by simp only[za];exact⟨fun e=>(by cases e),fun _=>trivial⟩) h2)
 |none=>
  simp only[hp]at h
  cases c with
  |none=>
   rw[yI hc]
   simp only[if_true]
   exact UE hS h hK
  |some c=>
   rw[jV hS hc]
   cases c with
   |true=>simp only[if_true];exact UE hS (h.1 rfl) hK
   |false=>
    simp only[Bool.false_eq_true,if_false]
    exact hK _ _ _ _ (h.2 rfl).2 (hS.qg (by simp only[za];exact⟨fun e=>(by cases e),fun _=>trivial⟩) (h.2 rfl).1)
theorem xR [Gi] {P:Program} {ops:Array Oper} {Q:Exit→Act→World→Prop} {E:Ent} {K:St→Prop}(hQ:∀S' g' a' w',K S'→SR E S' g' a' w'→Q .normal a' w'):
  ∀(l:List Oper) {S:St} {g:Gh} {a:Act} {w:World},ZW P ops l S K→SR E S g a w→wpList P ops Q l a w
 | [],S,g,a,w,h,hS=>hQ _ _ _ _ h hS
 |o::l,S,g,a,w,h,hS=>by
  unfold ZW at h
  cases hc:zY ops S o with
  |none=>simp only[hc]at h
  |some c=>
   simp only[hc]at h
   have:=wX (P:=P) hS hc h (next:=wpList P ops Q l) (Q:=Q) (fun S' g' a' w' hk hs=>xR hQ l hk hs)
   unfold wpList
   split
   ·rename_i hw
    rw[if_pos hw]at this
    exact .inl this
   ·rename_i hw
    rw[if_neg hw]at this
    exact this
def Zw(o:Oper):Bool:=
 match o.op with
 |.move _=>true
 |.pick .. =>true
 |.nilCheck _=>true
 |.binOp .. =>true
 |.unOp .. =>true
 |.slice .. =>true
 |.fieldAddr .. =>true
 |.field .. =>true
 |.indexAddr .. =>true
 |.index .. =>true
 |.extract .. =>true
 |.lookup .. =>true
 |.load .. =>true
 |.build .. =>true
 |.call c=>match c.callee,c.args.toList,c.argTypes.toList with
  |.builtin .len,[_],[_]=>true
  |.builtin .min,[_,_],_=>true
  |.builtin .max,[_,_],_=>true
  |_,_,_=>false
 |_=>false
theorem uw {P:Program} {S:St} {o:Oper}(h:Zw o=true):∃r,qE P S o=some r:=by
 obtain⟨dst,op,tt,pos,after,guard⟩:=o
 unfold Zw at h
 unfold qE
 cases op with
 |call c=>
  obtain⟨callee,args,argTypes⟩:=c
  simp only[]at h⊢
  split at h
  ·rename_i h1 h2;simp only[h1,h2];exact⟨_,rfl⟩
  ·rename_i h1;simp only[h1];exact⟨_,rfl⟩
  ·rename_i h1;simp only[h1];exact⟨_,rfl⟩
  ·exfalso;exact Bool.noConfusion h
 |_=>first|exact⟨_,rfl⟩|(exfalso;exact Bool.noConfusion h)
theorem jh [Gi] {P:Program} {ops:Array Oper} {E:Ent} {K:St→Prop} {w:World}(tail:List Oper):∀(l:List Oper) {S:St} {g:Gh} {a:Act},l.all Zw=true→ZW P ops (l++tail) S K→SR E S g a w→
  wpStill P ops w (fun a'=>∃S' g',ZW P ops tail S' K∧SR E S' g' a' w) l a
 | [],S,g,a,_,h,hS=>⟨S,g,h,hS⟩
 |o::l,S,g,a,hp,h,hS=>by
  simp only[List.all_cons,Bool.and_eq_true]at hp
  obtain⟨r,hr⟩:=uw (P:=P) (S:=S) hp.1
  simp only[List.cons_append,ZW]at h
  unfold wpStill
  cases hc:zY ops S o with
  |none=>simp only[hc]at h
  |some c=>
   simp only[hc,QQ,hr]at h
   cases c with
   |none=>
    rw[yI hc]
    simp only[if_true]
    obtain⟨⟨h1,h2⟩,h3⟩:=h
    obtain⟨v,hv,hs⟩:=Yn hS hr h1 h2
    unfold Oper.still
    rw[hv]
    exact⟨rfl,jh tail l hp.2 h3 hs⟩
   |some c=>
    rw[jV hS hc]
    obtain⟨⟨h1,h2⟩,h3⟩:=h
    cases c with
    |true=>
     simp only[if_true]
     obtain⟨v,hv,hrep⟩:=qC hS hr (h1 rfl)
     unfold Oper.still
     rw[hv]
     exact⟨rfl,jh tail l hp.2 h3 (hS.qg (by simp only[za];exact⟨fun _=>hrep,fun e=>by cases e⟩) h2)⟩
    |false=>
     simp only[Bool.false_eq_true,if_false]
     exact jh tail l hp.2 h3 (hS.qg (by simp only[za];exact⟨fun e=>(by cases e),fun _=>trivial⟩) h2)
def Zp:List Oper→Nat
 | []=>0
 |o::l=>if Zw o then Zp l+1 else 0
theorem yL:∀l:List Oper,(l.take (Zp l)).all Zw=true
 | []=>rfl
 |o::l=>by
  unfold Zp
  split
  ·rename_i h;simp[h,yL l]
  ·simp
def UH(ops:Array Oper):Bool:=
 if Zp ops.toList=ops.size then Region.lexB .any ops.toList.toArray else Region.lexTailB .any ops.toList.toArray (Zp ops.toList)
theorem J9 [Gi] {P:Program} {id:Nat} {ops:Array Oper} {draw:Bool}(hm:P.follows .mixedOrders=true)(hd:(!draw || UH ops)=true) {Q:Exit→Act→World→Prop} {E:Ent} {K:St→Prop}
  (hQ:∀S' g' a' w',K S'→SR E S' g' a' w'→Q .normal a' w') {S:St} {g:Gh} {a:Act} {w:World} (h:ZW P ops ops.toList S K) (hS:SR E S g a w):(Code.region id ops draw).wp P Q a w:=by
 cases draw with
 |false=>
  exact wp_region_list (xR hQ ops.toList h hS)
 |true=>
  simp only[Bool.not_true,Bool.false_or]at hd
  have hw1:SR E S g a {w with drawn:=w.drawn+1}:=hS.drew
  unfold UH at hd
  split at hd
  ·rename_i hn
   have hall:ops.toList.all Zw=true:=by
    have:=yL ops.toList
    rwa[hn,List.take_of_length_le (by simp)]at this
   have e:ops=ops.toList.toArray:=by simp
   rw[e]
   refine wp_region_still_lit hm hd ?_
   have:=jh (P:=P) (ops:=ops) (K:=K) [] ops.toList hall (by simpa using h) hw1
   rw[←e]
   have mono:∀(l:List Oper) (a:Act) (F G:Act→Prop),(∀a,F a→G a)→wpStill P ops {w with drawn:=w.drawn+1} F l a→wpStill P ops {w with drawn:=w.drawn+1} G l a:=by
    intro l
    induction l with
    |nil=>intro a F G hFG hh;exact hFG _ hh
    |cons o l ih=>
     intro a F G hFG hh
     unfold wpStill at hh⊢
     split
     ·rename_i hw
      rw[if_pos hw]at hh
      exact Oper.still_mono (fun a h=>ih a F G hFG h) hh
     ·rename_i hw
      rw[if_neg hw]at hh
      exact ih _ F G hFG hh
   exact mono _ _ _ _ (fun a' ⟨S',g',h1,h2⟩=>hQ _ _ _ _ h1 h2) this
  ·have e:ops=ops.toList.toArray:=by simp
   rw[e]
   refine wp_region_still_tail (Zp ops.toList) hm hd ?_
   rw[←e]
   have:=jh (P:=P) (ops:=ops) (K:=K) (ops.toList.drop (Zp ops.toList)) (ops.toList.take (Zp ops.toList)) (yL _) (by rw[List.take_append_drop];exact h) hw1
   have mono:∀(l:List Oper) (a:Act) (F G:Act→Prop),(∀a,F a→G a)→wpStill P ops {w with drawn:=w.drawn+1} F l a→wpStill P ops {w with drawn:=w.drawn+1} G l a:=by
    intro l
    induction l with
    |nil=>intro a F G hFG hh;exact hFG _ hh
    |cons o l ih=>
     intro a F G hFG hh
     unfold wpStill at hh⊢
     split
     ·rename_i hw
      rw[if_pos hw]at hh
      exact Oper.still_mono (fun a h=>ih a F G hFG h) hh
     ·rename_i hw
      rw[if_neg hw]at hh
      exact ih _ F G hFG hh
   exact mono _ _ _ _ (fun a' ⟨S',g',h1,h2⟩=>xR hQ _ h1 h2) this
end
end Go.AM
