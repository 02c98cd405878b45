/- A part of this seat's proofs, by an abstract machine. Conditions: each law's. -/
import Derived.Test.YtfjdbbpimklecaaGreatDoorT10
import Derived.StillTail
import Derived.Tactics
namespace Go.AM
section
theorem yL {ops:Array Oper} {S:St} {o:Oper}(h:qj ops S o=some none)(y:Nat→Option Bool):Region.wanted o y=true:=by
 unfold qj at h
 unfold Region.wanted
 split at h
 ·rename_i h';rw[h']
 ·split at h
  ·cases hg:zbE (S.get _) _<;>rw[hg]at h<;>simp at h
  ·cases h
theorem ki [Gi] {ops:Array Oper} {E:Ent} {S:St} {g:Gh} {a:Act} {w:World}(hS:SR E S g a w) {o:Oper} {c:Bool}(h:qj ops S o=some (some c)):
  Region.wanted o (yielded ops a.tmps)=c:=by
 unfold qj at h
 unfold Region.wanted
 split at h
 ·cases h
 ·rename_i j want hg
  rw[hg]
  split at h
  ·rename_i t ht
   simp only[Option.map_eq_some_iff,Option.some.injEq]at h
   obtain⟨c',h,rfl⟩:=h
   have hr:=hS.slots t
   have yes:∀b,a.tmps.getD t undef=.bool b→(yielded ops a.tmps j==some want)=(b==want):=by
    intro b hb
    have:yielded ops a.tmps j=some b:=by
     unfold yielded
     rw[ht]
     simp only[Option.bind_some]
     have:a.tmps[t]?=some (.bool b):=by
      simp only[Array.getD_eq_getD_getElem?]at hb
      cases hq:a.tmps[t]? with
      |none=>rw[hq]at hb;cases hb
      |some v=>rw[hq]at hb;simp at hb;rw[hb]
     rw[this]
    rw[this]
    cases b<;>cases want<;>rfl
   have no:a.tmps.getD t undef=undef→(yielded ops a.tmps j==some want)=false:=by
    intro hb
    have:yielded ops a.tmps j=none:=by
     unfold yielded
     rw[ht]
     simp only[Option.bind_some]
     simp only[Array.getD_eq_getD_getElem?]at hb
     cases hq:a.tmps[t]? with
     |none=>rfl
     |some v=>rw[hq]at hb;simp at hb;subst hb;rfl
    rw[this];rfl
   unfold zbE at h
   split at h
   ·rename_i b hb
    rw[hb]at hr
    simp only[zb,zl]at hr
    injection h with h;subst h
    exact yes b hr
   ·rename_i c b hb
    rw[hb]at hr
    simp only[zb,zl]at hr
    injection h with h;subst h
    cases c
    ·exact no (hr.2 rfl)
    ·exact yes _ (hr.1 rfl)
   ·rename_i y hne hb
    rw[hb]at hr
    simp only[zb]at hr
    injection h with h;subst h
    exact no (by simpa using hr.2)
   ·cases h
  ·cases h
theorem zb0 [Gi] {P:Program} {E:Ent} {S:St} {g:Gh} {a:Act} {w:World}(hS:SR E S g a w) {o:Oper} {r:PR}(e:Zb P S o=some r)(h:r.1)(hd:dOK S o.dst):
  ∃v,(execOp a.eval o).run P w=.ok (.value v) w∧SR E (S.qE o.dst r.2) g (a.put o.dst v) w:=by
 obtain⟨v,h1,h2⟩:=q8 hS e h
 exact⟨v,h1,hS.qE h2 hd⟩
theorem yH [Gi] {P:Program} {ops:Array Oper} {E:Ent} {S:St} {g:Gh} {a:Act} {w:World}(hS:SR E S g a w) {o:Oper} {c:Option Bool}(hc:qj ops S o=some c) {K:St→Prop}(h:jP P S o c K)
  {next:Act→World→Prop} {Q:Exit→Act→World→Prop} (hK:∀S' g' a' w',K S'→SR E S' g' a' w'→next a' w'):
  if Region.wanted o (yielded ops a.tmps)then o.wp P a w next Q else next (a.put o.dst undef) w:=by
 unfold jP at h
 cases hp:Zb P S o with
 |some r=>
  simp only[hp]at h
  cases c with
  |none=>
   rw[yL hc]
   simp only[if_true]
   obtain⟨⟨h1,h2⟩,h3⟩:=h
   obtain⟨v,hv,hs⟩:=zb0 hS hp h1 h2
   unfold Oper.wp;rw[hv]
   exact hK _ _ _ _ h3 hs
  |some c=>
   rw[ki hS hc]
   obtain⟨⟨h1,h2⟩,h3⟩:=h
   cases c with
   |true=>
    simp only[if_true]
    obtain⟨v,hv,hr⟩:=q8 hS hp (h1 rfl)
    unfold Oper.wp;rw[hv]
    exact hK _ _ _ _ h3 (hS.qE (by simp only[zb];exact⟨fun _=>hr,fun e=>by cases e⟩) h2)
   |false=>
    simp only[Bool.false_eq_true,if_false]
    exact hK _ _ _ _ h3 (hS.qE (by simp only[zb];exact⟨fun e=>(by cases e),fun _=>trivial⟩) h2)
 |none=>
  simp only[hp]at h
  cases c with
  |none=>
   rw[yL hc]
   simp only[if_true]
   exact Jd hS h hK
  |some c=>
   rw[ki hS hc]
   cases c with
   |true=>simp only[if_true];exact Jd hS (h.1 rfl) hK
   |false=>
    simp only[Bool.false_eq_true,if_false]
    exact hK _ _ _ _ (h.2 rfl).2 (hS.qE (by simp only[zb];exact⟨fun e=>(by cases e),fun _=>trivial⟩) (h.2 rfl).1)
theorem jE [Gi] {P:Program} {ops:Array Oper} {Q:Exit→Act→World→Prop} {E:Ent} {K:St→Prop}(hQ:∀S' g' a' w',K S'→SR E S' g' a' w'→Q .normal a' w'):
  ∀(l:List Oper) {S:St} {g:Gh} {a:Act} {w:World},Zu P ops l S K→SR E S g a w→wpList P ops Q l a w
 | [],S,g,a,w,h,hS=>hQ _ _ _ _ h hS
 |o::l,S,g,a,w,h,hS=>by
  unfold Zu at h
  cases hc:qj ops S o with
  |none=>simp only[hc]at h
  |some c=>
   simp only[hc]at h
   have:=yH (P:=P) hS hc h (next:=wpList P ops Q l) (Q:=Q) (fun S' g' a' w' hk hs=>jE hQ l hk hs)
   unfold wpList
   split
   ·rename_i hw
    rw[if_pos hw]at this
    exact .inl this
   ·rename_i hw
    rw[if_neg hw]at this
    exact this
def ZZ(o:Oper):Bool:=
 match o.op with
 |.move _=>true
 |.pick .. =>true
 |.nilCheck _=>true
 |.binOp .. =>true
 |.unOp .. =>true
 |.slice .. =>true
 |.fieldAddr .. =>true
 |.field .. =>true
 |.indexAddr .. =>true
 |.index .. =>true
 |.extract .. =>true
 |.lookup .. =>true
 |.load .. =>true
 |.build .. =>true
 |.call c=>match c.callee,c.args.toList,c.argTypes.toList with
  |.builtin .len,[_],[_]=>true
  |.builtin .min,[_,_],_=>true
  |.builtin .max,[_,_],_=>true
  |_,_,_=>false
 |_=>false
theorem VU {P:Program} {S:St} {o:Oper}(h:ZZ o=true):∃r,Zb P S o=some r:=by
 obtain⟨dst,op,tt,pos,after,guard⟩:=o
 unfold ZZ at h
 unfold Zb
 cases op with
 |call c=>
  obtain⟨callee,args,argTypes⟩:=c
  simp only[]at h⊢
  split at h
  ·rename_i h1 h2;simp only[h1,h2];exact⟨_,rfl⟩
  ·rename_i h1;simp only[h1];exact⟨_,rfl⟩
  ·rename_i h1;simp only[h1];exact⟨_,rfl⟩
  ·exfalso;exact Bool.noConfusion h
 |_=>first|exact⟨_,rfl⟩|(exfalso;exact Bool.noConfusion h)
theorem jz [Gi] {P:Program} {ops:Array Oper} {E:Ent} {K:St→Prop} {w:World}(tail:List Oper):∀(l:List Oper) {S:St} {g:Gh} {a:Act},l.all ZZ=true→Zu P ops (l++tail) S K→SR E S g a w→
  wpStill P ops w (fun a'=>∃S' g',Zu P ops tail S' K∧SR E S' g' a' w) l a
 | [],S,g,a,_,h,hS=>⟨S,g,h,hS⟩
 |o::l,S,g,a,hp,h,hS=>by
  simp only[List.all_cons,Bool.and_eq_true]at hp
  obtain⟨r,hr⟩:=VU (P:=P) (S:=S) hp.1
  simp only[List.cons_append,Zu]at h
  unfold wpStill
  cases hc:qj ops S o with
  |none=>simp only[hc]at h
  |some c=>
   simp only[hc,jP,hr]at h
   cases c with
   |none=>
    rw[yL hc]
    simp only[if_true]
    obtain⟨⟨h1,h2⟩,h3⟩:=h
    obtain⟨v,hv,hs⟩:=zb0 hS hr h1 h2
    unfold Oper.still
    rw[hv]
    exact⟨rfl,jz tail l hp.2 h3 hs⟩
   |some c=>
    rw[ki hS hc]
    obtain⟨⟨h1,h2⟩,h3⟩:=h
    cases c with
    |true=>
     simp only[if_true]
     obtain⟨v,hv,hrep⟩:=q8 hS hr (h1 rfl)
     unfold Oper.still
     rw[hv]
     exact⟨rfl,jz tail l hp.2 h3 (hS.qE (by simp only[zb];exact⟨fun _=>hrep,fun e=>by cases e⟩) h2)⟩
    |false=>
     simp only[Bool.false_eq_true,if_false]
     exact jz tail l hp.2 h3 (hS.qE (by simp only[zb];exact⟨fun e=>(by cases e),fun _=>trivial⟩) h2)
def Zh:List Oper→Nat
 | []=>0
 |o::l=>if ZZ o then Zh l+1 else 0
theorem yh:∀l:List Oper,(l.take (Zh l)).all ZZ=true
 | []=>rfl
 |o::l=>by
  unfold Zh
  split
  ·rename_i h;simp[h,yh l]
  ·simp
def Ye(ops:Array Oper):Bool:=
 if Zh ops.toList=ops.size then Region.lexB .any ops.toList.toArray else Region.lexTailB .any ops.toList.toArray (Zh ops.toList)
theorem zbV [Gi] {P:Program} {id:Nat} {ops:Array Oper} {draw:Bool}(hm:P.follows .mixedOrders=true)(hd:(!draw || Ye ops)=true) {Q:Exit→Act→World→Prop} {E:Ent} {K:St→Prop}
  (hQ:∀S' g' a' w',K S'→SR E S' g' a' w'→Q .normal a' w') {S:St} {g:Gh} {a:Act} {w:World} (h:Zu P ops ops.toList S K) (hS:SR E S g a w):(Code.region id ops draw).wp P Q a w:=by
 cases draw with
 |false=>
  exact wp_region_list (jE hQ ops.toList h hS)
 |true=>
  simp only[Bool.not_true,Bool.false_or]at hd
  have hw1:SR E S g a {w with drawn:=w.drawn+1}:=hS.drew
  unfold Ye at hd
  split at hd
  ·rename_i hn
   have hall:ops.toList.all ZZ=true:=by
    have:=yh ops.toList
    rwa[hn,List.take_of_length_le (by simp)]at this
   have e:ops=ops.toList.toArray:=by simp
   rw[e]
   refine wp_region_still_lit hm hd ?_
   have:=jz (P:=P) (ops:=ops) (K:=K) [] ops.toList hall (by simpa using h) hw1
   rw[←e]
   have mono:∀(l:List Oper) (a:Act) (F G:Act→Prop),(∀a,F a→G a)→wpStill P ops {w with drawn:=w.drawn+1} F l a→wpStill P ops {w with drawn:=w.drawn+1} G l a:=by
    intro l
    induction l with
    |nil=>intro a F G hFG hh;exact hFG _ hh
    |cons o l ih=>
     intro a F G hFG hh
     unfold wpStill at hh⊢
     split
     ·rename_i hw
      rw[if_pos hw]at hh
      exact Oper.still_mono (fun a h=>ih a F G hFG h) hh
     ·rename_i hw
      rw[if_neg hw]at hh
      exact ih _ F G hFG hh
   exact mono _ _ _ _ (fun a' ⟨S',g',h1,h2⟩=>hQ _ _ _ _ h1 h2) this
  ·have e:ops=ops.toList.toArray:=by simp
   rw[e]
   refine wp_region_still_tail (Zh ops.toList) hm hd ?_
   rw[←e]
   have:=jz (P:=P) (ops:=ops) (K:=K) (ops.toList.drop (Zh ops.toList)) (ops.toList.take (Zh ops.toList)) (yh _) (by rw[List.take_append_drop];exact h) hw1
   have mono:∀(l:List Oper) (a:Act) (F G:Act→Prop),(∀a,F a→G a)→wpStill P ops {w with drawn:=w.drawn+1} F l a→wpStill P ops {w with drawn:=w.drawn+1} G l a:=by
    intro l
    induction l with
    |nil=>intro a F G hFG hh;exact hFG _ hh
    |cons o l ih=>
     intro a F G hFG hh
     unfold wpStill at hh⊢
     split
     ·rename_i hw
      rw[if_pos hw]at hh
      exact Oper.still_mono (fun a h=>ih a F G hFG h) hh
     ·rename_i hw
      rw[if_neg hw]at hh
      exact ih _ F G hFG hh
   exact mono _ _ _ _ (fun a' ⟨S',g',h1,h2⟩=>jE hQ _ h1 h2) this
end
end Go.AM
