/- A part of this seat's proofs, by an abstract machine. Conditions: each law's. -/
import Derived.Test.YtfjdbbpimklecaaGreatDoorV16
import Derived.Laws.IdiomCopy
import Derived.Test.YtfjdbbpimklecaaGreatDoorV27
import Derived.Test.YtfjdbbpimklecaaGreatDoorV18
import Derived.Test.YtfjdbbpimklecaaGreatDoorV24
set_option maxHeartbeats 4000000
set_option maxRecDepth 100000
namespace Go.AM
section
structure Chg(g:Gh)(w w':World)(B:Nat):Prop where
 old:∀d,d<w.heap.size→d≠B→w'.heap[d]?=w.heap[d]?
 fr0:g.fr B=0
 mine:w.heap.size≤B∨g.K B≠ .prot
 lt:B<w'.heap.size
 mono:w.heap.size≤w'.heap.size
 out:w'.os=w.os∧w'.tape=w.tape∧w'.output=w.output
end
end Go.AM
namespace Go.Proofs.YtfjdbbpimklecaaGreatDoor
section
open Go.AM
def xg(L:List (List Int)):Nat:=(L.map List.length).sum
theorem zdp(L:List (List Int)):L.flatten.length=xg L:=by simp[xg,List.length_flatten]
theorem zdx {L:List (List Int)} {i:Nat}(h:i<L.length):xg (L.take (i+1))=xg (L.take i)+L[i].length:=by
 rw[List.take_succ_eq_append_getElem h]
 simp only[xg,List.map_append,List.sum_append,List.map_cons,List.map_nil,List.sum_cons,List.sum_nil,Nat.add_zero]
def zkE(L:List (List Int))(a:Int):PV:=.agg [Wm L,.int .i64 a]
theorem zaE(L:List (List Int)):(xy L).length=L.length:=by simp[xy]
def zf7:List Int→List Int→Nat
 |x::a,y::b=>if x=y then zf7 a b+1 else 0
 |_,_=>0
def zjk(a b:List Int):Nat:=zf7 a.reverse b.reverse
theorem zgq {l:List Int} {j:Nat}(h:j<l.length):elemAt (qO l) j=.int .i32 l[j]:=by rw[qO,zu (fun r=>PV.int .i32 r) l j h]
def QH(rows:List Row)(seen:Bool):List Int→Bool
 | []=>false
 |y::ys=>if Qh rows y=2 then seen else if Qh rows y=0 then false else QH rows (seen || decide (Qh rows y=1)) ys
def zd4(rows:List Row)(pre:List Int)(x:Int):Bool:=if Qh rows x=2 then QH rows false pre else false
def yN(rows:List Row):List Int→Bool
 | []=>false
 |y::ys=>if aL rows 5 y=1 then true else if zI rows y=4 then yN rows ys else false
def zeA(rows:List Row)(p:Int)(pre:List Int)(x:Int):Bool:=if aL rows 5 x=1 then(if zI rows p=5 then yN rows pre else false)else false
def xE(rows:List Row):List Int→Nat
 | []=>0
 |y::ys=>if zI rows y=6 then xE rows ys+1 else 0
def zct(rows:List Row)(pre:List Int)(x:Int):Bool:=if zI rows x=6 then decide (xE rows pre%2=1)else false
def za5(rows:List Row)(p:Int)(pre:List Int)(x:Int):Bool:=
 if zI rows p=1∧zI rows x=2 then false
 else if xn (zI rows p) || xn (zI rows x)then true
 else if zg9 (zI rows p) (zI rows x)then false
 else if zI rows x=4∨zI rows x=5∨zI rows x=8∨zI rows p=7 then false
 else if zd4 rows (p::pre) x then false
 else if zeA rows p pre x then false
 else !zct rows (p::pre) x
def Ux(rows:List Row):Int→List Int→List Int→Nat
 |_,_,[]=>0
 |p,pre,x::xs=>if za5 rows p pre x then 0 else Ux rows x (p::pre) xs+1
def QM(rows:List Row):Nat→List Int→List Int→List (List Int)
 |0,_,_=>[]
 |_,_,[]=>[]
 |n+1,pre,x::xs=>(x::xs.take (Ux rows x pre xs))::QM rows n ((xs.take (Ux rows x pre xs)).reverse++x::pre) (xs.drop (Ux rows x pre xs))
def kU(rows:List Row)(l:List Int):List (List Int):=QM rows l.length [] l
def zbU(need:Int):List (List Int)→Nat
 | []=>0
 |c::C=>if need≤0 then 0 else zbU (need-c.length) C+1
def Yt(nfc:List Int→List Int)(clus:List Int→List (List Int))(L:List (List Int))(a f e:Int)(s:List Int):List (List Int)×Int×Bool:=
 if f<0∨e<f∨(L.length:Int)<e then(L,a,false)
 else
  let rest:=(L.drop e.toNat).flatten
  let x:=nfc ((L.take f.toNat).flatten++(s++rest))
  if 65536<x.length then(L,a,false)
  else(clus x,(zbU ((x.length:Int)-zjk x rest) (clus x):Nat),true)
def zbF(x:Int):Bool:=decide (aL zb 7 x=1)
def zec(x:Int):Bool:=decide (aL zb 5 x=1)
def ze4(c0:Int)(i:Nat)(x:Int):Bool:=zbF x || (decide (x=65039)&&decide (0<i)&&zec c0)
def VY(c0:Int):Nat→List Int→Bool
 |_,[]=>false
 |i,x::l=>ze4 c0 i x || VY c0 (i+1) l
def zbl:List Int→Bool
 |a::b::_=>decide (zI zb a=6)&&decide (zI zb b=6)
 |_=>false
def vf(c:List Int):Int:=if VY (c.headD 0) 0 c=true∨zbl c=true then 2 else 1
def zkx:Cl:=⟨[94],1⟩
def ziM(r:Int):List Cl:=
 if 0≤r∧r<32 then [zkx,⟨[u8 (r.toNat+64)],1⟩]else if r=127 then [zkx,⟨[63],1⟩]else [⟨[239,191,189],1⟩]
def zkm:Int:=9676
def zeT(c:List Int):List Int:=
 (if zI zb (c.headD 0)=4∨zI zb (c.headD 0)=5∨zI zb (c.headD 0)=8 then [zkm]else [])++c++
 (if zI zb (c.getLastD 0)=7 then [zkm]else [])
def ofG(c:List Int):List Cl:=
 if zI zb (c.headD 0)=1∨zI zb (c.headD 0)=2∨zI zb (c.headD 0)=3 then c.flatMap ziM
 else [⟨je (zeT c),vf (zeT c)⟩]
def zj2(l:List Int):List Cl:=(kU zb l).flatMap ofG
def atG(L:List (List Int))(k:Nat):Nat:=((L.take k).flatMap ofG).length
structure zau(nfc:List Int→List Int)(clus:List Int→List (List Int)):Prop where
 len:∀l:List Int,l.length<2^20→(nfc l).length<2^31
 rune:∀l:List Int,l.length<2^20→(∀x∈l,Zd x)→∀x∈nfc l,Zd x
 flat:∀l,(clus l).flatten=l
 num:∀l,(clus l).length≤l.length
structure zlb(L:List (List Int)):Prop where
 num:L.length≤xg L
 len:xg L≤65536
 rune:∀x∈L.flatten,Zd x
theorem zau.sum {nfc clus}(h:zau nfc clus)(x:List Int):xg (clus x)=x.length:=by rw[←zdp,h.flat]
theorem Kz(k i:Int)(h:0≤i∧i≤1114111):∀l:List Row,(l.find? (VK k i)).map QN=atL (zE l k) i
 | []=>rfl
 |r::l=>by
  have ih:=Kz k i h l
  have e:zE (r::l) k=if r.k=k then QN r::zE l k else zE l k:=by
   by_cases hk:r.k=k<;>simp[zE,hk]
  rw[e,List.find?_cons]
  by_cases hk:r.k=k
  ·rw[if_pos hk]
   unfold atL at ih⊢
   rw[List.find?_cons]
   by_cases hq:r.f≤i∧i≤r.t
   ·have h1:VK k i r=true:=by simp[VK,hk,hq.1,hq.2]
    have h2:decide ((QN r).f≤i∧i≤(QN r).t)=true:=decide_eq_true (show max r.f 0≤i∧i≤min r.t 1114111 from⟨by omega,by omega⟩)
    rw[h1,h2];rfl
   ·have h1:VK k i r=false:=by
     unfold VK
     by_cases q1:r.f≤i
     ·have:¬i≤r.t:=fun q2=>hq ⟨q1,q2⟩
      simp[this]
     ·simp[q1]
    have h2:decide ((QN r).f≤i∧i≤(QN r).t)=false:=decide_eq_false (show ¬(max r.f 0≤i∧i≤min r.t 1114111)from fun q=>hq ⟨by omega,by omega⟩)
    rw[h1,h2];exact ih
  ·rw[if_neg hk]
   have h1:VK k i r=false:=by simp[VK,hk]
   rw[h1];exact ih
def spA(l:List Span)(i:Int):Int:=match atL l i with|some s=>s.a|none=>0
theorem Vt(l:List Row)(k i:Int)(h:0≤i∧i≤1114111):aL l k i=spA (zE l k) i:=by
 have e:=Kz k i h l
 unfold aL spA rowAt
 rw[if_neg (by omega),←e]
 cases l.find? (VK k i)<;>rfl
theorem Yy(i:Int):∀l:List Span,qv 0 i (l.map Z2)=spA l i
 | []=>rfl
 |s::l=>by
  have ih:=Yy i l
  simp only[List.map_cons,qv]
  unfold spA atL at ih⊢
  rw[List.find?_cons]
  by_cases h:s.f≤i∧i≤s.t
  ·have h1:decide (s.f≤i∧i≤s.t)=true:=by simpa using h
   rw[if_pos (by exact h),h1];rfl
  ·have h1:decide (s.f≤i∧i≤s.t)=false:=by simpa using h
   rw[if_neg (by exact h),h1];exact ih
theorem kj4:zZ zb 4=zE zb 4:=by decide+kernel
theorem kj5:zZ zb 5=zE zb 5:=by decide+kernel
theorem kj6:zZ zb 6=zE zb 6:=by decide+kernel
theorem Yh(l:List Row)(k i:Int)(h:¬(0≤i∧i≤1114111)):aL l k i=0:=by
 unfold aL rowAt
 rw[if_pos (by omega)]
theorem zhm(r:Int):T0.brk (rn r)=aL zb 4 r:=by
 by_cases h:0≤r∧r≤1114111
 ·rw[Vt _ _ _ h,←kj4,←Yy,KR (by omega)];exact congrArg (fun x=>qv 0 x ((zZ zb 4).map Z2)) (Int.toNat_of_nonneg h.1)
 ·rw[uT (by omega),Yh _ _ _ h];exact xJ.b
theorem zht(r:Int):T0.cnj (rn r)=aL zb 6 r:=by
 by_cases h:0≤r∧r≤1114111
 ·rw[Vt _ _ _ h,←kj6,←Yy,KR (by omega)];exact congrArg (fun x=>qv 0 x ((zZ zb 6).map Z2)) (Int.toNat_of_nonneg h.1)
 ·rw[uT (by omega),Yh _ _ _ h];exact xJ.j
theorem zb5(r:Int):(T0.flg (rn r)).p=decide (aL zb 5 r=1):=by
 by_cases h:0≤r∧r≤1114111
 ·have e:(T0.flg (rn r)).p=qz (zZ zb 5) r:=by
   rw[KR (by omega)];exact congrArg (qz (zZ zb 5)) (Int.toNat_of_nonneg h.1)
  rw[e,Vt _ _ _ h,kj5]
  unfold qz spA
  cases atL (zE zb 5) r with
  |none=>rfl
  |some s=>simp only;rfl
 ·rw[uT (by omega),Yh _ _ _ h,xJ.f];rfl
theorem zjc {l:List Row} {k r:Int}(h:aL l k r≠0):∃w∈l,w.k=k∧w.f≤r∧r≤w.t∧aL l k r=w.a:=by
 unfold aL at h⊢
 cases e:rowAt l k r with
 |none=>rw[e]at h;exact absurd rfl h
 |some w=>
  unfold rowAt at e
  split at e
  ·simp at e
  ·have h1:=List.mem_of_find?_eq_some e
   have h2:=List.find?_some e
   simp only[VK,Bool.and_eq_true,decide_eq_true_eq]at h2
   exact⟨w,h1,h2.1.1,h2.1.2,h2.2,rfl⟩
end
section
open Go.AM
attribute [local irreducible] zb
structure zlG(k:Int→Int)(z:Cst)(O:List Int):Prop where
 o:z.o=O
 s:z.s=vE k O
 l:O≠ []→vE k O<O.length-1→z.l=k (O[O.length-1]?.getD 0)
end
section
open Go.AM
def V4(k:Int):List Row:=zb.filter fun w=>decide (w.k=k)
def zho(w v:Row):Bool:=decide (w.t<v.f) || decide (v.t<w.f)
def zj4:Bool:=(V4 5).all fun w=>(V4 4).all fun v=>zho w v || (!decide (v.a=1)&&!decide (v.a=2)&&!decide (v.a=3)&&!decide (v.a=5))
def zkU:Bool:=(V4 6).all fun w=>(V4 4).all fun v=>zho w v || (!decide (v.a=1)&&!decide (v.a=2)&&!decide (v.a=3))
def zj6:Bool:=(V4 6).all fun w=>decide (w.a=2) || (decide (w.a=1)&&decide (w.f=w.t)&&decide (zI zb w.f=4))
theorem zeO:zj4=true:=by decide+kernel
theorem zfq:zkU=true:=by decide+kernel
theorem Y0:zj6=true:=by decide+kernel
theorem VJ(x:Int):yR T0 x=zI zb x:=by unfold yR zI;rw[zhm]
theorem zem(x:Int):Vg T0 x=Qh zb x:=by unfold Vg Qh;rw[VJ,zht]
attribute [local irreducible] zb
theorem row_in {k x:Int}(h:aL zb k x≠0):∃w∈V4 k,w.f≤x∧x≤w.t∧aL zb k x=w.a:=by
 obtain⟨w,h1,h2,h3,h4,h5⟩:=zjc h
 exact⟨w,List.mem_filter.2 ⟨h1,by simp[h2]⟩,h3,h4,h5⟩
theorem zcw {w v:Row} {x:Int}(h1:w.f≤x)(h2:x≤w.t)(h3:v.f≤x)(h4:x≤v.t):zho w v=false:=by
 unfold zho
 simp only[Bool.or_eq_false_iff,decide_eq_false_iff_not]
 omega
theorem zc6(x:Int):zI zb x=12∨zI zb x=13∨zI zb x=aL zb 4 x:=by
 unfold zI
 split
 ·split
  ·exact .inl rfl
  ·exact .inr (.inl rfl)
 ·exact .inr (.inr rfl)
theorem zdZ {x b:Int}(hb:zI zb x=b)(h0:b≠0)(h12:b≠12)(h13:b≠13):∃v∈V4 4,v.f≤x∧x≤v.t∧v.a=b:=by
 rcases zc6 x with e|e|e
 ·exact absurd (hb.symm.trans e) h12
 ·exact absurd (hb.symm.trans e) h13
 ·have e2:aL zb 4 x=b:=e.symm.trans hb
  obtain⟨v,h1,h2,h3,h4⟩:=row_in (k:=4) (x:=x) (by rw[e2];exact h0)
  exact⟨v,h1,h2,h3,by rw[←h4,e2]⟩
theorem f1 {x:Int}(h:aL zb 5 x=1):zI zb x≠1∧zI zb x≠2∧zI zb x≠3∧zI zb x≠5:=by
 obtain⟨w,h1,h2,h3,_⟩:=row_in (k:=5) (x:=x) (by rw[h];decide)
 have key:∀b:Int,b≠0→b≠12→b≠13→(b=1∨b=2∨b=3∨b=5)→zI zb x≠b:=by
  intro b b0 b1 b2 hb e
  obtain⟨v,g1,g2,g3,g4⟩:=zdZ e b0 b1 b2
  have f:=List.all_eq_true.1 (List.all_eq_true.1 zeO w h1) v g1
  rw[zcw h2 h3 g2 g3]at f
  simp only[Bool.false_or,Bool.and_eq_true,Bool.not_eq_true',decide_eq_false_iff_not]at f
  omega
 exact⟨key 1 (by decide) (by decide) (by decide) (by decide),key 2 (by decide) (by decide) (by decide) (by decide),key 3 (by decide) (by decide) (by decide) (by decide),key 5 (by decide) (by decide) (by decide) (by decide)⟩
theorem f4(x:Int):Qh zb x=0∨Qh zb x=1∨Qh zb x=2∨Qh zb x=3:=by
 unfold Qh
 split
 ·rename_i h
  obtain⟨w,h1,_,_,h4⟩:=row_in h
  have f:=List.all_eq_true.1 Y0 w h1
  simp only[Bool.or_eq_true,Bool.and_eq_true,decide_eq_true_eq]at f
  omega
 ·split<;>simp
theorem f3 {x:Int}(h:Qh zb x=1∨Qh zb x=3):zI zb x=4∨zI zb x=5:=by
 unfold Qh at h
 split at h
 ·rename_i h0
  obtain⟨w,h1,h2,h3,h4⟩:=row_in h0
  have f:=List.all_eq_true.1 Y0 w h1
  simp only[Bool.or_eq_true,Bool.and_eq_true,decide_eq_true_eq]at f
  have:x=w.f:=by omega
  rw[this]
  exact .inl (by omega)
 ·split at h
  ·rename_i g;exact g.1
  ·omega
theorem f2 {x:Int}(h:Qh zb x≠0):zI zb x≠1∧zI zb x≠2∧zI zb x≠3:=by
 by_cases h0:aL zb 6 x=0
 ·have e:Qh zb x=if(zI zb x=4∨zI zb x=5)∧x≠8204 then 3 else 0:=by unfold Qh;rw[if_neg (fun q=>q h0)]
  rw[e]at h
  split at h
  ·rename_i g;have:=g.1;omega
  ·exact absurd rfl h
 ·obtain⟨w,h1,h2,h3,_⟩:=row_in h0
  have key:∀b:Int,b≠0→b≠12→b≠13→(b=1∨b=2∨b=3)→zI zb x≠b:=by
   intro b b0 b1 b2 hb e
   obtain⟨v,g1,g2,g3,g4⟩:=zdZ e b0 b1 b2
   have f:=List.all_eq_true.1 (List.all_eq_true.1 zfq w h1) v g1
   rw[zcw h2 h3 g2 g3]at f
   simp only[Bool.false_or,Bool.and_eq_true,Bool.not_eq_true',decide_eq_false_iff_not]at f
   omega
  exact⟨key 1 (by decide) (by decide) (by decide) (by decide),key 2 (by decide) (by decide) (by decide) (by decide),key 3 (by decide) (by decide) (by decide) (by decide)⟩
end
section
open Go.AM
attribute [local irreducible] zb
def pcD(x:Int):Bool:=decide (aL zb 5 x=1)
structure J0(s:xi)(p:Int)(pre:List Int):Prop where
 so:s.some=true
 la:s.last=zI zb p
 p2:s.pict=2↔(zI zb p=5∧yN zb pre=true)
 p1:s.pict=1↔yN zb (p::pre)=true
 od:s.odd=decide (xE zb (p::pre)%2=1)
 c2:s.conj=2↔QH zb false (p::pre)=true
 c0:s.conj≠0↔QH zb true (p::pre)=true
theorem J0.next {s:xi} {p:Int} {pre:List Int}(h:J0 s p pre)(x:Int):J0 (qS s (zI zb x) (pcD x) (Qh zb x)) x (p::pre):=by
 obtain⟨h1,h2,h3,h4,h5,h6,h7⟩:=h
 have q1:= @f1 x
 have q4:=f4 x
 have b7:QH zb true (p::pre)=decide (s.conj≠0):=by rw[Bool.eq_iff_iff,decide_eq_true_eq,h7]
 have b6:QH zb false (p::pre)=decide (s.conj=2):=by rw[Bool.eq_iff_iff,decide_eq_true_eq,h6]
 refine⟨rfl,rfl,?_,?_,?_,?_,?_⟩
 ·simp only[qS,pcD]
  by_cases a:aL zb 5 x=1
  ·have:=q1 a
   simp[a,this.2.2.2]
  ·simp only[a,decide_false,Bool.false_eq_true,if_false]
   rw[←h4]
   by_cases b:s.pict=1
   ·by_cases e4:zI zb x=4
    ·simp[b,e4]
    ·by_cases e5:zI zb x=5<;>simp[b,e5,e4]
   ·simp[b]
 ·simp only[qS,pcD]
  rw[yN]
  by_cases a:aL zb 5 x=1
  ·simp[a]
  ·simp only[a,decide_false,Bool.false_eq_true,if_false]
   by_cases e4:zI zb x=4
   ·rw[if_pos e4,←h4]
    by_cases b:s.pict=1<;>simp[b,e4]
   ·rw[if_neg e4]
    by_cases b:s.pict=1∧zI zb x=5
    ·simp[b.1,b.2]
    ·simp[e4,b]
 ·simp only[qS]
  rw[xE,h5]
  by_cases e6:zI zb x=6
  ·rw[if_pos e6]
   simp only[e6,decide_true,Bool.true_and]
   rw[←decide_not,decide_eq_decide]
   omega
  ·rw[if_neg e6];simp[e6]
 ·simp only[qS]
  rw[QH]
  rcases q4 with c|c|c|c<;>by_cases z:s.conj=0<;>simp[c,b6,b7,z]
 ·simp only[qS]
  rw[QH]
  rcases q4 with c|c|c|c<;>by_cases z:s.conj=0<;>simp[c,b7,z]
theorem J0.cut {s:xi} {p:Int} {pre:List Int}(h:J0 s p pre)(x:Int):jE s (zI zb x) (pcD x) (Qh zb x)=za5 zb p pre x:=by
 obtain⟨h1,h2,h3,h4,h5,h6,h7⟩:=h
 obtain⟨P,hP⟩:∃P,P=(decide (s.pict=2)&&pcD x):=⟨_,rfl⟩
 obtain⟨C,hC⟩:∃C,C=(decide (s.conj=2)&&decide (Qh zb x=2)):=⟨_,rfl⟩
 obtain⟨O,hO⟩:∃O,O=(s.odd&&decide (zI zb x=6)):=⟨_,rfl⟩
 have eP:zeA zb p pre x=P:=by
  rw[hP];unfold zeA pcD
  by_cases a:aL zb 5 x=1
  ·by_cases b:zI zb p=5
   ·rw[if_pos a,if_pos b]
    have:decide (s.pict=2)=yN zb pre:=by
     rw[Bool.eq_iff_iff,decide_eq_true_eq,h3];simp[b]
    rw[this];simp[a]
   ·rw[if_pos a,if_neg b]
    have:¬s.pict=2:=fun q=>b (h3.1 q).1
    simp[this]
  ·rw[if_neg a];simp[a]
 have eC:zd4 zb (p::pre) x=C:=by
  rw[hC];unfold zd4
  by_cases a:Qh zb x=2
  ·rw[if_pos a]
   have:decide (s.conj=2)=QH zb false (p::pre):=by
    rw[Bool.eq_iff_iff,decide_eq_true_eq,h6]
   rw[this];simp[a]
  ·rw[if_neg a];simp[a]
 have eO:zct zb (p::pre) x=O:=by
  rw[hO];unfold zct
  by_cases a:zI zb x=6
  ·rw[if_pos a,h5];simp[a]
  ·rw[if_neg a];simp[a]
 unfold za5 jE
 rw[eP,eC,eO,←hP,←hC,←hO,h2]
 have kP:P=true→¬(zI zb p=1∨zI zb p=2∨zI zb p=3)∧¬(zI zb x=1∨zI zb x=2∨zI zb x=3):=by
  intro q
  rw[hP]at q
  simp only[pcD,Bool.and_eq_true,decide_eq_true_eq]at q
  have a:=f1 q.2
  have b:=(h3.1 q.1).1
  omega
 have kC:C=true→¬(zI zb p=1∨zI zb p=2∨zI zb p=3)∧¬(zI zb x=1∨zI zb x=2∨zI zb x=3):=by
  intro q
  rw[hC]at q
  simp only[Bool.and_eq_true,decide_eq_true_eq]at q
  have a:=f2 (x:=x) (by omega)
  have b:=h6.1 q.1
  have c:=f2 (x:=p) (fun z=>by
   rw[QH,if_neg (by omega),if_pos z]at b
   exact absurd b (by decide))
  omega
 have kO:O=true→¬(zI zb p=1∨zI zb p=2∨zI zb p=3)∧¬(zI zb x=1∨zI zb x=2∨zI zb x=3):=by
  intro q
  rw[hO,h5]at q
  simp only[Bool.and_eq_true,decide_eq_true_eq]at q
  have b:zI zb p=6:=by
   by_cases z:zI zb p=6
   ·exact z
   ·have:=q.1
    rw[xE,if_neg z]at this
    omega
  omega
 clear hP hC hO eP eC eO h1 h2 h3 h4 h5 h6 h7
 generalize zI zb p=a at*
 generalize zI zb x=b at*
 by_cases hh:(a=1∨a=2∨a=3)∨(b=1∨b=2∨b=3)
 ·have P0:P=false:=by cases P with|false=>rfl|true=>have:=kP rfl;exact absurd hh (by omega)
  have C0:C=false:=by cases C with|false=>rfl|true=>have:=kC rfl;exact absurd hh (by omega)
  have O0:O=false:=by cases O with|false=>rfl|true=>have:=kO rfl;exact absurd hh (by omega)
  subst P0;subst C0;subst O0
  simp only[Bool.not_false,Bool.and_true]
  have hard:(xn a || xn b)=true:=by
   simp only[xn,Bool.or_eq_true,decide_eq_true_eq];omega
  rw[hard]
  unfold zC
  by_cases a1:a=1
  ·by_cases b2:b=2<;>simp[a1,b2]
  ·by_cases a2:a=2∨a=3
   ·rw[if_neg a1,if_pos a2,if_neg (fun q=>a1 q.1)];rfl
   ·have b3:b=1∨b=2∨b=3:=by omega
    rw[if_neg a1,if_neg a2,if_pos b3,if_neg (fun q=>a1 q.1)];rfl
 ·have hard:(xn a || xn b)=false:=by
   simp only[xn,Bool.or_eq_false_iff,decide_eq_false_iff_not];omega
  have e1:zC a b=(if b=4∨b=5∨b=8 then true else if a=7 then true else zg9 a b):=by
   unfold zC zg9
   rw[if_neg (show ¬a=1 by omega),if_neg (show ¬(a=2∨a=3) by omega),if_neg (show ¬(b=1∨b=2∨b=3) by omega)]
   simp only[Bool.or_assoc]
  rw[e1,hard,if_neg (show ¬(a=1∧b=2) by omega)]
  clear e1 kP kC kO
  generalize zg9 a b=H
  by_cases b1:b=4∨b=5∨b=8
  ·rw[if_pos b1,if_pos (show b=4∨b=5∨b=8∨a=7 by omega)]
   cases H<;>rfl
  ·rw[if_neg b1]
   by_cases a7:a=7
   ·rw[if_pos a7,if_pos (show b=4∨b=5∨b=8∨a=7 by omega)]
    cases H<;>rfl
   ·rw[if_neg a7,if_neg (show ¬(b=4∨b=5∨b=8∨a=7) by omega)]
    cases H<;>cases C<;>cases P<;>cases O<;>rfl
def Beg(pre:List Int)(x:Int):Prop:=pre=[]∨∃p pre',pre=p::pre'∧za5 zb p pre' x=true
theorem J0.start {pre:List Int} {x:Int}(h:Beg pre x):J0 (qS j5 (zI zb x) (pcD x) (Qh zb x)) x pre:=by
 have q1:= @f1 x
 have q3:= @f3 x
 have q4:=f4 x
 have kp:zI zb x=4∨zI zb x=5→yN zb pre=false∧∀sn,QH zb sn pre=false:=by
  intro hb
  rcases h with rfl|⟨p,pre',rfl,hg⟩
  ·exact⟨rfl,fun _=>rfl⟩
  ·have hp:zI zb p=1∨zI zb p=2∨zI zb p=3:=by
    unfold za5 at hg
    rw[if_neg (by omega)]at hg
    by_cases z:(xn (zI zb p) || xn (zI zb x))=true
    ·simp only[xn,Bool.or_eq_true,decide_eq_true_eq]at z;omega
    ·rw[if_neg z]at hg
     split at hg
     ·exact absurd hg (by decide)
     ·rw[if_pos (by omega)]at hg
      exact absurd hg (by decide)
   constructor
   ·have a:¬aL zb 5 p=1:=fun q=>by have:=f1 q;omega
    rw[yN,if_neg a,if_neg (by omega)]
   ·intro sn
    have c:Qh zb p=0:=by
     by_cases c:Qh zb p=0
     ·exact c
     ·have:=f2 c;omega
    rw[QH,if_neg (by omega),if_pos c]
 have kf:zI zb x=6→xE zb pre%2=0:=by
  intro hb
  rcases h with rfl|⟨p,pre',rfl,hg⟩
  ·rfl
  ·by_cases hp:zI zb p=6
   ·unfold za5 at hg
    rw[if_neg (by omega),if_neg (by rw[hp,hb];decide),if_neg (by rw[hp,hb];decide),if_neg (by omega)]at hg
    split at hg
    ·exact absurd hg (by decide)
    ·split at hg
     ·exact absurd hg (by decide)
     ·unfold zct at hg
      rw[if_pos hb]at hg
      simp only[Bool.not_eq_true',decide_eq_false_iff_not]at hg
      omega
   ·rw[xE,if_neg hp]
 refine⟨rfl,rfl,?_,?_,?_,?_,?_⟩
 ·have e:(qS j5 (zI zb x) (pcD x) (Qh zb x)).pict=if pcD x then 1 else 0:=by simp[qS,j5]
  rw[e]
  constructor
  ·intro z;split at z<;>omega
  ·rintro⟨z1,z2⟩
   rw[(kp (.inr z1)).1]at z2
   exact absurd z2 (by decide)
 ·have e:(qS j5 (zI zb x) (pcD x) (Qh zb x)).pict=if pcD x then 1 else 0:=by simp[qS,j5]
  rw[e,yN]
  by_cases a:aL zb 5 x=1
  ·simp[pcD,a]
  ·rw[if_neg a]
   simp only[pcD,a,decide_false,Bool.false_eq_true,if_false]
   by_cases e4:zI zb x=4
   ·rw[if_pos e4,(kp (.inl e4)).1];simp
   ·rw[if_neg e4];simp
 ·simp only[qS,j5,Bool.not_false,Bool.and_true]
  rw[xE,decide_eq_decide]
  by_cases e6:zI zb x=6
  ·have:=kf e6
   rw[if_pos e6]
   constructor
   ·intro _;omega
   ·intro _;exact e6
  ·rw[if_neg e6];simp[e6]
 ·have e:(qS j5 (zI zb x) (pcD x) (Qh zb x)).conj=if Qh zb x=2 then 1 else 0:=by simp[qS,j5]
  rw[e,QH]
  rcases q4 with c|c|c|c
  ·simp[c]
  ·rw[(kp (q3 (.inl c))).2];simp[c]
  ·simp[c]
  ·rw[(kp (q3 (.inr c))).2];simp[c]
 ·have e:(qS j5 (zI zb x) (pcD x) (Qh zb x)).conj=if Qh zb x=2 then 1 else 0:=by simp[qS,j5]
  rw[e,QH]
  rcases q4 with c|c|c|c
  ·simp[c]
  ·rw[(kp (q3 (.inl c))).2];simp[c]
  ·simp[c]
  ·rw[(kp (q3 (.inr c))).2];simp[c]
theorem XT(s:xi)(x:Int):ZK T0 s x=(qS s (zI zb x) (pcD x) (Qh zb x),!s.some || jE s (zI zb x) (pcD x) (Qh zb x)):=by
 unfold ZK pcD
 rw[VJ,zem,zb5]
theorem zcp:∀(l:List Int) (s:xi) (p:Int) (pre:List Int),J0 s p pre→xb T0 s l=Ux zb p pre l
 | [],_,_,_,_=>rfl
 |x::l,s,p,pre,h=>by
  have hc:=h.cut x
  have ih:=zcp l _ _ _ (h.next x)
  rw[xb,Ux,XT]
  simp only
  rw[h.so,hc,ih]
  simp only[Bool.not_true,Bool.false_or]
  split
  ·rfl
  ·omega
theorem XF:∀(l:List Int) (p:Int) (pre:List Int) (y:Int) (ys:List Int),l.drop (Ux zb p pre l)=y::ys→Beg ((l.take (Ux zb p pre l)).reverse++p::pre) y
 | [],_,_,_,_,h=>by simp at h
 |x::l,p,pre,y,ys,h=>by
  rw[Ux]at h⊢
  by_cases g:za5 zb p pre x=true
  ·rw[if_pos g]at h⊢
   simp only[List.drop_zero]at h
   injection h with h1 _
   subst h1
   exact .inr ⟨p,pre,by simp,g⟩
  ·rw[if_neg g]at h⊢
   rw[List.drop_succ_cons]at h
   have ih:=XF l x (p::pre) y ys h
   rw[List.take_succ_cons,List.reverse_cons,List.append_assoc]
   exact ih
theorem zbG:∀(n:Nat) (l pre:List Int),(∀y ys,l=y::ys→Beg pre y)→yU T0 n l=QM zb n pre l
 |0,_,_,_=>rfl
 |_+1,[],_,_=>rfl
 |n+1,x::l,pre,h=>by
  have hb:=h x l rfl
  have e:xb T0 (ZK T0 j5 x).1 l=Ux zb x pre l:=by
   rw[XT]
   exact zcp l _ _ _ (J0.start hb)
  rw[yU,QM,e]
  congr 1
  exact zbG n _ _ (fun y ys hy=>XF l x pre y ys hy)
theorem zd8(l:List Int):xr T0 l=kU zb l:=zbG l.length l [] (fun _ _ _=>.inl rfl)
end
section
open Go.AM
def zkF:Bool:=zb.all fun x=>!decide (x.k=2) || (decide (0≤x.f)&&decide (x.f<1114112)&&decide (0≤x.a)&&decide (x.a<1114112)&&decide (0≤x.b)&&decide (x.b<1114112))
theorem zfK:zkF=true:=by decide+kernel
theorem zh3:decide (zb=[])=false:=by decide+kernel
theorem zcv:j8 zb:=⟨of_decide_eq_false zh3,zkD,fun x hx hk=>by
 have:=List.all_eq_true.1 zfK x hx
 simp only[hk,decide_true,Bool.not_true,Bool.false_or,Bool.and_eq_true,decide_eq_true_eq]at this
 omega⟩
attribute [local irreducible] zb
theorem Kt(k:Int→Int)(mk:Int→Int→Option Int):∀(l O:List Int),(l.foldl (Va k mk) O).length≤O.length+l.length
 | [],O=>by simp
 |x::l,O=>by
  have ih:=Kt k mk l (Va k mk O x)
  have h:(Va k mk O x).length≤O.length+1:=by
   unfold Va
   split
   ·split
    ·rw[List.length_set];omega
    ·simp
   ·simp
  rw[List.foldl_cons,List.length_cons];omega
theorem vG(rows:List Row):∀(n:Nat) (pre l:List Int),l.length≤n→(QM rows n pre l).flatten=l∧(QM rows n pre l).length≤l.length
 |0,_,l,h=>by
  obtain rfl:=List.eq_nil_of_length_eq_zero (Nat.le_zero.1 h)
  exact⟨rfl,Nat.le_refl _⟩
 |_+1,_,[],_=>⟨rfl,Nat.le_refl _⟩
 |n+1,pre,x::l,h=>by
  simp only[List.length_cons]at h
  rw[QM]
  generalize Ux rows x pre l=k
  obtain⟨h1,h2⟩:=vG rows n ((l.take k).reverse++x::pre) (l.drop k) (by rw[List.length_drop];omega)
  constructor
  ·rw[List.flatten_cons,h1];simp
  ·rw[List.length_cons,List.length_cons]
   rw[List.length_drop]at h2
   omega
theorem YY:zau (zkn zb) (kU zb)where
 len l h:=by
  have h1:=zeW zb l
  have h2:=Kt (kD zb) (mkD zb) (zcS zb l) []
  unfold zkn zca JK
  simp only[List.length_nil]at h2
  omega
 rune l _ hr:=(zcN zcv (zcS zb l) (zdL zcv hr)).r
 flat l:=(vG zb l.length [] l (Nat.le_refl _)).1
 num l:=(vG zb l.length [] l (Nat.le_refl _)).2
end
section
open Go.AM
theorem atJ(i:Int):∀(l init:List Span) (o:Span),qw (o::l)→(atL (xv init o l) i).map (·.a)=(atL (init++o::l) i).map (·.a)
 | [],_,_,_=>rfl
 |s::l,init,o,h=>by
  obtain⟨h1,h2,h3,h4,h5⟩:=h
  unfold xv
  by_cases c:o.t+1=s.f∧o.a=s.a∧o.b=s.b
  ·rw[if_pos c,atJ i l init {o with t:=s.t} ⟨show o.f≤s.t by omega,h4,h5⟩]
   unfold atL
   rw[List.find?_append,List.find?_append]
   cases init.find? (fun s=>decide (s.f≤i∧i≤s.t))with
   |some x=>rfl
   |none=>
    simp only[Option.none_or,List.find?_cons]
    by_cases q1:o.f≤i∧i≤o.t
    ·have e1:decide (o.f≤i∧i≤s.t)=true:=decide_eq_true ⟨q1.1,by omega⟩
     have e2:decide (o.f≤i∧i≤o.t)=true:=decide_eq_true q1
     rw[e1,e2];rfl
    ·have e2:decide (o.f≤i∧i≤o.t)=false:=decide_eq_false q1
     rw[e2]
     by_cases q2:s.f≤i∧i≤s.t
     ·have e1:decide (o.f≤i∧i≤s.t)=true:=decide_eq_true ⟨by omega,q2.2⟩
      have e3:decide (s.f≤i∧i≤s.t)=true:=decide_eq_true q2
      rw[e1,e3]
      exact congrArg some c.2.1
     ·have e1:decide (o.f≤i∧i≤s.t)=false:=decide_eq_false (by omega)
      have e3:decide (s.f≤i∧i≤s.t)=false:=decide_eq_false q2
      rw[e1,e3]
  ·rw[if_neg c,atJ i l (init++[o]) s ⟨h3,h4,h5⟩]
   simp
theorem Y3(l:List Span)(c:Int):qz l c=decide ((atL l c).map (·.a)=some 1):=by
 unfold qz
 cases atL l c with
 |none=>rfl
 |some s=>simp only[Option.map_some,Option.some.injEq];rfl
theorem zjU(c:Int)(l:List Span)(h:qw l):qz (Zq l) c=qz l c:=by
 cases l with
 |nil=>rfl
 |cons s l=>
  rw[Y3,Y3]
  exact congrArg (fun x=>decide (x=some 1)) (atJ c l [] s h)
attribute [local irreducible] zb
structure zhB(L:List (List Int)):Prop where
 n:L.length<2^31
 r:∀c∈L,∃x c',c=x::c'∧Zd x
end
section
open Go.AM
attribute [local irreducible] zb
theorem zbY(rows:List Row):∀(n:Nat) (pre l:List Int),∀c∈QM rows n pre l,∃x c',c=x::c'
 |0,_,_,c,h=>by simp[QM]at h
 |_+1,_,[],c,h=>by simp[QM]at h
 |n+1,pre,x::l,c,h=>by
  rw[QM]at h
  rcases List.mem_cons.1 h with rfl|h
  ·exact⟨_,_,rfl⟩
  ·exact zbY rows n _ _ c h
theorem zaD(l:List Int)(hn:l.length<2^31)(hr:∀x∈l,Zd x):zhB (kU zb l)where
 n:=by have:=YY.num l;omega
 r c hc:=by
  obtain⟨x,c',rfl⟩:=zbY zb _ _ _ c hc
  refine⟨x,c',rfl,hr x ?_⟩
  have:x∈(kU zb l).flatten:=List.mem_flatten.2 ⟨_,hc,by simp⟩
  rw[YY.flat]at this
  exact this
end
end Go.Proofs.YtfjdbbpimklecaaGreatDoor
