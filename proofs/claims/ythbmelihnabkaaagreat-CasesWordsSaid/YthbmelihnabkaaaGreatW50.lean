/- A part of the proof of this seat's statements, by an abstract machine: what each operation does to values, and what the law's functions compute. Conditions: as each law says. -/
import Derived.Test.YthbmelihnabkaaaGreatW49
import Derived.Test.YthbmelihnabkaaaGreatW48
section
namespace Go.Proofs.YthbmelihnabkaaaGreat
open Go.AM
set_option maxHeartbeats 4000000
set_option maxRecDepth 10000
attribute [local irreducible] za
def wsM(L:List (List Int)):Nat→Nat→List (Nat×Nat)
 |0,_=>[]
 |n+1,k=>if k<L.length then(if QS L k then(k,QQ L k)::wsM L n (QQ L k)else wsM L n (k+1))else []
theorem zgh(L:List (List Int))(n:Nat) {k:Nat}(h:L.length≤k):wsM L n k=[]:=by
 cases n with
 |zero=>rfl
 |succ n=>unfold wsM;rw[if_neg (by omega)]
theorem zkj [Gi] {e:PV}(hT:qB e) {l:List Int} {L:List (List Int)}(h:Ln l L):CR Tryz.prog 113 [] [.p e,.p (zh l)] [] (is (.p (.sl 2 (woP L (wsM L L.length 0))))):=by
 refine walk Tryz.func113 8 [] [] [] ?_
 have hs:=h.sum
 have hcl:=h.cl
 have hn:=h.n
 have hlen:=hcl.len
 have ins:∀{k:Nat},k<L.length→CR Tryz.prog 134 [] [.p e,.p (zh l),.p (.int .i64 (plc L k:Nat))] [] (is (.p (.bool (QS L k)))):=fun hk=>kH hT h hk
 have fw:∀{k:Nat},k≤L.length→CR Tryz.prog 80 [] [.p e,.p (zh l),.p (.int .i64 (plc L k:Nat))] [] (is (.p (.int .i64 (plc L (QQ L k):Nat)))):=fun {k} hk=>by
  have:=wc hT h (plc L k:Nat)
  rw[Vc hcl hk]at this
  exact this
 have nx:∀{k:Nat},k<L.length→CR Tryz.prog 136 [] [.p e,.p (zh l),.p (.int .i64 (plc L k:Nat))] [] (is (.p (.int .i64 (plc L (k+1):Nat)))):=fun hk=>y7 hT h hk
 obtain⟨W,hW⟩:∃W,W=wsM L L.length 0:=⟨_,rfl⟩
 rw[←hW]
 obtain⟨z0,y0,rfl⟩:=qA hT
 simp (maxSteps:=1000000) [go_sem,Tryz.f113]
 refine loop (fun r:Nat×Nat×List (Nat×Nat)=>r.2.1≤L.length∧r.2.2.length≤r.2.1∧L.length≤r.1+r.2.1∧r.2.2++wsM L r.1 r.2.1=W) (fun r=>[(6,.p (.int .i64 (plc L r.2.1:Nat))),(5,.os [5] 2 (woP L r.2.2)),(7,.zU)]) (fun _=>[]) (fun r=>L.length-r.2.1) (L.length,0,[]) ⟨Nat.zero_le _,Nat.zero_le _,by show L.length≤L.length+0;omega,hW.symm⟩ (fun r hi=>?_)
  (h0:=by simp[go_sem,LeS,leV,leR,leA,woP,Zy])
 obtain⟨n,k,o⟩:=r
 obtain⟨j1,j2,j3,j4⟩:=hi
 simp only at j1 j2 j3 j4
 by_cases d:k<L.length
 ·have d0:=Zx hcl d (Nat.le_refl _)
  rw[qP,hs]at d0
  obtain⟨n',rfl⟩:∃n',n=n'+1:=⟨n-1,by omega⟩
  unfold wsM at j4
  rw[if_pos d]at j4
  have hw:=ins d
  simp (maxSteps:=1000000) [go_sem,d0]
  cases hb:QS L k with
  |true=>
   rw[hb]at hw
   rw[hb,if_pos rfl]at j4
   have f1:=KL L d
   have f2:=KX L j1
   refine zk hw ?_
   simp (maxSteps:=1000000) [go_sem]
   refine zk (fw j1) ?_
   simp (maxSteps:=1000000) [go_sem,ki]
   refine⟨by omega,?_⟩
   have hap:woP L (o++[(k,QQ L k)])=woP L o++[.agg [.int .i64 (plc L k:Nat),.int .i64 (plc L (QQ L k):Nat)]]:=by unfold woP;rw[List.map_append];rfl
   exact next (n',QQ L k,o++[(k,QQ L k)]) ⟨f2,by show(o++[(k,QQ L k)]).length≤QQ L k;rw[List.length_append,List.length_singleton];omega,by show L.length≤n'+QQ L k;omega,by rw[List.append_assoc];exact j4⟩ (h3:=by show L.length-QQ L k<L.length-k;omega) (h2:=by simp[go_sem,LeS,leV,leR,leA,hap])
  |false=>
   rw[hb]at hw
   rw[hb,if_neg (by decide)]at j4
   refine zk hw ?_
   simp (maxSteps:=1000000) [go_sem]
   refine zk (nx d) ?_
   simp (maxSteps:=1000000) [go_sem]
   exact next (n',k+1,o) ⟨d,by show o.length≤k+1;omega,by show L.length≤n'+(k+1);omega,j4⟩ (h3:=by show L.length- (k+1)<L.length-k;omega)
 ·obtain rfl:k=L.length:=by omega
  rw[zgh L n (Nat.le_refl _),List.append_nil]at j4
  rw[qP,hs,j4]
  simp (maxSteps:=1000000) [go_sem]
  exact ret
def WO(L:List (List Int)):Nat→List (Nat×Nat)→Prop
 |_,[]=>True
 |k,w::o=>k≤w.1∧w.1<w.2∧w.2≤L.length∧WO L w.2 o
theorem WO.za0 {L:List (List Int)} {k k':Nat}(h:k≤k'):∀{o:List (Nat×Nat)},WO L k' o→WO L k o
 | [],_=>trivial
 |_::_,h2=>⟨Nat.le_trans h h2.1,h2.2⟩
theorem Yx(L:List (List Int)):∀(n k:Nat),WO L k (wsM L n k)
 |0,_=>trivial
 |n+1,k=>by
  unfold wsM
  split
  ·rename_i d
   split
   ·exact⟨Nat.le_refl _,KL L d,KX L (Nat.le_of_lt d),Yx L n _⟩
   ·exact(Yx L n (k+1)).za0 (Nat.le_succ k)
  ·trivial
def vJ(l:List Int)(L:List (List Int)):Nat→List (Nat×Nat)→List Int
 |k,[]=>l.drop (plc L k)
 |k,w::o=>cut l (plc L k:Nat) (plc L w.1:Nat)++(Vb (cut l (plc L w.1:Nat) (plc L w.2:Nat))++vJ l L w.2 o)
def kQ(l:List Int):List Int:=qN za (vJ (qN za l) (qn za (qN za l)) 0 (wsM (qn za (qN za l)) (qn za (qN za l)).length 0))
theorem Yt(l:List Int):(Vb l).length≤9*l.length:=by
 have h1:=Qm (jJ true (ZO za l))
 have h2:=QP l
 rw[ka]at h1
 unfold Vb;omega
theorem Un {l:List Int}(hn:l.length≤20000)(hl:∀x∈l,zu x):∀x∈Vb l,zu x:=by
 have h2:=QP l
 exact kd.rune _ (by rw[ka];omega) (uM true (yh hl))
theorem jV {l:List Int} {a b:Nat}(h1:a≤b)(h2:b≤l.length):(cut l (a:Nat) (b:Nat)).length=b-a:=by
 unfold cut;rw[Int.toNat_natCast,Int.toNat_natCast,List.length_take,List.length_drop];omega
theorem QG {l:List Int}(hl:∀x∈l,zu x)(a b:Int):∀x∈cut l a b,zu x:=Qp (ZA hl _) _
theorem zgJ [Gi] {e:PV}(hT:qB e)(l0:List Int)(hn:l0.length≤1000)(hr:∀x∈l0,zu x):CR Tryz.prog 57 [] [.p e,.p (zh l0)] [] (is (.p (zh (kQ l0)))):=by
 refine walk Tryz.func57 10 [15,16,17] [] [] ?_
 have h1:=jY hT l0 (by omega) hr
 have hsh:=Qm l0
 have hln:=lnC l0 hn hr
 have htl:kQ l0=qN za (vJ (qN za l0) (qn za (qN za l0)) 0 (wsM (qn za (qN za l0)) (qn za (qN za l0)).length 0)):=rfl
 rw[htl]
 clear htl
 generalize qN za l0=l at h1 hsh hln⊢
 generalize qn za l=L at hln⊢
 have h2:=zkj hT hln
 have hwo:=Yx L L.length 0
 have hwl:(wsM L L.length 0).length≤L.length:=by
  have key:∀(o:List (Nat×Nat)) (k:Nat),WO L k o→k≤L.length→o.length≤L.length-k:=by
   intro o
   induction o with
   |nil=>intro k _ _;exact Nat.zero_le _
   |cons w o ih=>
    intro k h hk
    have:=ih w.2 h.2.2.2 h.2.2.1
    have a1:=h.1
    have a2:=h.2.1
    have a3:=h.2.2.1
    rw[List.length_cons];omega
  have:=key _ 0 hwo (Nat.zero_le _)
  omega
 generalize wsM L L.length 0=W at h2 hwo hwl⊢
 have hs:=hln.sum
 have hcl:=hln.cl
 have hlen:=hcl.len
 have hea:∀{a b:Nat},a<b→b≤l.length→CR Tryz.prog 54 [[0]] [.p e,.p (zh (cut l (a:Nat) (b:Nat))),.fn 114 [.lp [0] 0]] [([0],[.p (.bool true)])] (zl7 (zh (Vb (cut l (a:Nat) (b:Nat))))):=fun {a b} h1 h2=>
  YK hT _ (by rw[jV (by omega) h2];omega) (QG hln.r _ _) (fun h=>by have:=jV (l:=l) (Nat.le_of_lt h1) h2;rw[h]at this;simp at this;omega)
 have hfin:∀X:List Int,X.length≤60000→(∀x∈X,zu x)→CR Tryz.prog 58 [] [.p e,.p (zh X)] [] (is (.p (zh (qN za X)))):=fun X h1 h2=>jY hT X (by omega) h2
 obtain⟨T,hTT⟩:∃T,T=vJ l L 0 W:=⟨_,rfl⟩
 rw[←hTT]
 obtain⟨z0,y0,rfl⟩:=qA hT
 simp (maxSteps:=1000000) [go_sem,Tryz.f57]
 refine zk h1 ?_
 simp (maxSteps:=1000000) [go_sem]
 refine zk h2 ?_
 simp (maxSteps:=1000000) [go_sem,ki]
 refine loop (fun r:Nat×Nat×List Int=>r.1≤W.length∧r.2.1≤L.length∧WO L r.2.1 (W.drop r.1)∧r.2.2++vJ l L r.2.1 (W.drop r.1)=T∧r.2.2.length≤9*plc L r.2.1∧∀x∈r.2.2,zu x) (fun r=>[(17,.p (.int .i64 r.1)),(5,.os [5] 1 (zr r.2.2)),(6,.p (.int .i64 (plc L r.2.1:Nat))),(8,.zU),(9,.zU)]) (fun _=>[]) (fun r=>W.length-r.1) (0,0,[]) ⟨Nat.zero_le _,Nat.zero_le _,hwo,hTT.symm,Nat.zero_le _,by simp⟩ (fun r hi=>?_)
  (h0:=by simp[go_sem,LeS,leV,leR,leA,zr,Zy])
 obtain⟨i,k,O⟩:=r
 obtain⟨j1,j2,j3,j4,j5,j6⟩:=hi
 simp only at j1 j2 j3 j4 j5 j6
 by_cases d:i<W.length
 ·have em:=zel (L:=L) d
  have hdr:=List.drop_eq_getElem_cons d
  rw[hdr]at j3 j4
  generalize W[i]=w at em j3 j4
  obtain⟨w1,w2⟩:=w
  obtain⟨b1,b2,b3,b4⟩:=j3
  simp only at b1 b2 b3 b4
  have p1:=QU hcl b1 (by omega)
  have p2:=Zx hcl b2 b3
  have p3:=jW hcl b3
  rw[hs]at p3
  have he:=hea p2 p3
  have l1:=jV (l:=l) p1 (by omega)
  have l2:=jV (l:=l) (Nat.le_of_lt p2) p3
  have l3:=Yt (cut l (plc L w1:Nat) (plc L w2:Nat))
  have r3:=Un (l:=cut l (plc L w1:Nat) (plc L w2:Nat)) (by omega) (QG hln.r _ _)
  have r2:=QG hln.r (plc L k:Nat) (plc L w1:Nat)
  simp only[vJ]at j4
  generalize Vb (cut l (plc L w1:Nat) (plc L w2:Nat))=Z at he l3 r3 j4
  have w3:IntKind.i64.wrap ((i:Int)+1)=((i+1:Nat):Int):=zN (by omega)
  simp (maxSteps:=1000000) [go_sem,d,em,wP,p1,p3]
  refine⟨by rw[ki];exact d,by omega,by rw[l1];omega,by omega,call [([0],[9])] he ?_⟩
  rintro _ _ ⟨⟨b,rfl⟩,rfl⟩
  simp (maxSteps:=1000000) [go_sem,w3]
  refine⟨by rw[l1];omega,?_⟩
  refine next (i+1,w2,O++(cut l (plc L k:Nat) (plc L w1:Nat)++Z)) ⟨d,b3,b4,?_,?_,q8 j6 (q8 r2 r3)⟩ (h3:=by show W.length- (i+1)<W.length-i;omega) (h2:=by simp[go_sem,LeS,leV,leR,leA])
  ·simp only[List.append_assoc];exact j4
  ·simp only[List.length_append,l1];omega
 ·obtain rfl:i=W.length:=by omega
  rw[List.drop_length,vJ]at j4
  have k2:cut l (plc L k:Nat) (l.length:Nat)=l.drop (plc L k):=by simp[cut,List.take_of_length_le]
  have p3:=jW hcl j2
  rw[hs]at p3
  have l4:T.length=O.length+(l.length-plc L k):=by rw[←j4,List.length_append,List.length_drop]
  have r4:∀x∈T,zu x:=by rw[←j4];exact q8 j6 (ZA hln.r _)
  have hf:=hfin T (by omega) r4
  simp (maxSteps:=1000000) [go_sem,k2,p3]
  refine⟨by omega,zk hf ?_ (ha':=by simp[go_sem,j4])⟩
  simp (maxSteps:=1000000) [go_sem]
  exact ret
end Go.Proofs.YthbmelihnabkaaaGreat
end
section
namespace Go.Proofs.YthbmelihnabkaaaGreat
open Go.AM
set_option maxHeartbeats 4000000
set_option maxRecDepth 10000
attribute [local irreducible] za
theorem JX {L:List (List Int)}:∀(n k:Nat) (pre o:List (Nat×Nat)),Zj L L.length (pre++o)→(∀v∈pre,v.2≤k)→(∀w∈o,k≤w.1)→L.length≤n+k→o=wsM L n k
 |n,k,pre,o,h,h1,h2,h3=>by
  by_cases d:k<L.length
  ·obtain⟨n',rfl⟩:∃n',n=n'+1:=⟨n-1,by omega⟩
   unfold wsM
   rw[if_pos d]
   cases hb:QS L k with
   |true=>
    rw[if_pos rfl]
    obtain⟨w,hw,a1,a2⟩:=h.all k d hb
    have hwo:w∈o:=by
     rcases List.mem_append.1 hw with q|q
     ·have:=h1 w q;omega
     ·exact q
    have a3:=h2 w hwo
    cases o with
    |nil=>cases hwo
    |cons x t=>
     have hx:=h.seg x (List.mem_append_right _ List.mem_cons_self)
     have hx2:=h2 x List.mem_cons_self
     have hp:=(List.pairwise_append.1 h.ord).2.1
     have hwx:w=x:=by
      rcases List.mem_cons.1 hwo with q|q
      ·exact q
      ·have:=(List.pairwise_cons.1 hp).1 w q
       omega
     subst hwx
     have e1:w.1=k:=by omega
     have e2:QQ L k=w.2:=h.fwd (by omega) h1 a2
     have ih:=JX n' w.2 (pre++[w]) t (by rw[List.append_assoc];exact h) (fun v hv=>by
      rcases List.mem_append.1 hv with q|q
      ·have:=h1 v q;omega
      ·rw[List.mem_singleton.1 q];exact Nat.le_refl _) (fun v hv=>Nat.le_of_lt ((List.pairwise_cons.1 hp).1 v hv)) (by omega)
     rw[e2,←ih,←e1]
   |false=>
    rw[if_neg (by decide)]
    refine JX n' (k+1) pre o h (fun v hv=>Nat.le_succ_of_le (h1 v hv)) (fun w hw=>?_) (by omega)
    have a1:=h2 w hw
    have a2:=h.seg w (List.mem_append_right _ hw)
    have a3:w.1≠k:=fun e=>by
     have:=a2.2.2.1 k (by omega) (by omega)
     rw[hb]at this;cases this
    omega
  ·rw[zgh L n (by omega)]
   cases o with
   |nil=>rfl
   |cons x t=>
    have hx:=h.seg x (List.mem_append_right _ List.mem_cons_self)
    have hx2:=h2 x List.mem_cons_self
    omega
theorem zg8 [Gi] {l:List Int} {L:List (List Int)}(h:Ln l L):CR Tryz.prog 76 [] [.p (zJ za),.p (zh l)] [] (is (.p (.sl 2 (woP L (wsM L L.length 0))))):=by
 refine CR.mono (XR h) ?_
 rintro x rs ⟨o,ho,rfl,rfl⟩
 have e:=JX L.length 0 [] o ho (by simp) (fun w _=>Nat.zero_le _) (Nat.le_refl _)
 exact⟨rfl,by rw[←e]⟩
theorem zfU(r:Int):zA (r+32)=r↔(65≤r∧r≤90)∨r=198∨r=208∨r=216∨r=222∨(913≤r∧r≤937∧r≠930)∨(1040≤r∧r≤1071):=by
 unfold zA;repeat' split
 all_goals omega
theorem zkT(r:Int):zA (r+80)=r↔(1024≤r∧r≤1039):=by
 unfold zA;repeat' split
 all_goals omega
theorem zkv {r:Int}(h:r≠930):zG r=if zA (r+32)=r then r+32 else if zA (r+80)=r then r+80 else r:=by
 have h1:=zfU r
 have h2:=zkT r
 by_cases q1:zA (r+32)=r
 ·have:=h1.1 q1
  rw[if_pos q1]
  unfold zG;repeat' split
  all_goals omega
 ·rw[if_neg q1]
  have n1:=fun x=>q1 (h1.2 x)
  by_cases q2:zA (r+80)=r
  ·have:=h2.1 q2
   rw[if_pos q2]
   unfold zG;repeat' split
   all_goals omega
  ·rw[if_neg q2]
   have n2:=fun x=>q2 (h2.2 x)
   unfold zG;repeat' split
   all_goals omega
theorem XO {r:Int}(h:r<0∨1114111<r):zG r=r:=by
 unfold zG;repeat' split
 all_goals omega
theorem zfQ {r:Int}(h:zG r≠r):zA r=r:=by
 have h1:(65≤r∧r≤90)∨r=198∨r=208∨r=216∨r=222∨(913≤r∧r≤937∧r≠930)∨(1040≤r∧r≤1071)∨(1024≤r∧r≤1039):=by
  revert h
  unfold zG;repeat' split
  all_goals intro h
  all_goals omega
 unfold zA;repeat' split
 all_goals omega
theorem zeB(x:Int):(zA (zG x)=zG x)↔(zA x=x∧zG x=x):=by
 rw[zd0]
 constructor
 ·intro h
  by_cases q:zG x=x
  ·exact⟨h.trans q,q⟩
  ·have:=zfQ q
   exact absurd (h.symm.trans this) q
 ·rintro⟨h1,h2⟩;rw[h1,h2]
theorem ux [Gi] {r:Int}(hr:zu r):CR Tryz.prog 88 [] [.p (.int .i32 r)] [] (is (.p (.int .i32 (zA r)))):=by
 refine walk Tryz.func88 3 [] [] [] ?_
 have hr1:=hr.1
 have hr2:=hr.2
 by_cases c0:r=962
 ·subst c0
  have e:zA 962=931:=by decide
  rw[e]
  simp (maxSteps:=1000000) [go_sem,Tryz.f88]
  exact ret
 ·rcases(show r≤96∨(97≤r∧r≤122)∨(123≤r∧r≤229)∨r=230∨(231≤r∧r≤239)∨r=240∨(241≤r∧r≤247)∨r=248∨(249≤r∧r≤253)∨r=254∨(255≤r∧r≤944)∨(945≤r∧r≤969)∨(970≤r∧r≤1071)∨(1072≤r∧r≤1103)∨(1104≤r∧r≤1119)∨1120≤r by omega)with h|h|h|h|h|h|h|h|h|h|h|h|h|h|h|h
  ·have a0:¬97≤r:=by omega
   have a1:r≤122:=by omega
   have a2:¬r=230:=by omega
   have a3:¬r=240:=by omega
   have a4:¬r=248:=by omega
   have a5:¬r=254:=by omega
   have a6:¬945≤r:=by omega
   have a7:r≤969:=by omega
   have a8:¬1072≤r:=by omega
   have a9:r≤1103:=by omega
   have a10:¬1104≤r:=by omega
   have a11:r≤1119:=by omega
   have e:zA r=r:=by
    unfold zA;repeat' split
    all_goals omega
   rw[e]
   simp (maxSteps:=1000000) [go_sem,Tryz.f88,c0,a0,a1,a2,a3,a4,a5,a6,a7,a8,a9,a10,a11]
   exact ret
  ·have a0:97≤r:=by omega
   have a1:r≤122:=by omega
   have a2:¬r=230:=by omega
   have a3:¬r=240:=by omega
   have a4:¬r=248:=by omega
   have a5:¬r=254:=by omega
   have a6:¬945≤r:=by omega
   have a7:r≤969:=by omega
   have a8:¬1072≤r:=by omega
   have a9:r≤1103:=by omega
   have a10:¬1104≤r:=by omega
   have a11:r≤1119:=by omega
   have e:zA r=r-32:=by
    unfold zA;repeat' split
    all_goals omega
   rw[e]
   have w:IntKind.i32.wrap (r-32)=r-32:=wrap32 (by omega) (by omega)
   simp (maxSteps:=1000000) [go_sem,Tryz.f88,c0,a0,a1,a2,a3,a4,a5,a6,a7,a8,a9,a10,a11,w]
   exact ret
  ·have a0:97≤r:=by omega
   have a1:¬r≤122:=by omega
   have a2:¬r=230:=by omega
   have a3:¬r=240:=by omega
   have a4:¬r=248:=by omega
   have a5:¬r=254:=by omega
   have a6:¬945≤r:=by omega
   have a7:r≤969:=by omega
   have a8:¬1072≤r:=by omega
   have a9:r≤1103:=by omega
   have a10:¬1104≤r:=by omega
   have a11:r≤1119:=by omega
   have e:zA r=r:=by
    unfold zA;repeat' split
    all_goals omega
   rw[e]
   simp (maxSteps:=1000000) [go_sem,Tryz.f88,c0,a0,a1,a2,a3,a4,a5,a6,a7,a8,a9,a10,a11]
   exact ret
  ·subst h
   have e:zA 230=198:=by decide
   have w:IntKind.i32.wrap 198=198:=wrap32 (by omega) (by omega)
   rw[e]
   simp (maxSteps:=1000000) [go_sem,Tryz.f88,w]
   exact ret
  ·have a0:97≤r:=by omega
   have a1:¬r≤122:=by omega
   have a2:¬r=230:=by omega
   have a3:¬r=240:=by omega
   have a4:¬r=248:=by omega
   have a5:¬r=254:=by omega
   have a6:¬945≤r:=by omega
   have a7:r≤969:=by omega
   have a8:¬1072≤r:=by omega
   have a9:r≤1103:=by omega
   have a10:¬1104≤r:=by omega
   have a11:r≤1119:=by omega
   have e:zA r=r:=by
    unfold zA;repeat' split
    all_goals omega
   rw[e]
   simp (maxSteps:=1000000) [go_sem,Tryz.f88,c0,a0,a1,a2,a3,a4,a5,a6,a7,a8,a9,a10,a11]
   exact ret
  ·subst h
   have e:zA 240=208:=by decide
   have w:IntKind.i32.wrap 208=208:=wrap32 (by omega) (by omega)
   rw[e]
   simp (maxSteps:=1000000) [go_sem,Tryz.f88,w]
   exact ret
  ·have a0:97≤r:=by omega
   have a1:¬r≤122:=by omega
   have a2:¬r=230:=by omega
   have a3:¬r=240:=by omega
   have a4:¬r=248:=by omega
   have a5:¬r=254:=by omega
   have a6:¬945≤r:=by omega
   have a7:r≤969:=by omega
   have a8:¬1072≤r:=by omega
   have a9:r≤1103:=by omega
   have a10:¬1104≤r:=by omega
   have a11:r≤1119:=by omega
   have e:zA r=r:=by
    unfold zA;repeat' split
    all_goals omega
   rw[e]
   simp (maxSteps:=1000000) [go_sem,Tryz.f88,c0,a0,a1,a2,a3,a4,a5,a6,a7,a8,a9,a10,a11]
   exact ret
  ·subst h
   have e:zA 248=216:=by decide
   have w:IntKind.i32.wrap 216=216:=wrap32 (by omega) (by omega)
   rw[e]
   simp (maxSteps:=1000000) [go_sem,Tryz.f88,w]
   exact ret
  ·have a0:97≤r:=by omega
   have a1:¬r≤122:=by omega
   have a2:¬r=230:=by omega
   have a3:¬r=240:=by omega
   have a4:¬r=248:=by omega
   have a5:¬r=254:=by omega
   have a6:¬945≤r:=by omega
   have a7:r≤969:=by omega
   have a8:¬1072≤r:=by omega
   have a9:r≤1103:=by omega
   have a10:¬1104≤r:=by omega
   have a11:r≤1119:=by omega
   have e:zA r=r:=by
    unfold zA;repeat' split
    all_goals omega
   rw[e]
   simp (maxSteps:=1000000) [go_sem,Tryz.f88,c0,a0,a1,a2,a3,a4,a5,a6,a7,a8,a9,a10,a11]
   exact ret
  ·subst h
   have e:zA 254=222:=by decide
   have w:IntKind.i32.wrap 222=222:=wrap32 (by omega) (by omega)
   rw[e]
   simp (maxSteps:=1000000) [go_sem,Tryz.f88,w]
   exact ret
  ·have a0:97≤r:=by omega
   have a1:¬r≤122:=by omega
   have a2:¬r=230:=by omega
   have a3:¬r=240:=by omega
   have a4:¬r=248:=by omega
   have a5:¬r=254:=by omega
   have a6:¬945≤r:=by omega
   have a7:r≤969:=by omega
   have a8:¬1072≤r:=by omega
   have a9:r≤1103:=by omega
   have a10:¬1104≤r:=by omega
   have a11:r≤1119:=by omega
   have e:zA r=r:=by
    unfold zA;repeat' split
    all_goals omega
   rw[e]
   simp (maxSteps:=1000000) [go_sem,Tryz.f88,c0,a0,a1,a2,a3,a4,a5,a6,a7,a8,a9,a10,a11]
   exact ret
  ·have a0:97≤r:=by omega
   have a1:¬r≤122:=by omega
   have a2:¬r=230:=by omega
   have a3:¬r=240:=by omega
   have a4:¬r=248:=by omega
   have a5:¬r=254:=by omega
   have a6:945≤r:=by omega
   have a7:r≤969:=by omega
   have a8:¬1072≤r:=by omega
   have a9:r≤1103:=by omega
   have a10:¬1104≤r:=by omega
   have a11:r≤1119:=by omega
   have e:zA r=r-32:=by
    unfold zA;repeat' split
    all_goals omega
   rw[e]
   have w:IntKind.i32.wrap (r-32)=r-32:=wrap32 (by omega) (by omega)
   simp (maxSteps:=1000000) [go_sem,Tryz.f88,c0,a0,a1,a2,a3,a4,a5,a6,a7,a8,a9,a10,a11,w]
   exact ret
  ·have a0:97≤r:=by omega
   have a1:¬r≤122:=by omega
   have a2:¬r=230:=by omega
   have a3:¬r=240:=by omega
   have a4:¬r=248:=by omega
   have a5:¬r=254:=by omega
   have a6:945≤r:=by omega
   have a7:¬r≤969:=by omega
   have a8:¬1072≤r:=by omega
   have a9:r≤1103:=by omega
   have a10:¬1104≤r:=by omega
   have a11:r≤1119:=by omega
   have e:zA r=r:=by
    unfold zA;repeat' split
    all_goals omega
   rw[e]
   simp (maxSteps:=1000000) [go_sem,Tryz.f88,c0,a0,a1,a2,a3,a4,a5,a6,a7,a8,a9,a10,a11]
   exact ret
  ·have a0:97≤r:=by omega
   have a1:¬r≤122:=by omega
   have a2:¬r=230:=by omega
   have a3:¬r=240:=by omega
   have a4:¬r=248:=by omega
   have a5:¬r=254:=by omega
   have a6:945≤r:=by omega
   have a7:¬r≤969:=by omega
   have a8:1072≤r:=by omega
   have a9:r≤1103:=by omega
   have a10:¬1104≤r:=by omega
   have a11:r≤1119:=by omega
   have e:zA r=r-32:=by
    unfold zA;repeat' split
    all_goals omega
   rw[e]
   have w:IntKind.i32.wrap (r-32)=r-32:=wrap32 (by omega) (by omega)
   simp (maxSteps:=1000000) [go_sem,Tryz.f88,c0,a0,a1,a2,a3,a4,a5,a6,a7,a8,a9,a10,a11,w]
   exact ret
  ·have a0:97≤r:=by omega
   have a1:¬r≤122:=by omega
   have a2:¬r=230:=by omega
   have a3:¬r=240:=by omega
   have a4:¬r=248:=by omega
   have a5:¬r=254:=by omega
   have a6:945≤r:=by omega
   have a7:¬r≤969:=by omega
   have a8:1072≤r:=by omega
   have a9:¬r≤1103:=by omega
   have a10:1104≤r:=by omega
   have a11:r≤1119:=by omega
   have e:zA r=r-80:=by
    unfold zA;repeat' split
    all_goals omega
   rw[e]
   have w:IntKind.i32.wrap (r-80)=r-80:=wrap32 (by omega) (by omega)
   simp (maxSteps:=1000000) [go_sem,Tryz.f88,c0,a0,a1,a2,a3,a4,a5,a6,a7,a8,a9,a10,a11,w]
   exact ret
  ·have a0:97≤r:=by omega
   have a1:¬r≤122:=by omega
   have a2:¬r=230:=by omega
   have a3:¬r=240:=by omega
   have a4:¬r=248:=by omega
   have a5:¬r=254:=by omega
   have a6:945≤r:=by omega
   have a7:¬r≤969:=by omega
   have a8:1072≤r:=by omega
   have a9:¬r≤1103:=by omega
   have a10:1104≤r:=by omega
   have a11:¬r≤1119:=by omega
   have e:zA r=r:=by
    unfold zA;repeat' split
    all_goals omega
   rw[e]
   simp (maxSteps:=1000000) [go_sem,Tryz.f88,c0,a0,a1,a2,a3,a4,a5,a6,a7,a8,a9,a10,a11]
   exact ret
theorem XB [Gi] {r:Int}(hr:zu r):CR Tryz.prog 89 [] [.p (.int .i32 r)] [] (is (.p (.int .i32 (zG r)))):=by
 refine walk Tryz.func89 3 [] [] [] ?_
 have hr1:=hr.1
 have hr2:=hr.2
 by_cases c:r<0
 ·rw[XO (.inl c)]
  simp (maxSteps:=1000000) [go_sem,Tryz.f89,c]
  exact ret
 ·by_cases c1:1114111<r
  ·rw[XO (.inr c1)]
   simp (maxSteps:=1000000) [go_sem,Tryz.f89,c,c1]
   exact ret
  ·by_cases c2:r=930
   ·subst c2
    have e:zG 930=930:=by decide
    rw[e]
    simp (maxSteps:=1000000) [go_sem,Tryz.f89]
    exact ret
   ·have w1:IntKind.i32.wrap (r+32)=r+32:=wrap32 (by omega) (by omega)
    have w2:IntKind.i32.wrap (r+80)=r+80:=wrap32 (by omega) (by omega)
    have g1:=ux (r:=r+32) ⟨by omega,by omega⟩
    have g2:=ux (r:=r+80) ⟨by omega,by omega⟩
    have h1:=(zfU r).1
    rw[zkv c2]
    generalize zA (r+32)=y at g1 h1
    generalize zA (r+80)=z at g2
    simp (maxSteps:=1000000) [go_sem,Tryz.f89,c,c1,c2,w1]
    refine zk g1 ?_
    by_cases q1:y=r
    ·have hne:¬r+32=962:=by have:=h1 q1;omega
     subst q1
     simp (maxSteps:=1000000) [go_sem,w1,hne]
     exact ret
    ·rw[if_neg q1]
     simp (maxSteps:=1000000) [go_sem,q1,w2]
     refine zk g2 ?_
     by_cases q2:z=r
     ·subst q2
      simp (maxSteps:=1000000) [go_sem,w2]
      exact ret
     ·rw[if_neg q2]
      simp (maxSteps:=1000000) [go_sem,q2]
      exact ret
end Go.Proofs.YthbmelihnabkaaaGreat
end
section
namespace Go.Proofs.YthbmelihnabkaaaGreat
open Go.AM
set_option maxHeartbeats 4000000
set_option maxRecDepth 10000
attribute [local irreducible] za
theorem zgN {d:List Int} {i:Nat}(h:i<d.length):(jJ true d).take (i+1)=(jJ true d).take i++[if kq true (d.take i)then zA d[i]else zG d[i]]:=by
 rw[List.take_add_one,zbw d true i h];rfl
theorem zlI [Gi](l:List Int)(hn:l.length≤20000)(hr:∀x∈l,zu x):CR Tryz.prog 140 [] [.p (zJ za),.p (zh l)] [] (is (.p (zh (Vb l)))):=by
 refine walk Tryz.func140 9 [] [10] [] ?_
 have h1:=KT za Zr l (by omega) hr
 have hd:=QP l
 have hdr:=yh hr
 have hc:Vb l=qN za (jJ true (ZO za l)):=rfl
 rw[hc]
 generalize ZO za l=d at h1 hd hdr⊢
 have hwl:=ka d true
 have h2:=w9 za Zr (jJ true d) (by omega) (uM true hdr)
 simp (maxSteps:=1000000) [go_sem,Tryz.f140]
 refine zk h1 ?_
 simp (maxSteps:=1000000) [go_sem]
 refine loop (fun i:Nat=>i≤d.length) (fun i=>[(6,.os [6] 1 (zr ((jJ true d).take i))),(7,.p (.bool (!kq true (d.take i)))),(8,.p (.int .i64 i))]) (fun _=>[]) (fun i=>d.length-i) 0 (Nat.zero_le _) (fun i hi=>?_) (h0:=by simp[go_sem,LeS,leV,leR,leA,leL,zj,leT,leP,zr,kq])
 by_cases c:i<d.length
 ·have em:elemAt (zr d) i=.int .i32 d[i]:=by rw[zr,zt (fun r=>PV.int .i32 r) d i c]
  have hst:=zgN c
  have hnx:=XE c
  have hG:=ux (hdr d[i] (List.getElem_mem c))
  have hS:=XB (hdr d[i] (List.getElem_mem c))
  have hli:=zeB d[i]
  have hA:((jJ true d).take i).length=i:=by rw[List.length_take];omega
  have w1:IntKind.i64.wrap ((i:Int)+1)=((i+1:Nat):Int):=zN (by omega)
  generalize d[i]=x at em hst hnx hG hS hli
  have hV:∀(b':Bool) (y:Int),kq true (d.take (i+1))=b'→(jJ true d).take (i+1)=(jJ true d).take i++[y]→zr ((jJ true d).take (i+1))=zr ((jJ true d).take i)++[.int .i32 y]:=fun b' y _ h=>by rw[h];simp[zr]
  cases hb:kq true (d.take i)with
  |true=>
   rw[hb,if_pos rfl]at hst
   rw[hb]at hnx
   have hv:=hV _ _ rfl hst
   simp (maxSteps:=1000000) [go_sem,c,em]
   refine zk hG ?_
   simp (maxSteps:=1000000) [go_sem,hA,←hv]
   refine⟨by omega,?_⟩
   by_cases q1:zA x=x
   ·simp (maxSteps:=1000000) [go_sem,c,em]
    refine Qt 88 hG ?_
    simp (maxSteps:=1000000) [go_sem,c,em,q1]
    refine Qt 89 hS ?_
    by_cases q2:zG x=x
    ·have hn2:kq true (d.take (i+1))=true:=by rw[hnx,decide_eq_true (hli.2 ⟨q1,q2⟩)];rfl
     simp (maxSteps:=1000000) [go_sem,c,em,q1,q2,w1]
     exact next (i+1) c (h3:=by show d.length- (i+1)<d.length-i;omega) (h2:=by simp[go_sem,LeS,leV,leR,leA,leL,zj,leT,leP,hn2])
    ·have hn2:kq true (d.take (i+1))=false:=by rw[hnx,decide_eq_false (fun h=>q2 (hli.1 h).2)];rfl
     simp (maxSteps:=1000000) [go_sem,c,em,q1,q2,w1]
     exact next (i+1) c (h3:=by show d.length- (i+1)<d.length-i;omega) (h2:=by simp[go_sem,LeS,leV,leR,leA,leL,zj,leT,leP,hn2])
   ·have hn2:kq true (d.take (i+1))=false:=by rw[hnx,decide_eq_false (fun h=>q1 (hli.1 h).1)];rfl
    simp (maxSteps:=1000000) [go_sem,c,em]
    refine Qt 88 hG ?_
    simp (maxSteps:=1000000) [go_sem,c,em,q1]
    refine QO (.p (.int .i32 0)) rfl rfl (fun h=>absurd rfl h) ?_
    simp (maxSteps:=1000000) [go_sem,c,em,q1,w1]
    exact next (i+1) c (h3:=by show d.length- (i+1)<d.length-i;omega) (h2:=by simp[go_sem,LeS,leV,leR,leA,leL,zj,leT,leP,hn2])
  |false=>
   rw[hb,if_neg (by decide)]at hst
   rw[hb]at hnx
   have hv:=hV _ _ rfl hst
   simp (maxSteps:=1000000) [go_sem,c,em]
   refine zk hS ?_
   simp (maxSteps:=1000000) [go_sem,hA,←hv]
   refine⟨by omega,?_⟩
   by_cases q1:zA x=x
   ·simp (maxSteps:=1000000) [go_sem,c,em]
    refine Qt 88 hG ?_
    simp (maxSteps:=1000000) [go_sem,c,em,q1]
    refine Qt 89 hS ?_
    by_cases q2:zG x=x
    ·have hn2:kq true (d.take (i+1))=false:=by rw[hnx,decide_eq_true (hli.2 ⟨q1,q2⟩)];rfl
     simp (maxSteps:=1000000) [go_sem,c,em,q1,q2,w1]
     exact next (i+1) c (h3:=by show d.length- (i+1)<d.length-i;omega) (h2:=by simp[go_sem,LeS,leV,leR,leA,leL,zj,leT,leP,hn2])
    ·have hn2:kq true (d.take (i+1))=false:=by rw[hnx,decide_eq_false (fun h=>q2 (hli.1 h).2)];rfl
     simp (maxSteps:=1000000) [go_sem,c,em,q1,q2,w1]
     exact next (i+1) c (h3:=by show d.length- (i+1)<d.length-i;omega) (h2:=by simp[go_sem,LeS,leV,leR,leA,leL,zj,leT,leP,hn2])
   ·have hn2:kq true (d.take (i+1))=false:=by rw[hnx,decide_eq_false (fun h=>q1 (hli.1 h).1)];rfl
    simp (maxSteps:=1000000) [go_sem,c,em]
    refine Qt 88 hG ?_
    simp (maxSteps:=1000000) [go_sem,c,em,q1]
    refine QO (.p (.int .i32 0)) rfl rfl (fun h=>absurd rfl h) ?_
    simp (maxSteps:=1000000) [go_sem,c,em,q1,w1]
    exact next (i+1) c (h3:=by show d.length- (i+1)<d.length-i;omega) (h2:=by simp[go_sem,LeS,leV,leR,leA,leL,zj,leT,leP,hn2])
 ·obtain rfl:i=d.length:=by omega
  have hk:(jJ true d).take d.length=jJ true d:=List.take_of_length_le (by omega)
  rw[hk]
  simp (maxSteps:=1000000) [go_sem]
  refine zk h2 ?_
  simp (maxSteps:=1000000) [go_sem]
  exact ret
end Go.Proofs.YthbmelihnabkaaaGreat
end
section
namespace Go.Proofs.YthbmelihnabkaaaGreat
open Go.AM
set_option maxHeartbeats 4000000
set_option maxRecDepth 10000
attribute [local irreducible] za
theorem zfz [Gi](l0:List Int)(hn:l0.length≤1000)(hr:∀x∈l0,zu x):CR Tryz.prog 87 [] [.p (zJ za),.p (zh l0)] [] (is (.p (zh (kQ l0)))):=by
 refine walk Tryz.func87 9 [] [9] [] ?_
 have h1:=w9 za Zr l0 (by omega) hr
 have hsh:=Qm l0
 have hln:=lnC l0 hn hr
 have htl:kQ l0=qN za (vJ (qN za l0) (qn za (qN za l0)) 0 (wsM (qn za (qN za l0)) (qn za (qN za l0)).length 0)):=rfl
 rw[htl]
 clear htl
 generalize qN za l0=l at h1 hsh hln⊢
 generalize qn za l=L at hln⊢
 have h2:=zg8 hln
 have hwo:=Yx L L.length 0
 have hwl:(wsM L L.length 0).length≤L.length:=by
  have key:∀(o:List (Nat×Nat)) (k:Nat),WO L k o→k≤L.length→o.length≤L.length-k:=by
   intro o
   induction o with
   |nil=>intro k _ _;exact Nat.zero_le _
   |cons w o ih=>
    intro k h hk
    have:=ih w.2 h.2.2.2 h.2.2.1
    have a1:=h.1
    have a2:=h.2.1
    have a3:=h.2.2.1
    rw[List.length_cons];omega
  have:=key _ 0 hwo (Nat.zero_le _)
  omega
 generalize wsM L L.length 0=W at h2 hwo hwl⊢
 have hs:=hln.sum
 have hcl:=hln.cl
 have hlen:=hcl.len
 have hea:∀{a b:Nat},a<b→b≤l.length→CR Tryz.prog 140 [] [.p (zJ za),.p (zh (cut l (a:Nat) (b:Nat)))] [] (is (.p (zh (Vb (cut l (a:Nat) (b:Nat)))))):=fun {a b} h1 h2=>
  zlI _ (by rw[jV (by omega) h2];omega) (QG hln.r _ _)
 have hfin:∀X:List Int,X.length≤60000→(∀x∈X,zu x)→CR Tryz.prog 12 [] [.p (zJ za),.p (zh X)] [] (is (.p (zh (qN za X)))):=fun X h1 h2=>w9 za Zr X (by omega) h2
 obtain⟨T,hTT⟩:∃T,T=vJ l L 0 W:=⟨_,rfl⟩
 rw[←hTT]
 simp (maxSteps:=1000000) [go_sem,Tryz.f87]
 refine zk h1 ?_
 simp (maxSteps:=1000000) [go_sem]
 refine zk h2 ?_
 simp (maxSteps:=1000000) [go_sem,ki]
 refine loop (fun r:Nat×Nat×List Int=>r.1≤W.length∧r.2.1≤L.length∧WO L r.2.1 (W.drop r.1)∧r.2.2++vJ l L r.2.1 (W.drop r.1)=T∧r.2.2.length≤9*plc L r.2.1∧∀x∈r.2.2,zu x) (fun r=>[(8,.p (.int .i64 r.1)),(5,.os [5] 1 (zr r.2.2)),(6,.p (.int .i64 (plc L r.2.1:Nat)))]) (fun _=>[]) (fun r=>W.length-r.1) (0,0,[]) ⟨Nat.zero_le _,Nat.zero_le _,hwo,hTT.symm,Nat.zero_le _,by simp⟩ (fun r hi=>?_)
  (h0:=by simp[go_sem,LeS,leV,leR,leA,zr,Zy])
 obtain⟨i,k,O⟩:=r
 obtain⟨j1,j2,j3,j4,j5,j6⟩:=hi
 simp only at j1 j2 j3 j4 j5 j6
 by_cases d:i<W.length
 ·have em:=zel (L:=L) d
  have hdr:=List.drop_eq_getElem_cons d
  rw[hdr]at j3 j4
  generalize W[i]=w at em j3 j4
  obtain⟨w1,w2⟩:=w
  obtain⟨b1,b2,b3,b4⟩:=j3
  simp only at b1 b2 b3 b4
  have p1:=QU hcl b1 (by omega)
  have p2:=Zx hcl b2 b3
  have p3:=jW hcl b3
  rw[hs]at p3
  have he:=hea p2 p3
  have l1:=jV (l:=l) p1 (by omega)
  have l2:=jV (l:=l) (Nat.le_of_lt p2) p3
  have l3:=Yt (cut l (plc L w1:Nat) (plc L w2:Nat))
  have r3:=Un (l:=cut l (plc L w1:Nat) (plc L w2:Nat)) (by omega) (QG hln.r _ _)
  have r2:=QG hln.r (plc L k:Nat) (plc L w1:Nat)
  simp only[vJ]at j4
  generalize Vb (cut l (plc L w1:Nat) (plc L w2:Nat))=Z at he l3 r3 j4
  have w3:IntKind.i64.wrap ((i:Int)+1)=((i+1:Nat):Int):=zN (by omega)
  simp (maxSteps:=1000000) [go_sem,d,em,wP,p1,p3,ki]
  refine⟨by omega,by rw[l1];omega,by omega,Qt 140 he ?_⟩
  simp (maxSteps:=1000000) [go_sem,w3,d,em,wP,ki]
  refine⟨by rw[l1];omega,?_⟩
  refine next (i+1,w2,O++(cut l (plc L k:Nat) (plc L w1:Nat)++Z)) ⟨d,b3,b4,?_,?_,q8 j6 (q8 r2 r3)⟩ (h3:=by show W.length- (i+1)<W.length-i;omega) (h2:=by simp[go_sem,LeS,leV,leR,leA])
  ·simp only[List.append_assoc];exact j4
  ·simp only[List.length_append,l1];omega
 ·obtain rfl:i=W.length:=by omega
  rw[List.drop_length,vJ]at j4
  have k2:cut l (plc L k:Nat) (l.length:Nat)=l.drop (plc L k):=by simp[cut,List.take_of_length_le]
  have p3:=jW hcl j2
  rw[hs]at p3
  have l4:T.length=O.length+(l.length-plc L k):=by rw[←j4,List.length_append,List.length_drop]
  have r4:∀x∈T,zu x:=by rw[←j4];exact q8 j6 (ZA hln.r _)
  have hf:=hfin T (by omega) r4
  simp (maxSteps:=1000000) [go_sem,k2,p3,ki]
  refine⟨by omega,zk hf ?_ (ha':=by simp[go_sem,j4])⟩
  simp (maxSteps:=1000000) [go_sem]
  exact ret
end Go.Proofs.YthbmelihnabkaaaGreat
end
section
namespace Go.Proofs.YthbmelihnabkaaaGreat
open Go.AM
set_option maxHeartbeats 4000000
set_option maxRecDepth 10000
attribute [local irreducible] za
def vj(k:Int)(l:List Int):List Int:=if k=0 then Q5 zA l else if k=1 then Q5 zG l else kQ l
theorem zcR {F:Int→Int} {d:List Int} {i:Nat}(h:i<d.length):(d.take (i+1)).map F=(d.take i).map F++[F d[i]]:=by
 rw[List.take_add_one,List.getElem?_eq_getElem h,List.map_append];rfl
theorem zg6 [Gi](l:List Int)(hn:l.length≤1000)(hr:∀x∈l,zu x):CR Tryz.prog 37 [] [.p (zJ za),.p (.int .i64 2),.p (zh l)] [] (is (.p (zh (kQ l)))):=by
 refine walk Tryz.func37 10 [] [] [] ?_
 simp (maxSteps:=1000000) [go_sem,Tryz.f37]
 refine zk (zfz l hn hr) ?_
 simp (maxSteps:=1000000) [go_sem]
 exact ret
theorem zih [Gi](l:List Int)(hn:l.length≤1000)(hr:∀x∈l,zu x):CR Tryz.prog 37 [] [.p (zJ za),.p (.int .i64 0),.p (zh l)] [] (is (.p (zh (Q5 zA l)))):=by
 refine walk Tryz.func37 10 [] [] [] ?_
 have h1:=KT za Zr l (by omega) hr
 have hd:=QP l
 have hdr:=yh hr
 have hc:Q5 zA l=qN za ((ZO za l).map zA):=rfl
 rw[hc]
 generalize ZO za l=d at h1 hd hdr⊢
 have h2:=w9 za Zr (d.map zA) (by rw[List.length_map];omega) (vR va hdr)
 simp (maxSteps:=1000000) [go_sem,Tryz.f37]
 refine zk h1 ?_
 simp (maxSteps:=1000000) [go_sem]
 refine loop (fun i:Nat=>i≤d.length) (fun i=>[(8,.os [8] 1 (zr ((d.take i).map zA))),(9,.p (.int .i64 i))]) (fun _=>[]) (fun i=>d.length-i) 0 (Nat.zero_le _) (fun i hi=>?_) (h0:=by simp[go_sem,LeS,leV,leR,leA,leL,zj,leT,leP,zr])
 by_cases c:i<d.length
 ·have em:elemAt (zr d) i=.int .i32 d[i]:=by rw[zr,zt (fun r=>PV.int .i32 r) d i c]
  have hst:=zcR (F:=zA) c
  have hG:=ux (hdr d[i] (List.getElem_mem c))
  generalize d[i]=x at em hst hG
  have hv:zr ((d.take i).map zA)++[.int .i32 (zA x)]=zr ((d.take (i+1)).map zA):=by rw[hst];simp[zr]
  have hA:((d.take i).map zA).length=i:=by rw[List.length_map,List.length_take];omega
  have w1:IntKind.i64.wrap ((i:Int)+1)=((i+1:Nat):Int):=zN (by omega)
  generalize (d.take i).map zA=A at hv hA
  simp (maxSteps:=1000000) [go_sem,c,em]
  refine zk hG ?_
  simp (maxSteps:=1000000) [go_sem,hv,hA,w1]
  refine⟨by omega,?_⟩
  exact next (i+1) c (h3:=by show d.length- (i+1)<d.length-i;omega)
 ·obtain rfl:i=d.length:=by omega
  rw[List.take_length]
  simp (maxSteps:=1000000) [go_sem]
  refine zk h2 ?_
  simp (maxSteps:=1000000) [go_sem]
  exact ret
theorem zgG [Gi](l:List Int)(hn:l.length≤1000)(hr:∀x∈l,zu x):CR Tryz.prog 37 [] [.p (zJ za),.p (.int .i64 1),.p (zh l)] [] (is (.p (zh (Q5 zG l)))):=by
 refine walk Tryz.func37 10 [] [] [] ?_
 have h1:=KT za Zr l (by omega) hr
 have hd:=QP l
 have hdr:=yh hr
 have hc:Q5 zG l=qN za ((ZO za l).map zG):=rfl
 rw[hc]
 generalize ZO za l=d at h1 hd hdr⊢
 have h2:=w9 za Zr (d.map zG) (by rw[List.length_map];omega) (vR yQ hdr)
 simp (maxSteps:=1000000) [go_sem,Tryz.f37]
 refine zk h1 ?_
 simp (maxSteps:=1000000) [go_sem]
 refine loop (fun i:Nat=>i≤d.length) (fun i=>[(8,.os [8] 1 (zr ((d.take i).map zG))),(9,.p (.int .i64 i))]) (fun _=>[]) (fun i=>d.length-i) 0 (Nat.zero_le _) (fun i hi=>?_) (h0:=by simp[go_sem,LeS,leV,leR,leA,leL,zj,leT,leP,zr])
 by_cases c:i<d.length
 ·have em:elemAt (zr d) i=.int .i32 d[i]:=by rw[zr,zt (fun r=>PV.int .i32 r) d i c]
  have hst:=zcR (F:=zG) c
  have hG:=XB (hdr d[i] (List.getElem_mem c))
  generalize d[i]=x at em hst hG
  have hv:zr ((d.take i).map zG)++[.int .i32 (zG x)]=zr ((d.take (i+1)).map zG):=by rw[hst];simp[zr]
  have hA:((d.take i).map zG).length=i:=by rw[List.length_map,List.length_take];omega
  have w1:IntKind.i64.wrap ((i:Int)+1)=((i+1:Nat):Int):=zN (by omega)
  generalize (d.take i).map zG=A at hv hA
  simp (maxSteps:=1000000) [go_sem,c,em]
  refine zk hG ?_
  simp (maxSteps:=1000000) [go_sem,hv,hA,w1]
  refine⟨by omega,?_⟩
  exact next (i+1) c (h3:=by show d.length- (i+1)<d.length-i;omega)
 ·obtain rfl:i=d.length:=by omega
  rw[List.take_length]
  simp (maxSteps:=1000000) [go_sem]
  refine zk h2 ?_
  simp (maxSteps:=1000000) [go_sem]
  exact ret
theorem zhd [Gi] {k:Int}(hk:0≤k∧k≤2)(l:List Int)(hn:l.length≤1000)(hr:∀x∈l,zu x):CR Tryz.prog 37 [] [.p (zJ za),.p (.int .i64 k),.p (zh l)] [] (is (.p (zh (vj k l)))):=by
 rcases(show k=0∨k=1∨k=2 by omega)with rfl|rfl|rfl
 ·exact zih l hn hr
 ·exact zgG l hn hr
 ·exact zg6 l hn hr
theorem ziR [Gi] {e:PV}(hT:qB e) {k:Int}(hk:0≤k∧k≤2)(l:List Int)(hn:l.length≤1000)(hr:∀x∈l,zu x):CR Tryz.prog 83 [] [.p e,.p (.int .i64 k),.p (zh l)] [] (is (.tup [.p (zh (vj k l)),.p (.bool true)])):=by
 have g0:=JM hT l (by omega) hr
 have g1:=K8 hT l (by omega) hr
 have g2:=zgJ hT l hn hr
 obtain⟨z0,y0,rfl⟩:=qA hT
 refine walk Tryz.func83 10 [] [] [] ?_
 rcases(show k=0∨k=1∨k=2 by omega)with rfl|rfl|rfl
 ·have ek:vj 0 l=Q5 zA l:=rfl
  rw[ek]
  simp (maxSteps:=1000000) [go_sem,Tryz.f83]
  refine zk g0 ?_
  simp (maxSteps:=1000000) [go_sem]
  exact ret
 ·have ek:vj 1 l=Q5 zG l:=rfl
  rw[ek]
  simp (maxSteps:=1000000) [go_sem,Tryz.f83]
  refine zk g1 ?_
  simp (maxSteps:=1000000) [go_sem]
  exact ret
 ·have ek:vj 2 l=kQ l:=rfl
  rw[ek]
  simp (maxSteps:=1000000) [go_sem,Tryz.f83]
  refine zk g2 ?_
  simp (maxSteps:=1000000) [go_sem]
  exact ret
theorem zjf [Gi] {e:PV}(hT:qB e) {k:Int}(hk:k<0∨2<k)(l:List Int):CR Tryz.prog 83 [] [.p e,.p (.int .i64 k),.p (zh l)] [] (is (.tup [.p (.opq (.slice none 0 0)),.p (.bool false)])):=by
 obtain⟨z0,y0,rfl⟩:=qA hT
 refine walk Tryz.func83 10 [] [] [6] ?_
 have q0:¬k=0:=by omega
 have q1:¬k=1:=by omega
 have q2:¬k=2:=by omega
 simp (maxSteps:=1000000) [go_sem,Tryz.f83,q0,q1,q2]
 exact ret (hx:=by simp[go_sem,zd,leA,leT,leP])
end Go.Proofs.YthbmelihnabkaaaGreat
end
