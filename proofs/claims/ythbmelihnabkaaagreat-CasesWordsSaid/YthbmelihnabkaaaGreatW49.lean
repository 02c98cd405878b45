/- A part of the proof of this seat's statements, by an abstract machine: what each operation does to values, and what the law's functions compute. Conditions: as each law says. -/
import Derived.Test.YthbmelihnabkaaaGreatW45
import Derived.Test.YthbmelihnabkaaaGreatW48
import Derived.Test.YthbmelihnabkaaaGreatW38
section
namespace Go.Proofs.YthbmelihnabkaaaGreat
open Go.AM
set_option maxHeartbeats 4000000
set_option maxRecDepth 10000
attribute [local irreducible] za
theorem uC(L:List (List Int))(q:Bool):∀(n p:Nat),p+n=L.length→fwW L q n p≤L.length∧p≤fwW L q n p
 |0,p,h=>by unfold fwW;omega
 |n+1,p,h=>by
  have:=uC L q n (p+1) (by omega)
  unfold fwW
  split<;>omega
theorem KX(L:List (List Int)) {k:Nat}(h:k≤L.length):QQ L k≤L.length:=by
 have h1:=uC L false (L.length-k) k (by omega)
 have h2:=uC L true (L.length-fwW L false (L.length-k) k) (fwW L false (L.length-k) k) (by omega)
 exact h2.1
theorem KL(L:List (List Int)) {k:Nat}(h:k<L.length):k<QQ L k:=by
 unfold QQ
 rw[xQ L false h]
 cases hb:QS L k with
 |true=>
  rw[if_neg (by decide),xQ L true h,hb,if_pos rfl]
  have:=uC L true (L.length- (k+1)) (k+1) (by omega)
  omega
 |false=>
  rw[if_pos rfl]
  have h1:=uC L false (L.length- (k+1)) (k+1) (by omega)
  have h2:=uC L true (L.length-fwW L false (L.length- (k+1)) (k+1)) (fwW L false (L.length- (k+1)) (k+1)) (by omega)
  omega
theorem zcj(L:List (List Int)):QQ L L.length=L.length:=by rw[QQ,uu,uu]
def zpi:List (Tok×Tok):=[([0],[0]),([0,1],[0,1]),([0,2],[0,2])]
attribute [go_sem] zpi
end Go.Proofs.YthbmelihnabkaaaGreat
end
section
namespace Go.Proofs.YthbmelihnabkaaaGreat
open Go.AM
set_option maxHeartbeats 4000000
set_option maxRecDepth 10000
def l7:List Int:=[111,78,69,32,116,119,111]
def L7:List (List Int):=[[111],[78],[69],[32],[116],[119],[111]]
theorem t7a:qN za l7=l7:=by decide+kernel
theorem t7b:L7=qn za l7:=by decide+kernel
theorem t7c:QS L7 0=true∧QS L7 3=false∧QS L7 4=true∧QQ L7 0=3∧QQ L7 4=7:=by decide+kernel
def jJ:Bool→List Int→List Int
 |_,[]=>[]
 |b,r::l=>(if b then zA r else zG r)::jJ (b&&decide (zA (zG r)=zG r)) l
def kq:Bool→List Int→Bool
 |b,[]=>b
 |b,r::l=>kq (b&&decide (zA (zG r)=zG r)) l
def Vb(l:List Int):List Int:=qN za (jJ true (ZO za l))
theorem t7d:Vb [111,78,69]=[79,110,101]∧Vb [116,119,111]=[84,119,111]:=by decide+kernel
theorem t7e:qN za [79,110,101,32,84,119,111]=[79,110,101,32,84,119,111]:=by decide+kernel
attribute [local irreducible] za
theorem zlO [Gi] {r:Int}(hr:zu r)(b:Bool):CR Tryz.prog 114 [[0]] [.p (.int .i32 r),.lp [0] 0] [([0],[.p (.bool b)])] (keeps [([0],[.p (.bool (b&&decide (zA (zG r)=zG r)))])] (.int .i32 (if b then zA r else zG r))):=by
 refine zcG Tryz.func114 5 [] [] [] ?_
 have h1:=Yy hr
 have h2:=zdb hr
 have h3:=Yy (yQ hr)
 cases b with
 |true=>
  simp (maxSteps:=1000000) [go_sem,Tryz.f114]
  refine zk h2 ?_
  simp (maxSteps:=1000000) [go_sem]
  refine zk h3 ?_
  simp (maxSteps:=1000000) [go_sem]
  refine zk h2 ?_
  simp (maxSteps:=1000000) [go_sem]
  refine zk h1 ?_
  simp (maxSteps:=1000000) [go_sem]
  exact Xm
 |false=>
  simp (maxSteps:=1000000) [go_sem,Tryz.f114]
  refine zk h2 ?_
  simp (maxSteps:=1000000) [go_sem]
  exact Xm
theorem ka:∀(l:List Int) (b:Bool),(jJ b l).length=l.length
 | [],b=>by cases b<;>rfl
 |r::l,b=>by rw[jJ,List.length_cons,ka l,List.length_cons]
theorem zao:∀(l:List Int) (b:Bool) (x:Int),kq b (l++[x])=(kq b l&&decide (zA (zG x)=zG x))
 | [],b,x=>rfl
 |r::l,b,x=>by rw[List.cons_append,kq,kq,zao l]
theorem zbw:∀(d:List Int) (b:Bool) (i:Nat) (h:i<d.length),(jJ b d)[i]?=some (if kq b (d.take i)then zA d[i]else zG d[i])
 |r::l,b,0,_=>by simp[jJ,kq]
 |r::l,b,i+1,h=>by
  rw[jJ,List.getElem?_cons_succ,zbw l _ i (by simpa using h),List.take_succ_cons,kq];rfl
def yy(d:List Int)(i:Nat):List Int:=(jJ true d).take i++d.drop i
theorem Us(d:List Int)(i:Nat):(yy d i).length=d.length:=by
 have:=ka d true
 unfold yy;rw[List.length_append,List.length_take,List.length_drop];omega
theorem zj1 {d:List Int} {i:Nat}(h:i<d.length):(yy d i)[i]?.getD 0=d[i]:=by
 have hl:=ka d true
 have e:((jJ true d).take i).length=i:=by rw[List.length_take];omega
 unfold yy
 rw[List.getElem?_append_right (by omega),e,Nat.sub_self,List.getElem?_drop,Nat.add_zero,List.getElem?_eq_getElem h];rfl
theorem zgY {d:List Int} {i:Nat}(h:i<d.length):(yy d i).set i (if kq true (d.take i)then zA d[i]else zG d[i])=yy d (i+1):=by
 have hl:=ka d true
 have e:((jJ true d).take i).length=i:=by rw[List.length_take];omega
 have e2:(jJ true d).take (i+1)=(jJ true d).take i++[if kq true (d.take i)then zA d[i]else zG d[i]]:=by rw[List.take_add_one,zbw d true i h];rfl
 unfold yy
 rw[List.set_append_right _ _ (by omega),e,Nat.sub_self,List.drop_eq_getElem_cons h,List.set_cons_zero,e2,List.append_assoc];rfl
theorem zhZ(d:List Int):yy d d.length=jJ true d:=by
 have hl:=ka d true
 unfold yy;rw[←hl,List.take_length,hl,List.drop_length,List.append_nil]
theorem XE {d:List Int} {i:Nat}(h:i<d.length):kq true (d.take (i+1))=(kq true (d.take i)&&decide (zA (zG d[i])=zG d[i])):=by
 rw[List.take_add_one,List.getElem?_eq_getElem h]
 exact zao _ _ _
theorem uM:∀{l:List Int} (b:Bool),(∀x∈l,zu x)→∀x∈jJ b l,zu x
 | [],b,_,x,hx=>by cases b<;>cases hx
 |r::l,b,h,x,hx=>by
  rw[jJ,List.mem_cons]at hx
  rcases hx with rfl|hx
  ·cases b with
   |true=>exact va (h r List.mem_cons_self)
   |false=>exact yQ (h r List.mem_cons_self)
  ·exact uM _ (fun y hy=>h y (List.mem_cons_of_mem _ hy)) x hx
def zl7(v:PV):AV→List (Tok×List AV)→Prop:=fun x rs=>(∃b,rs=[([0],[.p (.bool b)])])∧x=.p v
theorem YK [Gi] {e:PV}(hT:qB e)(l:List Int)(hn:l.length≤20000)(hr:∀x∈l,zu x)(hl0:l≠ []):CR Tryz.prog 54 [[0]] [.p e,.p (zh l),.fn 114 [.lp [0] 0]] [([0],[.p (.bool true)])] (zl7 (zh (Vb l))):=by
 have hd:=QP l
 have hdr:=yh hr
 have h1:=Jl hT l (by omega) hr hl0
 have hdn:ZO za l≠ []:=by
  intro h
  have a1:Y6 l=0:=by unfold Y6;have:=k9 (kD za) (ZV za l);unfold ZO at h;rw[h]at this;simpa using this.symm
  have a2:=K5 l
  exact hl0 (List.length_eq_zero_iff.1 (by omega))
 have hc:Vb l=qN za (jJ true (ZO za l)):=rfl
 rw[hc]
 generalize ZO za l=d at h1 hd hdr hdn⊢
 have hwl:=ka d true
 have h2:=CR.zjy (jY hT (jJ true d) (by omega) (uM true hdr)) (by rw[hwl];exact List.length_pos_iff.2 hdn)
 rw[hwl]at h2
 obtain⟨z0,y0,rfl⟩:=qA hT
 refine walk Tryz.func54 10 [13,14,15] [] [] ?_
 simp (maxSteps:=1000000) [go_sem,Tryz.f54]
 refine call [] h1 ?_
 rintro _ _ ⟨rfl,rfl⟩
 simp (maxSteps:=1000000) [go_sem]
 have hp0:yy d 0=d:=by simp[yy]
 refine loop (fun i:Nat=>i≤d.length) (fun i=>[(15,.p (.int .i64 i)),(8,.zU),(9,.zU)]) (fun i=>[([12,22,9,7],zo (yy d i)),([0],[.p (.bool (kq true (d.take i)))])]) (fun i=>d.length-i) 0 (Nat.zero_le _) (fun i hi=>?_) (h0:=by simp[go_sem,LeS,leV,leR,leA,leL,zj,hp0,kq])
 by_cases c:i<d.length
 ·have g1:=y3 (M:=yy d i) (i:=i) (by rw[Us];exact c)
  rw[zj1 c]at g1
  have p1:=qU (M:=yy d i) (i:=i) (if kq true (d.take i)then zA d[i]else zG d[i]) (by rw[Us];exact c)
  rw[zgY c]at p1
  have hnx:=XE c
  have hm:=zlO (hdr d[i] (List.getElem_mem c)) (kq true (d.take i))
  rw[←hnx]at hm
  generalize kq true (d.take i)=b at p1 hm
  generalize (if b=true then zA d[i]else zG d[i])=y at p1 hm
  generalize d[i]=x at g1 hm
  have w1:IntKind.i64.wrap ((i:Int)+1)=((i+1:Nat):Int):=zN (by omega)
  have hl:=Us d i
  have g2:∀h:i< (zo (yy d i)).length,(zo (yy d i))[i]=.p (.int .i32 x):=fun h=>by rw[List.getElem?_eq_getElem h]at g1;injection g1
  simp (maxSteps:=1000000) [go_sem,c,g2,hl]
  refine⟨⟨rfl,by decide+kernel⟩,vS [([0],[0])] hm (by simp[go_sem,zE]) ⟨by simp[go_sem],by simp[go_sem]⟩ (by simp[go_sem]) ?_⟩
  rintro _ _ ⟨rfl,rfl⟩
  simp (maxSteps:=1000000) [go_sem,c,p1,w1,hl]
  refine⟨c,?_⟩
  exact next (i+1) c (h3:=by show d.length- (i+1)<d.length-i;omega)
 ·obtain rfl:i=d.length:=by omega
  rw[zhZ]
  simp (maxSteps:=1000000) [go_sem]
  refine call [([0],[12,22,9,7])] h2 ?_
  rintro _ _ ⟨rfl,rfl⟩
  simp (maxSteps:=1000000) [go_sem]
  exact zi [[0]] (.p (zh (qN za (jJ true d)))) (by simp) (by simp[go_sem,zd,leA,leT]) ⟨⟨_,rfl⟩,rfl⟩
end Go.Proofs.YthbmelihnabkaaaGreat
end
section
namespace Go.Proofs.YthbmelihnabkaaaGreat
open Go.AM
set_option maxHeartbeats 4000000
set_option maxRecDepth 10000
theorem t7f:Q5 zA [101,769]=[201]∧Q5 zG [201]=[233]:=by decide+kernel
attribute [local irreducible] za
theorem ln7:Ln l7 L7:=⟨t7b,by decide,by simp[l7,zu]⟩
theorem pl7:plc L7 0=0∧plc L7 3=3∧plc L7 4=4∧plc L7 7=7:=by decide
theorem zol:cnt (pl L7) 0=0∧cnt (pl L7) 4=4:=by decide
def at7:Nat→Int
 |0=>0
 |1=>3
 |2=>4
 |_=>7
def w7:Nat→List PV
 |0=>[]
 |1=>[.agg [.int .i64 0,.int .i64 3]]
 |2=>[.agg [.int .i64 0,.int .i64 3]]
 |_=>[.agg [.int .i64 0,.int .i64 3],.agg [.int .i64 4,.int .i64 7]]
theorem zhg [Gi] {e:PV}(hT:qB e):CR Tryz.prog 113 [] [.p e,.p (zh l7)] [] (is (.p (.sl 2 (w7 3)))):=by
 refine walk Tryz.func113 8 [] [] [] ?_
 have i0:=kH hT ln7 (k:=0) (by decide)
 have i3:=kH hT ln7 (k:=3) (by decide)
 have i4:=kH hT ln7 (k:=4) (by decide)
 have f0:=wc hT ln7 0
 have f4:=wc hT ln7 4
 have n3:=y7 hT ln7 (k:=3) (by decide)
 rw[pl7.1,t7c.1]at i0
 rw[pl7.2.1,t7c.2.1]at i3
 rw[pl7.2.2.1,t7c.2.2.1]at i4
 rw[zol.1,t7c.2.2.2.1,pl7.2.1]at f0
 rw[zol.2,t7c.2.2.2.2,pl7.2.2.2]at f4
 rw[pl7.2.1,pl7.2.2.1]at n3
 have hl:l7.length=7:=rfl
 generalize l7=s at i0 i3 i4 f0 f4 n3 hl⊢
 obtain⟨z0,y0,rfl⟩:=qA hT
 simp (maxSteps:=1000000) [go_sem,Tryz.f113]
 refine loop (fun i:Nat=>i≤3) (fun i=>[(6,.p (.int .i64 (at7 i))),(5,.os [5] 2 (w7 i)),(7,.zU)]) (fun _=>[]) (fun i=>3-i) 0 (by omega) (fun i hi=>?_) (h0:=by simp[go_sem,LeS,leV,leR,leA,at7,w7])
 rcases(show i=0∨i=1∨i=2∨i=3 by omega)with rfl|rfl|rfl|rfl
 ·simp (maxSteps:=1000000) [go_sem,at7,w7,hl]
  refine zk i0 ?_
  simp (maxSteps:=1000000) [go_sem]
  refine zk f0 ?_
  simp (maxSteps:=1000000) [go_sem]
  exact next 1 (by omega) (h3:=by decide) (h2:=by simp[go_sem,LeS,leV,leR,leA])
 ·simp (maxSteps:=1000000) [go_sem,at7,w7,hl]
  refine zk i3 ?_
  simp (maxSteps:=1000000) [go_sem]
  refine zk n3 ?_
  simp (maxSteps:=1000000) [go_sem]
  exact next 2 (by omega) (h3:=by decide) (h2:=by simp[go_sem,LeS,leV,leR,leA])
 ·simp (maxSteps:=1000000) [go_sem,at7,w7,hl]
  refine zk i4 ?_
  simp (maxSteps:=1000000) [go_sem]
  refine zk f4 ?_
  simp (maxSteps:=1000000) [go_sem]
  exact next 3 (by omega) (h3:=by decide) (h2:=by simp[go_sem,LeS,leV,leR,leA])
 ·simp (maxSteps:=1000000) [go_sem,at7,w7,hl]
  exact ret (hx:=by simp[go_sem,zd,leA,leT])
def o7:Nat→List Int
 |0=>[]
 |1=>[79,110,101]
 |_=>[79,110,101,32,84,119,111]
def p7:Nat→Int
 |0=>0
 |1=>3
 |_=>7
theorem zev [Gi] {e:PV}(hT:qB e):CR Tryz.prog 57 [] [.p e,.p (zh l7)] [] (is (.p (zh [79,110,101,32,84,119,111]))):=by
 refine walk Tryz.func57 10 [15,16,17] [] [] ?_
 have h1:=jY hT l7 (by decide) ln7.r
 rw[t7a]at h1
 have h2:=zhg hT
 have h3:=YK hT [111,78,69] (by decide) (by simp[zu]) (by simp)
 have h4:=YK hT [116,119,111] (by decide) (by simp[zu]) (by simp)
 have h5:=jY hT [79,110,101,32,84,119,111] (by decide) (by simp[zu])
 rw[t7d.1]at h3
 rw[t7d.2]at h4
 rw[t7e]at h5
 have s1:cut l7 0 0=[]:=rfl
 have s2:cut l7 0 3=[111,78,69]:=rfl
 have s3:cut l7 3 4=[32]:=rfl
 have s4:cut l7 4 7=[116,119,111]:=rfl
 have s5:cut l7 7 7=[]:=rfl
 have hl:l7.length=7:=rfl
 have v1:IntKind.i64.wrap 1=1:=wrap64 (by omega) (by omega)
 have v2:IntKind.i64.wrap 2=2:=wrap64 (by omega) (by omega)
 have e0:elemAt [PV.agg [.int .i64 0,.int .i64 3],PV.agg [.int .i64 4,.int .i64 7]] 0=.agg [.int .i64 0,.int .i64 3]:=rfl
 have e1:elemAt [PV.agg [.int .i64 0,.int .i64 3],PV.agg [.int .i64 4,.int .i64 7]] 1=.agg [.int .i64 4,.int .i64 7]:=rfl
 generalize l7=s at h1 h2 s1 s2 s3 s4 s5 hl⊢
 obtain⟨z0,y0,rfl⟩:=qA hT
 simp (maxSteps:=1000000) [go_sem,Tryz.f57]
 refine zk h1 ?_
 simp (maxSteps:=1000000) [go_sem]
 refine zk h2 ?_
 simp (maxSteps:=1000000) [go_sem,w7]
 refine loop (fun i:Nat=>i≤2) (fun i=>[(17,.p (.int .i64 i)),(5,.os [5] 1 (zr (o7 i))),(6,.p (.int .i64 (p7 i))),(8,.zU),(9,.zU)]) (fun _=>[]) (fun i=>2-i) 0 (by omega) (fun i hi=>?_) (h0:=by simp[go_sem,LeS,leV,leR,leA,o7,p7,zr])
 rcases(show i=0∨i=1∨i=2 by omega)with rfl|rfl|rfl
 ·simp (maxSteps:=1000000) [go_sem,o7,p7,hl,s1,s2,e0]
  refine call [([0],[9])] h3 ?_ (ha':=by simp[go_sem,zr])
  rintro _ _ ⟨⟨b,rfl⟩,rfl⟩
  simp (maxSteps:=1000000) [go_sem]
  exact next 1 (by omega) (h3:=by decide) (h2:=by simp[go_sem,LeS,leV,leR,leA,zr,v1])
 ·simp (maxSteps:=1000000) [go_sem,o7,p7,hl,s3,s4,e1]
  refine call [([0],[9])] h4 ?_ (ha':=by simp[go_sem,zr])
  rintro _ _ ⟨⟨b,rfl⟩,rfl⟩
  simp (maxSteps:=1000000) [go_sem]
  exact next 2 (by omega) (h3:=by decide) (h2:=by simp[go_sem,LeS,leV,leR,leA,zr,v2])
 ·simp (maxSteps:=1000000) [go_sem,o7,p7,hl,s5]
  refine zk h5 ?_
  simp (maxSteps:=1000000) [go_sem]
  exact ret
theorem XD [Gi]:CR Tryz.prog 16 [] [] [] (is (.p (.bool true))):=by
 refine walk Tryz.func16 2 [] [] [] ?_
 simp (maxSteps:=1000000) [go_sem,Tryz.f16]
 refine zk zfW ?_
 simp (maxSteps:=1000000) [go_sem]
 refine call [] Ys ?_
 rintro _ _ ⟨rfl,e,rfl,hT⟩
 have u1:=JM hT [101,769] (by decide) (by simp[zu])
 have u2:=K8 hT [201] (by decide) (by simp[zu])
 have u3:=zev hT
 rw[t7f.1]at u1
 rw[t7f.2]at u2
 obtain⟨z0,y0,rfl⟩:=qA hT
 have q1:=xg [201] (by decide)
 have q2:=xg [233] (by decide)
 have q3:=xg [79,110,101,32,84,119,111] (by decide)
 simp (maxSteps:=1000000) [go_sem]
 refine⟨by decide,zk u1 ?_ (ha':=by simp[go_sem,zr])⟩
 simp (maxSteps:=1000000) [go_sem]
 refine zk q1 ?_ (ha':=by simp[go_sem,zr])
 simp (maxSteps:=1000000) [go_sem]
 refine zk u2 ?_ (ha':=by simp[go_sem,zr])
 simp (maxSteps:=1000000) [go_sem]
 refine zk q2 ?_ (ha':=by simp[go_sem,zr])
 simp (maxSteps:=1000000) [go_sem]
 refine⟨by decide,zk u3 ?_ (ha':=by simp[go_sem,zr,l7])⟩
 simp (maxSteps:=1000000) [go_sem]
 refine⟨by decide,zk q3 ?_ (ha':=by simp[go_sem,zr])⟩
 simp (maxSteps:=1000000) [go_sem]
 exact ret
theorem zcg(F:Int→Int)(l:List Int):(Q5 F l).length≤9*l.length:=by
 have h1:=Qm ((ZO za l).map F)
 have h2:=QP l
 rw[List.length_map]at h1
 unfold Q5;omega
theorem zap {F:Int→Int}(hF:∀{r:Int},zu r→zu (F r)) {l:List Int}(hn:l.length≤20000)(hl:∀x∈l,zu x):∀x∈Q5 F l,zu x:=by
 have h2:=QP l
 exact kd.rune _ (by rw[List.length_map];omega) (vR hF (yh hl))
end Go.Proofs.YthbmelihnabkaaaGreat
end
section
namespace Go.Proofs.YthbmelihnabkaaaGreat
open Go.AM
set_option maxHeartbeats 4000000
set_option maxRecDepth 10000
attribute [local irreducible] za
theorem zmh [Gi] {l:List Int} {L:List (List Int)}(h:Ln l L) {k:Nat}(hk:k<L.length):CR Tryz.prog 131 [] [.p (zJ za),.p (zh l),.p (.int .i64 (plc L k:Nat))] [] (is (.p (.bool (QS L k)))):=by
 refine walk Tryz.func131 7 [] [] [] ?_
 obtain⟨x,x1,x2,hx⟩:=zgF h hk
 have hlt:plc L k<l.length:=(List.getElem?_eq_some_iff.1 x1).1
 have em:elemAt (zr l) (plc L k)=.int .i32 x:=by rw[Qv hlt,(List.getElem?_eq_some_iff.1 x1).2]
 have e1:QS L k=decide (aL za 8 x=1):=by rw[QS,x2]
 have g:(plc L k:Int)<l.length:=by omega
 have g0:(0:Int)≤plc L k:=by omega
 have hb:CR Tryz.prog 75 [] [.p (zJ za),.p (zh l),.p (.int .i64 (plc L k:Nat))] [] (is (.p (.bool true))):=by
  by_cases c:plc L k=0
  ·rw[c];exact JL l
  ·obtain⟨m,hm⟩:∃m,plc L k=m+1:=⟨plc L k-1,by omega⟩
   have hb:=V8 Zr l (plc L k) m hm hlt h.n h.r
   have hb2:=KM l L h.eq h.cl m (by omega)
   have hb3:isB L ((m+1:Nat):Int)=true:=by rw[←hm];exact za9 h.cl (by omega)
   rw[hb3]at hb2
   simp only[hm]at hb⊢
   rw[hb2]at hb
   exact hb
 rw[e1]
 simp (maxSteps:=1000000) [go_sem,Tryz.f131,g,g0,em]
 refine zk hb ?_
 simp (maxSteps:=1000000) [go_sem,em,g]
 refine zk (xF za 8 x zmq hx) ?_
 simp (maxSteps:=1000000) [go_sem]
 exact ret
structure Zj(L:List (List Int))(k:Nat)(o:List (Nat×Nat)):Prop where
 seg:∀w∈o,w.1<w.2∧w.2≤k∧(∀i,w.1≤i→i<w.2→QS L i=true)∧(w.1=0∨QS L (w.1-1)=false)∧(w.2=k∨QS L w.2=false)
 all:∀i,i<k→QS L i=true→∃w∈o,w.1≤i∧i<w.2
 ord:o.Pairwise fun v w=>v.2<w.1
theorem Zj.nil(L:List (List Int)):Zj L 0 []:=⟨by simp,fun i hi=>by omega,by simp⟩
theorem Zj.skip {L:List (List Int)} {k:Nat} {o:List (Nat×Nat)}(h:Zj L k o)(hk:QS L k=false):Zj L (k+1) o:=by
 refine⟨fun w hw=>?_,fun i hi hl=>?_,h.ord⟩
 ·obtain⟨a,b,c,d,e⟩:=h.seg w hw
  refine⟨a,by omega,c,d,.inr ?_⟩
  rcases e with e|e
  ·rw[e];exact hk
  ·exact e
 ·by_cases c:i=k
  ·subst c;rw[hk]at hl;exact absurd hl (by decide)
  ·exact h.all i (by omega) hl
theorem Zj.more {L:List (List Int)} {k b:Nat} {o:List (Nat×Nat)}(h:Zj L k (o++[(b,k)]))(hk:QS L k=true):Zj L (k+1) (o++[(b,k+1)]):=by
 have hb:=h.seg (b,k) (by simp)
 simp only at hb
 have ho:=List.pairwise_append.1 h.ord
 refine⟨fun w hw=>?_,fun i hi hl=>?_,?_⟩
 ·rcases List.mem_append.1 hw with hw|hw
  ·obtain⟨a1,a2,a3,a4,a5⟩:=h.seg w (List.mem_append_left _ hw)
   have:=ho.2.2 w hw (b,k) (by simp)
   simp only at this
   exact⟨a1,by omega,a3,a4,.inr (a5.resolve_left (by omega))⟩
  ·obtain rfl:=List.mem_singleton.1 hw
   refine⟨by show b<k+1;omega,Nat.le_refl _,fun i h1 h2=>?_,hb.2.2.2.1,.inl rfl⟩
   simp only at h1 h2
   by_cases c:i=k
   ·subst c;exact hk
   ·exact hb.2.2.1 i h1 (by omega)
 ·by_cases c:i=k
  ·subst c;exact⟨(b,i+1),by simp,by show b≤i;omega,by show i<i+1;omega⟩
  ·obtain⟨w,hw,h1,h2⟩:=h.all i (by omega) hl
   rcases List.mem_append.1 hw with hw|hw
   ·exact⟨w,List.mem_append_left _ hw,h1,h2⟩
   ·obtain rfl:=List.mem_singleton.1 hw
    simp only at h1 h2
    exact⟨(b,k+1),by simp,h1,by show i<k+1;omega⟩
 ·rw[List.pairwise_append]
  refine⟨ho.1,by simp,fun v hv w hw=>?_⟩
  obtain rfl:=List.mem_singleton.1 hw
  exact ho.2.2 v hv (b,k) (by simp)
theorem Zj.push {L:List (List Int)} {k:Nat} {o:List (Nat×Nat)}(h:Zj L k o)(hk:QS L k=true)(hn:∀w∈o,w.2≠k):Zj L (k+1) (o++[(k,k+1)]):=by
 refine⟨fun w hw=>?_,fun i hi hl=>?_,?_⟩
 ·rcases List.mem_append.1 hw with hw|hw
  ·obtain⟨a1,a2,a3,a4,a5⟩:=h.seg w hw
   exact⟨a1,by omega,a3,a4,.inr (a5.resolve_left (hn w hw))⟩
  ·obtain rfl:=List.mem_singleton.1 hw
   refine⟨Nat.lt_succ_self k,Nat.le_refl _,fun i h1 h2=>?_,?_,.inl rfl⟩
   ·simp only at h1 h2
    obtain rfl:i=k:=by omega
    exact hk
   ·by_cases c:k=0
    ·exact .inl c
    ·right
     show QS L (k-1)=false
     cases hb:QS L (k-1)with
     |false=>rfl
     |true=>
      obtain⟨w,hw,h1,h2⟩:=h.all (k-1) (by omega) hb
      have:=(h.seg w hw).2.1
      exact absurd (show w.2=k by omega) (hn w hw)
 ·by_cases c:i=k
  ·subst c;exact⟨(i,i+1),by simp,Nat.le_refl _,Nat.lt_succ_self _⟩
  ·obtain⟨w,hw,h1,h2⟩:=h.all i (by omega) hl
   exact⟨w,List.mem_append_left _ hw,h1,h2⟩
 ·rw[List.pairwise_append]
  refine⟨h.ord,by simp,fun v hv w hw=>?_⟩
  obtain rfl:=List.mem_singleton.1 hw
  have:=(h.seg v hv).2.1
  have:=hn v hv
  show v.2<k
  omega
theorem Zj.last {L:List (List Int)} {k:Nat} {o:List (Nat×Nat)} {w:Nat×Nat}(h:Zj L k (o++[w]))(hw:w.2≠k):∀v∈o++[w],v.2≠k:=fun v hv=>by
 rcases List.mem_append.1 hv with hv|hv
 ·have:=(List.pairwise_append.1 h.ord).2.2 v hv w (by simp)
  obtain⟨a1,a2,_⟩:=h.seg w (by simp)
  omega
 ·obtain rfl:=List.mem_singleton.1 hv;exact hw
theorem zbY(L:List (List Int))(q:Bool):∀(n p j:Nat),p≤j→j≤p+n→(∀i,p≤i→i<j→QS L i=q)→(j=p+n∨QS L j≠q)→fwW L q n p=j
 |0,p,j,h1,h2,_,_=>by unfold fwW;omega
 |n+1,p,j,h1,h2,h3,h4=>by
  rw[fwW]
  by_cases c:p=j
  ·subst c;rw[if_neg (h4.resolve_left (by omega))]
  ·rw[if_pos (h3 p (Nat.le_refl _) (by omega))]
   exact zbY L q n (p+1) j (by omega) (by omega) (fun i a b=>h3 i (by omega) b) (h4.imp (fun e=>by omega) _root_.id)
theorem Zj.fwd {L:List (List Int)} {o1 o2:List (Nat×Nat)} {w:Nat×Nat}(h:Zj L L.length (o1++w::o2)) {k:Nat}(hk:k≤L.length)(h1:∀v∈o1,v.2≤k)(h2:k<w.2):QQ L k=w.2:=by
 obtain⟨a1,a2,a3,a4,a5⟩:=h.seg w (by simp)
 have ho:=List.pairwise_append.1 h.ord
 have hno:∀i,k≤i→i<w.1→QS L i=false:=fun i b1 b2=>by
  cases hb:QS L i with
  |false=>rfl
  |true=>
   obtain⟨v,hv,c1,c2⟩:=h.all i (by omega) hb
   rcases List.mem_append.1 hv with hv|hv
   ·have:=h1 v hv;omega
   ·rcases List.mem_cons.1 hv with rfl|hv
    ·omega
    ·have:=(List.pairwise_cons.1 ho.2.1).1 v hv;omega
 have e1:fwW L false (L.length-k) k=max k w.1:=zbY L false _ _ _ (by omega) (by omega) (fun i b1 b2=>hno i b1 (by omega)) (.inr (by rw[a3 (max k w.1) (by omega) (by omega)];decide))
 unfold QQ
 rw[e1]
 refine zbY L true _ _ _ (by omega) (by omega) (fun i b1 b2=>a3 i (by omega) b2) ?_
 rcases a5 with a5|a5
 ·left;omega
 ·right;rw[a5];decide
theorem Zj.zmA {L:List (List Int)} {o:List (Nat×Nat)}(h:Zj L L.length o) {k:Nat}(hk:k≤L.length)(h1:∀v∈o,v.2≤k):QQ L k=L.length:=by
 have e1:fwW L false (L.length-k) k=L.length:=zbY L false _ _ _ hk (by omega) (fun i b1 b2=>by
  cases hb:QS L i with
  |false=>rfl
  |true=>
   obtain⟨v,hv,c1,c2⟩:=h.all i b2 hb
   have:=h1 v hv;omega) (.inl (by omega))
 unfold QQ
 rw[e1,uu]
end Go.Proofs.YthbmelihnabkaaaGreat
end
section
namespace Go.Proofs.YthbmelihnabkaaaGreat
open Go.AM
set_option maxHeartbeats 4000000
set_option maxRecDepth 10000
attribute [local irreducible] za
end Go.Proofs.YthbmelihnabkaaaGreat
end
section
namespace Go.Proofs.YthbmelihnabkaaaGreat
open Go.AM
set_option maxHeartbeats 4000000
set_option maxRecDepth 10000
attribute [local irreducible] za
def wP(L:List (List Int))(w:Nat×Nat):PV:=.agg [.int .i64 (plc L w.1:Nat),.int .i64 (plc L w.2:Nat)]
def wC(L:List (List Int))(o:List (Nat×Nat)):List AV:=o.flatMap fun w=>[.p (.int .i64 (plc L w.1:Nat)),.p (.int .i64 (plc L w.2:Nat))]
theorem zbv(L:List (List Int))(o:List (Nat×Nat)):(wC L o).length=2*o.length:=by
 induction o with
 |nil=>rfl
 |cons w o ih=>simp only[wC,List.flatMap_cons,List.length_append,List.length_cons,List.length_nil]at ih⊢;omega
theorem zfN(L:List (List Int))(o o':List (Nat×Nat)):wC L (o++o')=wC L o++wC L o':=by simp[wC]
@[go_sem] theorem zpe (rt tt : Tok → Bool) (L : List (List Int)) (o : List (Nat × Nat)) : (wC L o).map (AV.upd (fil rt tt)) = wC L o := by
 simp[wC,AV.upd,fil,QK,List.map_flatMap]
attribute [go_sem] zbv
theorem zm0(L:List (List Int))(o:List (Nat×Nat))(w:Nat×Nat):(wC L (o++[w]))[o.length*2+1]?=some (.p (.int .i64 (plc L w.2:Nat))):=by
 rw[zfN,List.getElem?_append_right (by rw[zbv];omega),zbv,show o.length*2+1-2*o.length=1 by omega];rfl
theorem znc(L:List (List Int))(o:List (Nat×Nat))(b k k':Nat):(wC L (o++[(b,k)])).take (o.length*2+1)++.p (.int .i64 (plc L k':Nat))::(wC L (o++[(b,k)])).drop (o.length*2+1+1)=wC L (o++[(b,k')]):=by
 have h:=zbv L o
 rw[zfN,zfN,List.take_append,List.drop_append,h,List.take_of_length_le (by omega),List.drop_eq_nil_of_le (by omega)]
 have e1:o.length*2+1-2*o.length=1:=by omega
 have e2:o.length*2+1+1-2*o.length=2:=by omega
 rw[e1,e2]
 simp[wC]
theorem zlK(L:List (List Int))(o:List (Nat×Nat))(b q k k':Nat):wC L (o++[(b,q),(k,k')])=wC L (o++[(b,q)])++[AV.p (.int .i64 (plc L k:Nat)),.p (.int .i64 (plc L k':Nat))]:=by simp[wC]
def woV(o:List (Nat×Nat)):AV:=if o=[]then .p (.opq (.slice none 0 0))else .la [51] 2 0 o.length
def woR(L:List (List Int))(o:List (Nat×Nat)):List (Tok×List AV):=if o=[]then []else [([51],wC L o)]
def znn(L:List (List Int)):AV→List (Tok×List AV)→Prop:=fun x rs=>∃o,Zj L L.length o∧x=(if o=[]then .p (.sl 2 [])else .la [51] 2 0 o.length)∧rs=woR L o
theorem zdw [Gi] {l:List Int} {L:List (List Int)}(h:Ln l L):CR Tryz.prog 76 [] [.p (zJ za),.p (zh l)] [] (znn L):=by
 refine walk Tryz.func76 8 [] [] [5,51] ?_
 have hs:=h.sum
 have hcl:=h.cl
 have hln:=h.n
 have hlen:=hcl.len
 simp (maxSteps:=1000000) [go_sem,Tryz.f76]
 refine loop (fun r:Nat×List (Nat×Nat)=>r.1≤L.length∧r.2.length≤r.1∧Zj L r.1 r.2) (fun r=>[(5,woV r.2),(6,.p (.int .i64 (plc L r.1:Nat))),(7,.zU)]) (fun r=>woR L r.2) (fun r=>L.length-r.1) (0,[]) ⟨by simp,by simp,Zj.nil L⟩ (fun r hr=>?_) (by simp[go_sem,LeS,leV,leR,leA,woV,woR,Zy])
 obtain⟨k,o⟩:=r
 obtain⟨h1,h2,h3⟩:=hr
 simp only at h1 h2 h3
 by_cases c1:k<L.length
 ·have g1:=Zx hcl c1 (Nat.le_refl _)
  rw[qP,hs]at g1
  have g2:(plc L k:Int)<l.length:=by omega
  have hI:=zmh h c1
  have hX:=zjr h c1
  rcases List.eq_nil_or_concat o with rfl|⟨o,w,rfl⟩
  ·simp (maxSteps:=1000000) [go_sem,g2,woV,woR]
   refine zk hI ?_
   cases hb:QS L k with
   |false=>
    simp (maxSteps:=1000000) [go_sem]
    refine zk hX ?_
    simp (maxSteps:=1000000) [go_sem]
    exact next (k+1,[]) ⟨c1,by simp,h3.skip hb⟩ (by show L.length- (k+1)<L.length-k;omega) (by simp[go_sem,LeS,leV,leR,leA])
   |true=>
    simp (maxSteps:=1000000) [go_sem]
    refine zk hX ?_
    simp (maxSteps:=1000000) [go_sem]
    refine zk hX ?_
    simp (maxSteps:=1000000) [go_sem]
    exact next (k+1,[]++[(k,k+1)]) ⟨c1,by simp,h3.push hb (by simp)⟩ (by show L.length- (k+1)<L.length-k;omega) (by simp[go_sem,LeS,leV,leR,leA,leL,wC])
  ·rw[List.concat_eq_append]at h2 h3⊢
   rw[List.length_append,List.length_singleton]at h2
   simp (maxSteps:=1000000) [go_sem,g2,woV,woR]
   refine zk hI ?_
   cases hb:QS L k with
   |false=>
    simp (maxSteps:=1000000) [go_sem]
    refine zk hX ?_
    simp (maxSteps:=1000000) [go_sem]
    exact next (k+1,o++[w]) ⟨c1,by simp;omega,h3.skip hb⟩ (by show L.length- (k+1)<L.length-k;omega) (by simp[go_sem,LeS,leV,leR,leA,zj])
   |true=>
    obtain⟨b,q⟩:=w
    have w1:IntKind.i64.wrap ((o.length:Int)+1-1)=(o.length:Int):=by rw[wrap64 (by omega) (by omega)];omega
    have w1':IntKind.i64.wrap (o.length:Int)=(o.length:Int):=XV (by omega)
    have hg:=zm0 L o (b,q)
    simp only at hg
    simp (maxSteps:=1000000) [go_sem]
    refine zk hX ?_
    by_cases c2:q=k
    ·subst c2
     have hp:=znc L o b q (q+1)
     simp (maxSteps:=1000000) [go_sem,w1',hg]
     refine⟨by omega,by omega,?_⟩
     rw[hp]
     refine zk hX ?_
     simp (maxSteps:=1000000) [go_sem]
     exact next (q+1,o++[(b,q+1)]) ⟨c1,by simp;omega,h3.more hb⟩ (by show L.length- (q+1)<L.length-q;omega) (by simp[go_sem,LeS,leV,leR,leA,zj])
    ·have c3:¬(plc L q:Int)=plc L k:=fun e=>c2 (zlP hcl (by have:=(h3.seg (b,q) (by simp)).2.1;simp only at this;omega) h1 (by omega))
     simp (maxSteps:=1000000) [go_sem,w1',hg,c3]
     refine⟨by omega,⟨by omega,by omega⟩,?_⟩
     refine zk hX ?_
     simp (maxSteps:=1000000) [go_sem]
     exact next (k+1,o++[(b,q)]++[(k,k+1)]) ⟨c1,by simp;omega,h3.push hb (h3.last c2)⟩ (by show L.length- (k+1)<L.length-k;omega) (by simp[go_sem,LeS,leV,leR,leA,zj,zlK])
 ·obtain rfl:k=L.length:=by omega
  have g1:¬plc L L.length<l.length:=by rw[qP,hs];omega
  have g2:¬(plc L L.length:Int)<l.length:=by omega
  rcases List.eq_nil_or_concat o with rfl|⟨o,w,rfl⟩
  ·simp (maxSteps:=1000000) [go_sem,g2,woV,woR]
   exact zi [] (.p (.sl 2 [])) (by simp) (by simp[go_sem,zd,leA,leT]) ⟨[],h3,rfl,rfl⟩
  ·rw[List.concat_eq_append]at h2 h3⊢
   simp (maxSteps:=1000000) [go_sem,g2,woV,woR]
   exact zi [[51]] (.la [51] 2 0 (o.length+1)) (by simp) (by simp[go_sem,zd,leA,leT]) ⟨o++[w],h3,by simp,by simp[go_sem,woR]⟩
end Go.Proofs.YthbmelihnabkaaaGreat
end
section
namespace Go.Proofs.YthbmelihnabkaaaGreat
open Go.AM
set_option maxHeartbeats 4000000
set_option maxRecDepth 10000
attribute [local irreducible] za
def woP(L:List (List Int))(o:List (Nat×Nat)):List PV:=o.map (wP L)
theorem ki(L:List (List Int))(o:List (Nat×Nat)):(woP L o).length=o.length:=by simp[woP]
theorem zel {L:List (List Int)} {o:List (Nat×Nat)} {i:Nat}(h:i<o.length):elemAt (woP L o) i=wP L o[i]:=zt (wP L) o i h
theorem XR [Gi] {l:List Int} {L:List (List Int)}(h:Ln l L):CR Tryz.prog 76 [] [.p (zJ za),.p (zh l)] [] (fun x rs=>∃o,Zj L L.length o∧rs=[]∧x=.p (.sl 2 (woP L o))):=by
 refine CR.freeze (zdw h) (fun _=>false) rfl ?_
 rintro x rs ⟨o,ho,rfl,rfl⟩
 by_cases c:o=[]
 ·subst c
  exact⟨.p (.sl 2 []),fun g w v hG hv=>by rw[if_pos rfl]at hv;rw[wY]at hv⊢;exact zl.ext (xh hG _) _ _ hv,[],ho,rfl,rfl⟩
 ·rw[if_neg c]
  refine⟨.p (.sl 2 (woP L o)),fun g w v hG hv=>?_,o,ho,by simp[woR,c,zab],rfl⟩
  rw[wY]
  refine xU (t:=[51]) (z:=2) (n:=o.length) (es:=woP L o) (rt:=fun _=>false) hG [] (List.length_pos_iff.2 c) ?_ rfl (ki L o) (fun e he=>?_) hv
  ·have e1:((woP L o).flatMap PV.cells).map AV.p=wC L o:=by
    simp[woP,wC,wP,List.flatMap_map,List.map_flatMap,PV.cells]
   rw[e1];simp[woR,c,zI]
  ·obtain⟨s,_,rfl⟩:=List.mem_map.1 he
   exact⟨rfl,rfl⟩
def zmD(o:List (Nat×Nat))(i k:Nat):Prop:=∀v∈o.take i,v.2≤k
theorem zlM [Gi] {l:List Int} {L:List (List Int)}(h:Ln l L) {k:Nat}(hk:k≤L.length):CR Tryz.prog 28 [] [.p (zJ za),.p (zh l),.p (.int .i64 (plc L k:Nat))] [] (is (.p (.int .i64 (plc L (QQ L k):Nat)))):=by
 refine walk Tryz.func28 9 [] [] [] ?_
 have hs:=h.sum
 have hcl:=h.cl
 have hln:=h.n
 have hlen:=hcl.len
 simp (maxSteps:=1000000) [go_sem,Tryz.f28]
 refine call [] (XR h) ?_
 rintro _ _ ⟨o,ho,rfl,rfl⟩
 obtain⟨N,hN⟩:∃N,N=QQ L k:=⟨_,rfl⟩
 rw[←hN]
 have hol:o.length≤2^40:=by
  have:∀(o:List (Nat×Nat)) (b:Nat),(∀w∈o,b≤w.1∧w.1<w.2∧w.2≤L.length)→o.Pairwise (fun v w=>v.2<w.1)→o.length≤L.length-b:=by
   intro o
   induction o with
   |nil=>intro b _ _;simp
   |cons w o ih=>
    intro b h1 h2
    have a:=h1 w (by simp)
    have:=ih (b+1) (fun v hv=>by
     have c:=(List.pairwise_cons.1 h2).1 v hv
     have d:=h1 v (List.mem_cons_of_mem _ hv)
     omega) (List.pairwise_cons.1 h2).2
    simp only[List.length_cons];omega
  have:=this o 0 (fun w hw=>⟨Nat.zero_le _,(ho.seg w hw).1,(ho.seg w hw).2.1⟩) ho.ord
  omega
 simp (maxSteps:=1000000) [go_sem]
 refine loop (fun i:Nat=>i≤o.length∧zmD o i k) (fun i=>[(8,.p (.int .i64 (i:Nat)))]) (fun _=>[]) (fun i=>o.length-i) 0 ⟨Nat.zero_le _,by simp[zmD]⟩ (fun i hi=>?_)
 obtain⟨h1,h2⟩:=hi
 by_cases c1:i<o.length
 ·have g1:(i:Int)<o.length:=by omega
  have em:=zel (L:=L) c1
  have hsp:o=o.take i++o[i]::o.drop (i+1):=by rw[←List.drop_eq_getElem_cons c1,List.take_append_drop]
  obtain⟨w,hw⟩:∃w,o[i]=w:=⟨_,rfl⟩
  rw[hw]at em hsp
  have hmem:w∈o:=by rw[←hw];exact List.getElem_mem _
  have hw2:=(ho.seg w hmem).2.1
  have w1:IntKind.i64.wrap ((i:Int)+1)=((i+1:Nat):Int):=zN (by omega)
  by_cases c2:k<w.2
  ·have c3:=Zx hcl c2 hw2
   have c3':(plc L k:Int)<plc L w.2:=by omega
   have e1:N=w.2:=by
    rw[hN]
    rw[hsp]at ho
    exact ho.fwd hk h2 c2
   rw[e1]
   simp (maxSteps:=1000000) [go_sem,ki,g1,em,wP,c3']
   exact ret
  ·have c3:¬plc L k<plc L w.2:=by have:=QU hcl (i:=w.2) (j:=k) (by omega) hk;omega
   have c3':¬(plc L k:Int)<plc L w.2:=by omega
   simp (maxSteps:=1000000) [go_sem,ki,g1,em,wP,c3',w1]
   refine next (i+1) ⟨c1,fun v hv=>?_⟩ (by omega)
   rw[List.take_add_one,List.getElem?_eq_getElem c1,hw]at hv
   rcases List.mem_append.1 hv with hv|hv
   ·exact h2 v hv
   ·obtain rfl:v=w:=by simpa using hv
    omega
 ·have g1:¬(i:Int)<o.length:=by omega
  have e1:N=L.length:=by
   rw[hN]
   unfold zmD at h2
   rw[List.take_of_length_le (by omega)]at h2
   exact ho.zmA hk h2
  rw[e1,qP,hs]
  simp (maxSteps:=1000000) [go_sem,ki,g1]
  exact ret
end Go.Proofs.YthbmelihnabkaaaGreat
end
