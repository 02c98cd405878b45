/- A part of the proof of this seat's statements, by an abstract machine: what each operation does to values, and what the law's functions compute. Conditions: as each law says. -/
import Derived.Test.YtjefahhmkcfiiaaGreatN38
import Derived.Test.YtjefahhmkcfiiaaGreatN21
import Derived.Test.YtjefahhmkcfiiaaGreatN32
section
namespace Go.Proofs.YtjefahhmkcfiiaaGreat
open Go.AM
set_option maxHeartbeats 4000000
set_option maxRecDepth 10000
def QJ(rows:List Row):Int→List Int→List Int→Nat
 |_,_,[]=>0
 |p,pre,x::xs=>if yV rows p pre x then 0 else QJ rows x (p::pre) xs+1
theorem uo(rows:List Row):∀(l pre:List Int) (p:Int),QJ rows p pre l≤l.length
 | [],_,_=>by simp[QJ]
 |x::l,pre,p=>by
  unfold QJ
  split
  ·omega
  ·have:=uo rows l (p::pre) x
   simp only[List.length_cons];omega
theorem zdI [Gi] {rows:List Row}(hw:qP rows)(l:List Int)(a:Nat)(h:a<l.length)(hl:l.length<2^31)(hr:∀x∈l,zL x):
  CR Tryz.prog 129 [] [.p (zC rows),.p (zh l),.p (.int .i64 a)] [] (is (.p (.int .i64 ((a+1+QJ rows l[a] (l.take a).reverse (l.drop (a+1)):Nat):Int)))):=by
 refine zm mixed 8 [] Tryz.func129 rfl (by kernel_rfl) rfl (by simp) (by simp) ?_
 obtain⟨N,hN⟩:∃N,N=a+1+QJ rows l[a] (l.take a).reverse (l.drop (a+1)):=⟨_,rfl⟩
 rw[←hN]
 have w1:IntKind.i64.wrap ((a:Int)+1)=((a+1:Nat):Int):=zP (by omega)
 simp (maxSteps:=1000000) [go_sem,Tryz.f129,zh,w1]
 refine zi (fun k:Nat=>a+1+k≤l.length∧∀h:a+k<l.length,N=a+1+k+QJ rows l[a+k] (l.take (a+k)).reverse (l.drop (a+1+k))) (fun k=>[(7,.p (.int .i64 ((a+1+k:Nat):Int)))]) (fun _=>[]) (fun k=>l.length-k) 0 ⟨by omega,fun _=>hN⟩ (by simp[go_sem,LeS,leV,leR,leA]) (fun k hs=>?_)
 obtain⟨h1,h2⟩:=hs
 have h3:=h2 (by omega)
 obtain⟨i,hi⟩:∃i,i=a+1+k:=⟨_,rfl⟩
 have hi':a+k<l.length:=by omega
 rw[←hi]at h1 h3⊢
 by_cases hil:i<l.length
 ·have bg:=UA hw l i (a+k) (by omega) hil hl hr
  rw[List.drop_eq_getElem_cons hil,QJ]at h3
  have tr:=wX hi'
  rw[←tr]at h3
  have hil':(i:Int)<l.length:=by omega
  have w2:IntKind.i64.wrap ((i:Int)+1)=((a+1+(k+1):Nat):Int):=by rw[zP (by omega)];omega
  generalize yV rows l[a+k] (l.take (a+k)).reverse l[i]=q at bg h3
  simp (maxSteps:=1000000) [go_sem,zp,hil']
  refine⟨⟨rfl,by simp[Tryz.f90]⟩,zb [] bg (by simp[go_sem]) ⟨by simp[go_sem],by simp[go_sem,zh]⟩ (by simp[go_sem]) ?_⟩
  rintro _ rs ⟨rfl,rfl⟩
  cases q with
  |true=>
   obtain rfl:N=i:=by simpa using h3
   simp (maxSteps:=1000000) [go_sem]
   exact zg (.p (.int .i64 (N:Nat))) rfl (by simp[go_sem,zf,leA,leT]) ⟨rfl,rfl⟩
  |false=>
   simp (maxSteps:=1000000) [go_sem,w2]
   have e1:a+(k+1)=i:=by omega
   have e2:a+1+(k+1)=i+1:=by omega
   have e3:a+k+1=i:=by omega
   exact zc (k+1) ⟨by omega,fun _=>by
    simp only[e1,e2]
    rw[e3]at h3
    simp only[Bool.false_eq_true,if_false]at h3
    omega⟩ (by simp[go_sem,LeS,leV,leR,leA]) (by omega)
 ·have hil':¬(i:Int)<l.length:=by omega
  have e:N=l.length:=by rw[h3,List.drop_eq_nil_of_le (by omega)];simp only[QJ];omega
  rw[e]
  simp (maxSteps:=1000000) [go_sem,zp,hil']
  exact zg (.p (.int .i64 (l.length:Nat))) rfl (by simp[go_sem,zf,leA,leT]) ⟨rfl,rfl⟩
def qQ(rows:List Row):Nat→List Int→List Int→List (List Int)
 |0,_,_=>[]
 |_,_,[]=>[]
 |n+1,pre,x::xs=>(x::xs.take (QJ rows x pre xs))::qQ rows n ((xs.take (QJ rows x pre xs)).reverse++x::pre) (xs.drop (QJ rows x pre xs))
def qR(rows:List Row)(l:List Int):List (List Int):=qQ rows l.length [] l
theorem VG(rows:List Row):∀(n m:Nat) (pre l:List Int),l.length≤n→l.length≤m→qQ rows n pre l=qQ rows m pre l
 |0,m,pre,l,h1,h2=>by
  obtain rfl:l=[]:=List.eq_nil_of_length_eq_zero (by omega)
  cases m<;>rfl
 |n+1,0,pre,l,h1,h2=>by
  obtain rfl:l=[]:=List.eq_nil_of_length_eq_zero (by omega)
  rfl
 |n+1,m+1,pre,[],h1,h2=>rfl
 |n+1,m+1,pre,r::l,h1,h2=>by
  simp only[List.length_cons]at h1 h2
  simp only[qQ]
  rw[VG rows n m _ _ (by rw[List.length_drop];omega) (by rw[List.length_drop];omega)]
theorem ze5(rows:List Row)(l:List Int)(a e:Nat)(h:a<l.length)(he:e=a+1+QJ rows l[a] (l.take a).reverse (l.drop (a+1))):
  qQ rows (l.length-a) (l.take a).reverse (l.drop a)=(l.drop a).take (e-a)::qQ rows (l.length-e) (l.take e).reverse (l.drop e):=by
 rw[List.drop_eq_getElem_cons h]
 obtain⟨n,hn⟩:∃n,l.length-a=n+1:=⟨l.length-a-1,by omega⟩
 have hk:=uo rows (l.drop (a+1)) (l.take a).reverse l[a]
 rw[List.length_drop]at hk
 rw[hn,qQ]
 generalize QJ rows l[a] (l.take a).reverse (l.drop (a+1))=k at he hk
 have e1:e-a=k+1:=by omega
 have e2:(l.drop (a+1)).drop k=l.drop e:=by rw[List.drop_drop,he]
 have e3:((l.drop (a+1)).take k).reverse++l[a]::(l.take a).reverse=(l.take e).reverse:=by
  rw[←wX h,←List.reverse_append,he];exact congrArg List.reverse List.take_add.symm
 rw[e1,e2,e3,List.take_succ_cons]
 rw[VG rows n (l.length-e) _ _ (by rw[List.length_drop];omega) (by rw[List.length_drop];omega)]
theorem zbn [Gi] {rows:List Row}(hw:qP rows)(l:List Int)(hl:l.length<2^31)(hr:∀x∈l,zL x):
  CR Tryz.prog 73 [] [.p (zC rows),.p (zh l)] [] (is (.p (zr (qR rows l)))):=by
 refine zm mixed 8 [] Tryz.func73 rfl (by kernel_rfl) rfl (by simp) (by simp) ?_
 simp (maxSteps:=1000000) [go_sem,Tryz.f73,zh]
 refine zi (fun r:List (List Int)×Nat=>r.2≤l.length∧r.1.length≤r.2∧qR rows l=r.1++qQ rows (l.length-r.2) (l.take r.2).reverse (l.drop r.2)) (fun r=>[(6,.p (.int .i64 (r.2:Nat))),(5,.os [5] 1 (zW r.1)),(7,.zZ)]) (fun _=>[]) (fun r=>l.length-r.2) ([],0) ⟨by simp,by simp,rfl⟩ (by simp[go_sem,LeS,leV,leR,leA,zW]) (fun r hr2=>?_)
 obtain⟨D,a⟩:=r
 obtain⟨p1,p3,p2⟩:=hr2
 simp only at p1 p2 p3
 by_cases hal:a<l.length
 ·have hnx:=zdI hw l a hal hl hr
  obtain⟨e,he⟩:∃e,e=a+1+QJ rows l[a] (l.take a).reverse (l.drop (a+1)):=⟨_,rfl⟩
  have hrun:=uo rows (l.drop (a+1)) (l.take a).reverse l[a]
  rw[List.length_drop]at hrun
  have hcl:=ze5 rows l a e hal he
  rw[←he]at hnx
  have hel:e≤l.length:=by omega
  have hae:a<e:=by omega
  have g1:(a:Int)<l.length:=by omega
  have hcc:cut (zB l) a e=zB ((l.drop a).take (e-a)):=by simp[cut,zB]
  obtain⟨C,hC⟩:∃C,C=(l.drop a).take (e-a):=⟨_,rfl⟩
  rw[←hC]at hcl hcc
  clear he hrun
  simp (maxSteps:=1000000) [go_sem,zp,g1]
  refine⟨⟨rfl,by simp[Tryz.f129]⟩,zb [] hnx (by simp[go_sem]) ⟨by simp[go_sem],by simp[go_sem,zh]⟩ (by simp[go_sem]) ?_⟩
  rintro _ rs ⟨rfl,rfl⟩
  simp (maxSteps:=1000000) [go_sem,zp,hcc]
  refine⟨⟨by omega,by omega⟩,rfl,by simp[zW];omega,zc (D++[C],e) ⟨by show e≤l.length;omega,by simp;omega,by rw[p2,hcl];simp⟩ (by simp[go_sem,LeS,leV,leR,leA,zW,zh]) (by show l.length-e<l.length-a;omega)⟩
 ·have g1:¬(a:Int)<l.length:=by omega
  have e:qR rows l=D:=by rw[p2,List.drop_eq_nil_of_le (by omega)];cases l.length-a<;>simp[qQ]
  rw[e]
  simp (maxSteps:=1000000) [go_sem,zp,g1]
  exact zg (.p (zr D)) rfl (by simp[go_sem,zf,leA,leT,zr]) ⟨rfl,rfl⟩
end Go.Proofs.YtjefahhmkcfiiaaGreat
end
section
namespace Go.Proofs.YtjefahhmkcfiiaaGreat
open Go.AM
set_option maxHeartbeats 4000000
set_option maxRecDepth 10000
theorem za5 [Gi](a:List Int)(ha:a.length<2^31):CR Tryz.prog 23 [] [.p (zh a),.p (zh a)] [] (is (.p (.bool true))):=by
 refine zm mixed 6 [] Tryz.func23 rfl (by kernel_rfl) rfl (by simp) (by simp) ?_
 simp (maxSteps:=1000000) [go_sem,Tryz.f23,zh,zp]
 refine zi (fun k:Nat=>k≤a.length) (fun k=>[(5,.p (.int .i64 (k:Nat)))]) (fun _=>[]) (fun k=>a.length-k) 0 (by omega) (by simp[go_sem,LeS,leV,leR,leA]) (fun k hk=>?_)
 by_cases h:k<a.length
 ·have em:=ZF h
  have h':(k:Int)<a.length:=by omega
  have w1:IntKind.i64.wrap ((k:Int)+1)=((k+1:Nat):Int):=zP (by omega)
  generalize a[k]=x at em
  simp (maxSteps:=1000000) [go_sem,zp,h',em,w1]
  exact zc (k+1) (by omega) (by simp[go_sem,LeS,leV,leR,leA]) (by omega)
 ·have h':¬(k:Int)<a.length:=by omega
  simp (maxSteps:=1000000) [go_sem,zp,h']
  exact zg (.p (.bool true)) rfl (by simp[go_sem,zf,leA]) ⟨rfl,rfl⟩
theorem zaZ [Gi](L:List (List Int))(hL:L.length<2^31)(hl:∀x∈L,x.length<2^31):CR Tryz.prog 22 [] [.p (zr L),.p (zr L)] [] (is (.p (.bool true))):=by
 refine zM [6] mixed 6 [] Tryz.func22 rfl (by kernel_rfl) rfl (by simp) (by simp) ?_
 simp (maxSteps:=1000000) [go_sem,Tryz.f22,zr,zo]
 refine zi (fun k:Nat=>k≤L.length) (fun k=>[(5,.p (.int .i64 (k:Nat)))]) (fun _=>[]) (fun k=>L.length-k) 0 (by omega) (by simp[go_sem,LeS,leV,leR,leA]) (fun k hk=>?_)
 by_cases h:k<L.length
 ·have em:elemAt (zW L) k=zh L[k]:=by rw[zW,zq zh L k h]
  have h':(k:Int)<L.length:=by omega
  have hx:=hl _ (List.getElem_mem h)
  have w1:IntKind.i64.wrap ((k:Int)+1)=((k+1:Nat):Int):=zP (by omega)
  generalize L[k]=x at em hx
  simp (maxSteps:=1000000) [go_sem,zo,h',em,zh]
  refine z7 (.p (.bool true)) rfl rfl (fun _=>z6 23 (za5 x hx) rfl ⟨rfl,by simp[Tryz.f23]⟩ ⟨by simp[go_sem],by simp[go_sem,zh]⟩) ?_
  simp (maxSteps:=1000000) [go_sem,w1]
  exact zc (k+1) (by omega) (by simp[go_sem,LeS,leV,leR,leA]) (by omega)
 ·have h':¬(k:Int)<L.length:=by omega
  simp (maxSteps:=1000000) [go_sem,zo,h']
  exact zg (.p (.bool true)) rfl (by simp[go_sem,zf,leA]) ⟨rfl,rfl⟩
theorem zeo [Gi](a b c:List Int)(hn:a.length+b.length+c.length<2^31):CR Tryz.prog 43 [] [.p (zh a),.p (zh b),.p (zh c)] [] (is (.p (zh (a++(b++c))))):=by
 refine zm mixed 8 [] Tryz.func43 rfl (by kernel_rfl) rfl (by simp) (by simp) ?_
 simp (maxSteps:=1000000) [go_sem,Tryz.f43,zh,zp]
 refine⟨by omega,by omega,by omega,?_⟩
 exact zg (.p (zh (a++(b++c)))) rfl (by simp[go_sem,zf,leA,leT,zh,zb5]) ⟨rfl,rfl⟩
end Go.Proofs.YtjefahhmkcfiiaaGreat
end
section
namespace Go.Proofs.YtjefahhmkcfiiaaGreat
open Go.AM
set_option maxHeartbeats 4000000
set_option maxRecDepth 10000
theorem zaR [Gi](r:Int):CR Tryz.prog 179 [] [.p (.int .i32 r)] [] (is (.p (.bool (Zc r)))):=by
 refine zm mixed 3 [] Tryz.func179 rfl (by kernel_rfl) rfl (by simp) (by simp) ?_
 by_cases c1:44032≤r
 ·simp (maxSteps:=1000000) [go_sem,Tryz.f179,c1]
  refine zg (.p (.bool (Zc r))) rfl ?_ ⟨rfl,rfl⟩
  have:decide (r≤55203)=decide (r<55204):=by congr 1;simp;omega
  simp[go_sem,zf,leA,leT,Zc,c1,this]
 ·simp (maxSteps:=1000000) [go_sem,Tryz.f179,c1]
  exact zg (.p (.bool (Zc r))) rfl (by simp[go_sem,zf,leA,leT,Zc,c1]) ⟨rfl,rfl⟩
theorem yD [Gi](r:Int)(hs:Zc r=true):CR Tryz.prog 180 [] [.p (.int .i32 r)] [] (is (.os [2] 1 (zB (zQ r)))):=by
 refine zm mixed 5 [] Tryz.func180 rfl (by kernel_rfl) rfl (by simp) (by simp) ?_
 simp (maxSteps:=1000000) [go_sem,Tryz.f180]
 refine⟨⟨rfl,by simp[Tryz.f179]⟩,zb [] (zaR r) (by simp[go_sem]) ⟨by simp[go_sem],by simp[go_sem]⟩ (by simp[go_sem]) ?_⟩
 rintro _ rs ⟨rfl,rfl⟩
 have hs':44032≤r∧r<55204:=by simpa[Zc]using hs
 have w0:IntKind.i64.wrap r=r:=wrap64 (by omega) (by omega)
 have w1:IntKind.i64.wrap (r-44032)=r-44032:=wrap64 (by omega) (by omega)
 have d1:(r-44032).tdiv 588=(r-44032)/588:=Int.tdiv_eq_ediv_of_nonneg (by omega)
 have d2:(r-44032).tdiv 28=(r-44032)/28:=Int.tdiv_eq_ediv_of_nonneg (by omega)
 have d3:(r-44032).tmod 28=(r-44032)%28:=Int.tmod_eq_emod_of_nonneg (by omega)
 have d4:((r-44032)/28).tmod 21=(r-44032)/28%21:=Int.tmod_eq_emod_of_nonneg (by omega)
 have w2:IntKind.i64.wrap ((r-44032)/588)=(r-44032)/588:=wrap64 (by omega) (by omega)
 have w3:IntKind.i64.wrap ((r-44032)/28)=(r-44032)/28:=wrap64 (by omega) (by omega)
 have w4:IntKind.i64.wrap ((r-44032)%28)=(r-44032)%28:=wrap64 (by omega) (by omega)
 have w5:IntKind.i64.wrap ((r-44032)/28%21)=(r-44032)/28%21:=wrap64 (by omega) (by omega)
 have w6:IntKind.i64.wrap (4352+(r-44032)/588)=4352+(r-44032)/588:=wrap64 (by omega) (by omega)
 have w7:IntKind.i64.wrap (4449+(r-44032)/28%21)=4449+(r-44032)/28%21:=wrap64 (by omega) (by omega)
 have w8:IntKind.i64.wrap (4519+(r-44032)%28)=4519+(r-44032)%28:=wrap64 (by omega) (by omega)
 have u6:IntKind.i32.wrap (4352+(r-44032)/588)=4352+(r-44032)/588:=ki (by omega)
 have u7:IntKind.i32.wrap (4449+(r-44032)/28%21)=4449+(r-44032)/28%21:=ki (by omega)
 have u8:IntKind.i32.wrap (4519+(r-44032)%28)=4519+(r-44032)%28:=ki (by omega)
 simp (maxSteps:=1000000) [go_sem,hs,w0,w1,d1,d2,d3,d4,w2,w3,w6,w7,u6,u7]
 refine⟨rfl,?_⟩
 refine xD (fun hc=>?_) (fun hc=>?_)
 ·have e:zQ r=[4352+(r-44032)/588,4449+(r-44032)/28%21,4519+(r-44032)%28]:=if_neg (by omega)
  rw[e]
  simp (maxSteps:=1000000) [go_sem,d3,w8,u8]
  exact zg (.os [2] 1 (zB [4352+(r-44032)/588,4449+(r-44032)/28%21,4519+(r-44032)%28])) rfl (by simp[go_sem,zf,leA,leT,zB]) ⟨rfl,rfl⟩
 ·have e:zQ r=[4352+(r-44032)/588,4449+(r-44032)/28%21]:=if_pos (by omega)
  rw[e]
  simp (maxSteps:=1000000) [go_sem]
  exact zg (.os [2] 1 (zB [4352+(r-44032)/588,4449+(r-44032)/28%21])) rfl (by simp[go_sem,zf,leA,leT,zB]) ⟨rfl,rfl⟩
theorem uq [Gi](r:Int)(hs:Zc r=false):CR Tryz.prog 180 [] [.p (.int .i32 r)] [] (is (.os [2] 1 [])):=by
 refine zm mixed 5 [] Tryz.func180 rfl (by kernel_rfl) rfl (by simp) (by simp) ?_
 simp (maxSteps:=1000000) [go_sem,Tryz.f180]
 refine⟨⟨rfl,by simp[Tryz.f179]⟩,zb [] (zaR r) (by simp[go_sem]) ⟨by simp[go_sem],by simp[go_sem]⟩ (by simp[go_sem]) ?_⟩
 rintro _ rs ⟨rfl,rfl⟩
 simp (maxSteps:=1000000) [go_sem,hs]
 exact zg (.os [2] 1 []) rfl (by simp[go_sem,zf,leA,leT]) ⟨rfl,rfl⟩
def zS(a b:Int):Option Int:=
 if 4352≤a∧a≤4370∧4449≤b∧b≤4469 then some (44032+(a-4352)*588+(b-4449)*28)
 else if Zc a=true∧(a-44032)%28=0∧4520≤b∧b≤4546 then some (a+(b-4519))else none
theorem zio [Gi](a b:Int)(ha:zL a)(hb:zL b):CR Tryz.prog 177 [] [.p (.int .i32 a),.p (.int .i32 b)] [] (is (.tup [.p (.int .i32 (qW (zS a b))),.p (.bool (zS a b).isSome)])):=by
 refine zm mixed 7 [] Tryz.func177 rfl (by kernel_rfl) rfl (by simp) (by simp) ?_
 have wa:=VA ha
 have wb:=VA hb
 by_cases h:4352≤a∧a≤4370∧4449≤b∧b≤4469
 ·have e:zS a b=some (44032+(a-4352)*588+(b-4449)*28):=if_pos h
  obtain⟨h1,h2,h3,h4⟩:=h
  have w1:IntKind.i64.wrap (a-4352)=a-4352:=wrap64 (by omega) (by omega)
  have w2:IntKind.i64.wrap ((a-4352)*588)=(a-4352)*588:=wrap64 (by omega) (by omega)
  have w3:IntKind.i64.wrap (44032+(a-4352)*588)=44032+(a-4352)*588:=wrap64 (by omega) (by omega)
  have w4:IntKind.i64.wrap (b-4449)=b-4449:=wrap64 (by omega) (by omega)
  have w5:IntKind.i64.wrap ((b-4449)*28)=(b-4449)*28:=wrap64 (by omega) (by omega)
  have w6:IntKind.i64.wrap (44032+(a-4352)*588+(b-4449)*28)=44032+(a-4352)*588+(b-4449)*28:=wrap64 (by omega) (by omega)
  have w7:IntKind.i32.wrap (44032+(a-4352)*588+(b-4449)*28)=44032+(a-4352)*588+(b-4449)*28:=ki (by omega)
  simp (maxSteps:=1000000) [go_sem,Tryz.f177,h1,h2,h3,h4,wa,wb,w1,w2,w3,w4,w5,w6,w7]
  exact zg (.tup [.p (.int .i32 (qW (zS a b))),.p (.bool (zS a b).isSome)]) rfl (by simp[go_sem,zf,leA,leT,leP,e,qW]) ⟨rfl,rfl⟩
 ·have e:zS a b=if Zc a=true∧(a-44032)%28=0∧4520≤b∧b≤4546 then some (a+(b-4519))else none:=if_neg h
  rcases(show ¬4352≤a∨(4352≤a∧¬a≤4370)∨(4352≤a∧a≤4370∧¬4449≤b)∨(4352≤a∧a≤4370∧4449≤b∧¬b≤4469) by omega)with x1|⟨x1,x2⟩|⟨x1,x2,x3⟩|⟨x1,x2,x3,x4⟩
  ·simp (maxSteps:=1000000) [go_sem,Tryz.f177,x1]
   cases hs:Zc a with
   |false=>
    have e2:zS a b=none:=by rw[e,hs];simp
    refine⟨⟨rfl,by simp[Tryz.f180]⟩,zb [] (uq a hs) (by simp[go_sem]) ⟨by simp[go_sem],by simp[go_sem]⟩ (by simp[go_sem]) ?_⟩
    rintro _ rs ⟨rfl,rfl⟩
    simp (maxSteps:=1000000) [go_sem]
    exact zg (.tup [.p (.int .i32 (qW (zS a b))),.p (.bool (zS a b).isSome)]) rfl (by simp[go_sem,zf,leA,leT,leP,e2,qW]) ⟨rfl,rfl⟩
   |true=>
    refine⟨⟨rfl,by simp[Tryz.f180]⟩,zb [] (yD a hs) (by simp[go_sem]) ⟨by simp[go_sem],by simp[go_sem]⟩ (by simp[go_sem]) ?_⟩
    rintro _ rs ⟨rfl,rfl⟩
    by_cases c0:(a-44032)%28=0
    ·have es:zQ a=[4352+(a-44032)/588,4449+(a-44032)/28%21]:=if_pos c0
     rw[es]
     by_cases c1:4520≤b
     ·by_cases c2:b≤4546
      ·have e2:zS a b=some (a+(b-4519)):=by rw[e,if_pos ⟨hs,c0,c1,c2⟩]
       have hs':44032≤a∧a<55204:=by simpa[Zc]using hs
       have w1:IntKind.i32.wrap (b-4519)=b-4519:=ki (by omega)
       have w2:IntKind.i32.wrap (a+(b-4519))=a+(b-4519):=ki (by omega)
       simp (maxSteps:=1000000) [go_sem,zB,c1,c2,w1,w2]
       exact zg (.tup [.p (.int .i32 (qW (zS a b))),.p (.bool (zS a b).isSome)]) rfl (by simp[go_sem,zf,leA,leT,leP,e2,qW]) ⟨rfl,rfl⟩
      ·have e2:zS a b=none:=by rw[e,if_neg (fun h=>c2 h.2.2.2)]
       simp (maxSteps:=1000000) [go_sem,zB,c1,c2]
       exact zg (.tup [.p (.int .i32 (qW (zS a b))),.p (.bool (zS a b).isSome)]) rfl (by simp[go_sem,zf,leA,leT,leP,e2,qW]) ⟨rfl,rfl⟩
     ·have e2:zS a b=none:=by rw[e,if_neg (fun h=>c1 h.2.2.1)]
      simp (maxSteps:=1000000) [go_sem,zB,c1]
      exact zg (.tup [.p (.int .i32 (qW (zS a b))),.p (.bool (zS a b).isSome)]) rfl (by simp[go_sem,zf,leA,leT,leP,e2,qW]) ⟨rfl,rfl⟩
    ·have es:zQ a=[4352+(a-44032)/588,4449+(a-44032)/28%21,4519+(a-44032)%28]:=if_neg c0
     have e2:zS a b=none:=by rw[e,if_neg (fun h=>c0 h.2.1)]
     rw[es]
     simp (maxSteps:=1000000) [go_sem,zB]
     exact zg (.tup [.p (.int .i32 (qW (zS a b))),.p (.bool (zS a b).isSome)]) rfl (by simp[go_sem,zf,leA,leT,leP,e2,qW]) ⟨rfl,rfl⟩
  ·simp (maxSteps:=1000000) [go_sem,Tryz.f177,x1,x2]
   cases hs:Zc a with
   |false=>
    have e2:zS a b=none:=by rw[e,hs];simp
    refine⟨⟨rfl,by simp[Tryz.f180]⟩,zb [] (uq a hs) (by simp[go_sem]) ⟨by simp[go_sem],by simp[go_sem]⟩ (by simp[go_sem]) ?_⟩
    rintro _ rs ⟨rfl,rfl⟩
    simp (maxSteps:=1000000) [go_sem]
    exact zg (.tup [.p (.int .i32 (qW (zS a b))),.p (.bool (zS a b).isSome)]) rfl (by simp[go_sem,zf,leA,leT,leP,e2,qW]) ⟨rfl,rfl⟩
   |true=>
    refine⟨⟨rfl,by simp[Tryz.f180]⟩,zb [] (yD a hs) (by simp[go_sem]) ⟨by simp[go_sem],by simp[go_sem]⟩ (by simp[go_sem]) ?_⟩
    rintro _ rs ⟨rfl,rfl⟩
    by_cases c0:(a-44032)%28=0
    ·have es:zQ a=[4352+(a-44032)/588,4449+(a-44032)/28%21]:=if_pos c0
     rw[es]
     by_cases c1:4520≤b
     ·by_cases c2:b≤4546
      ·have e2:zS a b=some (a+(b-4519)):=by rw[e,if_pos ⟨hs,c0,c1,c2⟩]
       have hs':44032≤a∧a<55204:=by simpa[Zc]using hs
       have w1:IntKind.i32.wrap (b-4519)=b-4519:=ki (by omega)
       have w2:IntKind.i32.wrap (a+(b-4519))=a+(b-4519):=ki (by omega)
       simp (maxSteps:=1000000) [go_sem,zB,c1,c2,w1,w2]
       exact zg (.tup [.p (.int .i32 (qW (zS a b))),.p (.bool (zS a b).isSome)]) rfl (by simp[go_sem,zf,leA,leT,leP,e2,qW]) ⟨rfl,rfl⟩
      ·have e2:zS a b=none:=by rw[e,if_neg (fun h=>c2 h.2.2.2)]
       simp (maxSteps:=1000000) [go_sem,zB,c1,c2]
       exact zg (.tup [.p (.int .i32 (qW (zS a b))),.p (.bool (zS a b).isSome)]) rfl (by simp[go_sem,zf,leA,leT,leP,e2,qW]) ⟨rfl,rfl⟩
     ·have e2:zS a b=none:=by rw[e,if_neg (fun h=>c1 h.2.2.1)]
      simp (maxSteps:=1000000) [go_sem,zB,c1]
      exact zg (.tup [.p (.int .i32 (qW (zS a b))),.p (.bool (zS a b).isSome)]) rfl (by simp[go_sem,zf,leA,leT,leP,e2,qW]) ⟨rfl,rfl⟩
    ·have es:zQ a=[4352+(a-44032)/588,4449+(a-44032)/28%21,4519+(a-44032)%28]:=if_neg c0
     have e2:zS a b=none:=by rw[e,if_neg (fun h=>c0 h.2.1)]
     rw[es]
     simp (maxSteps:=1000000) [go_sem,zB]
     exact zg (.tup [.p (.int .i32 (qW (zS a b))),.p (.bool (zS a b).isSome)]) rfl (by simp[go_sem,zf,leA,leT,leP,e2,qW]) ⟨rfl,rfl⟩
  ·simp (maxSteps:=1000000) [go_sem,Tryz.f177,x1,x2,x3]
   cases hs:Zc a with
   |false=>
    have e2:zS a b=none:=by rw[e,hs];simp
    refine⟨⟨rfl,by simp[Tryz.f180]⟩,zb [] (uq a hs) (by simp[go_sem]) ⟨by simp[go_sem],by simp[go_sem]⟩ (by simp[go_sem]) ?_⟩
    rintro _ rs ⟨rfl,rfl⟩
    simp (maxSteps:=1000000) [go_sem]
    exact zg (.tup [.p (.int .i32 (qW (zS a b))),.p (.bool (zS a b).isSome)]) rfl (by simp[go_sem,zf,leA,leT,leP,e2,qW]) ⟨rfl,rfl⟩
   |true=>
    refine⟨⟨rfl,by simp[Tryz.f180]⟩,zb [] (yD a hs) (by simp[go_sem]) ⟨by simp[go_sem],by simp[go_sem]⟩ (by simp[go_sem]) ?_⟩
    rintro _ rs ⟨rfl,rfl⟩
    by_cases c0:(a-44032)%28=0
    ·have es:zQ a=[4352+(a-44032)/588,4449+(a-44032)/28%21]:=if_pos c0
     rw[es]
     by_cases c1:4520≤b
     ·by_cases c2:b≤4546
      ·have e2:zS a b=some (a+(b-4519)):=by rw[e,if_pos ⟨hs,c0,c1,c2⟩]
       have hs':44032≤a∧a<55204:=by simpa[Zc]using hs
       have w1:IntKind.i32.wrap (b-4519)=b-4519:=ki (by omega)
       have w2:IntKind.i32.wrap (a+(b-4519))=a+(b-4519):=ki (by omega)
       simp (maxSteps:=1000000) [go_sem,zB,c1,c2,w1,w2]
       exact zg (.tup [.p (.int .i32 (qW (zS a b))),.p (.bool (zS a b).isSome)]) rfl (by simp[go_sem,zf,leA,leT,leP,e2,qW]) ⟨rfl,rfl⟩
      ·have e2:zS a b=none:=by rw[e,if_neg (fun h=>c2 h.2.2.2)]
       simp (maxSteps:=1000000) [go_sem,zB,c1,c2]
       exact zg (.tup [.p (.int .i32 (qW (zS a b))),.p (.bool (zS a b).isSome)]) rfl (by simp[go_sem,zf,leA,leT,leP,e2,qW]) ⟨rfl,rfl⟩
     ·have e2:zS a b=none:=by rw[e,if_neg (fun h=>c1 h.2.2.1)]
      simp (maxSteps:=1000000) [go_sem,zB,c1]
      exact zg (.tup [.p (.int .i32 (qW (zS a b))),.p (.bool (zS a b).isSome)]) rfl (by simp[go_sem,zf,leA,leT,leP,e2,qW]) ⟨rfl,rfl⟩
    ·have es:zQ a=[4352+(a-44032)/588,4449+(a-44032)/28%21,4519+(a-44032)%28]:=if_neg c0
     have e2:zS a b=none:=by rw[e,if_neg (fun h=>c0 h.2.1)]
     rw[es]
     simp (maxSteps:=1000000) [go_sem,zB]
     exact zg (.tup [.p (.int .i32 (qW (zS a b))),.p (.bool (zS a b).isSome)]) rfl (by simp[go_sem,zf,leA,leT,leP,e2,qW]) ⟨rfl,rfl⟩
  ·simp (maxSteps:=1000000) [go_sem,Tryz.f177,x1,x2,x3,x4]
   cases hs:Zc a with
   |false=>
    have e2:zS a b=none:=by rw[e,hs];simp
    refine⟨⟨rfl,by simp[Tryz.f180]⟩,zb [] (uq a hs) (by simp[go_sem]) ⟨by simp[go_sem],by simp[go_sem]⟩ (by simp[go_sem]) ?_⟩
    rintro _ rs ⟨rfl,rfl⟩
    simp (maxSteps:=1000000) [go_sem]
    exact zg (.tup [.p (.int .i32 (qW (zS a b))),.p (.bool (zS a b).isSome)]) rfl (by simp[go_sem,zf,leA,leT,leP,e2,qW]) ⟨rfl,rfl⟩
   |true=>
    refine⟨⟨rfl,by simp[Tryz.f180]⟩,zb [] (yD a hs) (by simp[go_sem]) ⟨by simp[go_sem],by simp[go_sem]⟩ (by simp[go_sem]) ?_⟩
    rintro _ rs ⟨rfl,rfl⟩
    by_cases c0:(a-44032)%28=0
    ·have es:zQ a=[4352+(a-44032)/588,4449+(a-44032)/28%21]:=if_pos c0
     rw[es]
     by_cases c1:4520≤b
     ·by_cases c2:b≤4546
      ·have e2:zS a b=some (a+(b-4519)):=by rw[e,if_pos ⟨hs,c0,c1,c2⟩]
       have hs':44032≤a∧a<55204:=by simpa[Zc]using hs
       have w1:IntKind.i32.wrap (b-4519)=b-4519:=ki (by omega)
       have w2:IntKind.i32.wrap (a+(b-4519))=a+(b-4519):=ki (by omega)
       simp (maxSteps:=1000000) [go_sem,zB,c1,c2,w1,w2]
       exact zg (.tup [.p (.int .i32 (qW (zS a b))),.p (.bool (zS a b).isSome)]) rfl (by simp[go_sem,zf,leA,leT,leP,e2,qW]) ⟨rfl,rfl⟩
      ·have e2:zS a b=none:=by rw[e,if_neg (fun h=>c2 h.2.2.2)]
       simp (maxSteps:=1000000) [go_sem,zB,c1,c2]
       exact zg (.tup [.p (.int .i32 (qW (zS a b))),.p (.bool (zS a b).isSome)]) rfl (by simp[go_sem,zf,leA,leT,leP,e2,qW]) ⟨rfl,rfl⟩
     ·have e2:zS a b=none:=by rw[e,if_neg (fun h=>c1 h.2.2.1)]
      simp (maxSteps:=1000000) [go_sem,zB,c1]
      exact zg (.tup [.p (.int .i32 (qW (zS a b))),.p (.bool (zS a b).isSome)]) rfl (by simp[go_sem,zf,leA,leT,leP,e2,qW]) ⟨rfl,rfl⟩
    ·have es:zQ a=[4352+(a-44032)/588,4449+(a-44032)/28%21,4519+(a-44032)%28]:=if_neg c0
     have e2:zS a b=none:=by rw[e,if_neg (fun h=>c0 h.2.1)]
     rw[es]
     simp (maxSteps:=1000000) [go_sem,zB]
     exact zg (.tup [.p (.int .i32 (qW (zS a b))),.p (.bool (zS a b).isSome)]) rfl (by simp[go_sem,zf,leA,leT,leP,e2,qW]) ⟨rfl,rfl⟩
theorem zhm [Gi](l:List Row)(x y:Int)(hl:qP l)(hx:zL x)(hy:zL y):CR Tryz.prog 135 [] [.p (zC l),.p (.int .i32 x),.p (.int .i32 y)] [] (is (.tup [.p (.int .i32 (qW ((zS x y).or (xI l x y)))),.p (.bool ((zS x y).or (xI l x y)).isSome)])):=by
 refine zm mixed 11 [] Tryz.func135 rfl (by kernel_rfl) rfl (by simp) (by simp) ?_
 simp (maxSteps:=1000000) [go_sem,Tryz.f135]
 refine⟨⟨rfl,by simp[Tryz.f177]⟩,zb [] (zio x y hx hy) (by simp[go_sem]) ⟨by simp[go_sem],by simp[go_sem]⟩ (by simp[go_sem]) ?_⟩
 rintro _ rs ⟨rfl,rfl⟩
 cases hj:zS x y with
 |some z=>
  simp (maxSteps:=1000000) [go_sem,qW]
  exact zg (.tup [.p (.int .i32 z),.p (.bool true)]) rfl (by simp[go_sem,zf,leA,leT,leP]) ⟨rfl,rfl⟩
 |none=>
  simp (maxSteps:=1000000) [go_sem]
  refine⟨⟨rfl,by simp[Tryz.f178]⟩,zb [] (zjV l x y hl hx hy) (by simp[go_sem]) ⟨by simp[go_sem],by simp[go_sem]⟩ (by simp[go_sem]) ?_⟩
  rintro _ rs ⟨rfl,rfl⟩
  simp (maxSteps:=1000000) [go_sem]
  exact zg (.tup [.p (.int .i32 (qW (xI l x y))),.p (.bool (xI l x y).isSome)]) rfl (by simp[go_sem,zf,leA,leT,leP]) ⟨rfl,rfl⟩
def qk(l:List Row):Nat→Int→List Int
 |0,r=>if Zc r then zQ r else [r]
 |d+1,r=>if Zc r then zQ r else
  match ZE l r with
  |none=>[r]
  |some p=>qk l d p.1++(if p.2=0 then []else qk l d p.2)
theorem yC(l:List Row):∀d r,(qk l d r).length≤3*2^d
 |0,r=>by
  unfold qk
  split
  ·unfold zQ;split<;>simp
  ·simp
 |d+1,r=>by
  have h3:1≤2^d:=Nat.one_le_two_pow
  unfold qk
  rw[Nat.pow_succ]
  split
  ·unfold zQ;split<;>simp<;>omega
  ·split
   ·simp;omega
   ·rename_i p _
    have h1:=yC l d p.1
    have h2:=yC l d p.2
    split
    ·simp;omega
    ·simp;omega
theorem zjo [Gi](l:List Row)(hl:qP l):∀(d:Nat) (_:d≤8) (r:Int) (_:zL r),CR Tryz.prog 136 [] [.p (zC l),.p (.int .i32 r),.p (.int .i64 d)] [] (is (.os [6] 1 (zB (qk l d r)))):=by
 intro d
 induction d with
 |zero=>
  intro hd r hr
  refine zm mixed 11 [] Tryz.func136 rfl (by kernel_rfl) rfl (by simp) (by simp) ?_
  simp (maxSteps:=1000000) [go_sem,Tryz.f136]
  refine⟨⟨rfl,by simp[Tryz.f179]⟩,zb [] (zaR r) (by simp[go_sem]) ⟨by simp[go_sem],by simp[go_sem]⟩ (by simp[go_sem]) ?_⟩
  rintro _ rs ⟨rfl,rfl⟩
  cases hs:Zc r with
  |true=>
   have e:qk l 0 r=zQ r:=by unfold qk;rw[if_pos hs]
   rw[e]
   simp (maxSteps:=1000000) [go_sem]
   refine⟨⟨rfl,by simp[Tryz.f180]⟩,zb [] (yD r hs) (by simp[go_sem]) ⟨by simp[go_sem],by simp[go_sem]⟩ (by simp[go_sem]) ?_⟩
   rintro _ rs ⟨rfl,rfl⟩
   simp (maxSteps:=1000000) [go_sem]
   exact zg (.os [6] 1 (zB (zQ r))) rfl (by simp[go_sem,zf,leA,leT]) ⟨rfl,rfl⟩
  |false=>
   have e:qk l 0 r=[r]:=by unfold qk;rw[hs];rfl
   rw[e]
   simp (maxSteps:=1000000) [go_sem]
   refine⟨⟨rfl,by simp[Tryz.f181]⟩,zb [] (Vo l r hl hr) (by simp[go_sem]) ⟨by simp[go_sem],by simp[go_sem]⟩ (by simp[go_sem]) ?_⟩
   rintro _ rs ⟨rfl,rfl⟩
   cases ZE l r with
   |none=>
    simp (maxSteps:=1000000) [go_sem,yg]
    exact zg (.os [6] 1 (zB [r])) rfl (by simp[go_sem,zf,leA,leT,zB]) ⟨rfl,rfl⟩
   |some p=>
    simp (maxSteps:=1000000) [go_sem,yg]
    exact zg (.os [6] 1 (zB [r])) rfl (by simp[go_sem,zf,leA,leT,zB]) ⟨rfl,rfl⟩
 |succ d ih=>
  intro hd r hr
  have hd0:¬((d:Int)+1=0):=by omega
  have wd:IntKind.i64.wrap ((d:Int)+1-1)=(d:Int):=by rw[wrap64 (by omega) (by omega)];omega
  have wd':IntKind.i64.wrap (d:Int)=(d:Int):=wrap64 (by omega) (by omega)
  have hp3:2^d≤2^8:=Nat.pow_le_pow_right (by omega) (by omega)
  refine zm mixed 11 [] Tryz.func136 rfl (by kernel_rfl) rfl (by simp) (by simp) ?_
  simp (maxSteps:=1000000) [go_sem,Tryz.f136]
  refine⟨⟨rfl,by simp[Tryz.f179]⟩,zb [] (zaR r) (by simp[go_sem]) ⟨by simp[go_sem],by simp[go_sem]⟩ (by simp[go_sem]) ?_⟩
  rintro _ rs ⟨rfl,rfl⟩
  cases hs:Zc r with
  |true=>
   have e:qk l (d+1) r=zQ r:=by unfold qk;rw[if_pos hs]
   rw[e]
   simp (maxSteps:=1000000) [go_sem]
   refine⟨⟨rfl,by simp[Tryz.f180]⟩,zb [] (yD r hs) (by simp[go_sem]) ⟨by simp[go_sem],by simp[go_sem]⟩ (by simp[go_sem]) ?_⟩
   rintro _ rs ⟨rfl,rfl⟩
   simp (maxSteps:=1000000) [go_sem]
   exact zg (.os [6] 1 (zB (zQ r))) rfl (by simp[go_sem,zf,leA,leT]) ⟨rfl,rfl⟩
  |false=>
   simp (maxSteps:=1000000) [go_sem]
   refine⟨⟨rfl,by simp[Tryz.f181]⟩,zb [] (Vo l r hl hr) (by simp[go_sem]) ⟨by simp[go_sem],by simp[go_sem]⟩ (by simp[go_sem]) ?_⟩
   rintro _ rs ⟨rfl,rfl⟩
   cases hp:ZE l r with
   |none=>
    have e:qk l (d+1) r=[r]:=by unfold qk;rw[hs,hp];rfl
    rw[e]
    simp (maxSteps:=1000000) [go_sem,yg]
    exact zg (.os [6] 1 (zB [r])) rfl (by simp[go_sem,zf,leA,leT,zB]) ⟨rfl,rfl⟩
   |some p=>
    obtain⟨pa,pb⟩:=p
    have hpo:=Jd hl hp
    simp only at hpo
    have hra:zL pa:=⟨by omega,by omega⟩
    have hrb:zL pb:=⟨by omega,by omega⟩
    have e:qk l (d+1) r=qk l d pa++(if pb=0 then []else qk l d pb):=by rw[qk,hs,hp];rfl
    have l1:=yC l d pa
    have l2:=yC l d pb
    rw[e]
    simp (maxSteps:=1000000) [go_sem,yg,hd0,wd']
    refine⟨⟨rfl,by simp[Tryz.f136]⟩,zb [] (ih (by omega) pa hra) (by simp[go_sem]) ⟨by simp[go_sem],by simp[go_sem]⟩ (by simp[go_sem]) ?_⟩
    rintro _ rs ⟨rfl,rfl⟩
    by_cases c:pb=0
    ·simp (maxSteps:=1000000) [go_sem,c]
     exact zg (.os [6] 1 (zB (qk l d pa))) rfl (by simp[go_sem,zf,leA,leT]) ⟨rfl,by simp⟩
    ·simp (maxSteps:=1000000) [go_sem,c,wd']
     refine⟨⟨rfl,by simp[Tryz.f136]⟩,zb [] (ih (by omega) pb hrb) (by simp[go_sem]) ⟨by simp[go_sem],by simp[go_sem]⟩ (by simp[go_sem]) ?_⟩
     rintro _ rs ⟨rfl,rfl⟩
     simp (maxSteps:=1000000) [go_sem]
     exact⟨by simp[zB];omega,zg (.os [6] 1 (zB (qk l d pa++qk l d pb))) rfl (by simp[go_sem,zf,leA,leT,zB]) ⟨rfl,rfl⟩⟩
end Go.Proofs.YtjefahhmkcfiiaaGreat
end
