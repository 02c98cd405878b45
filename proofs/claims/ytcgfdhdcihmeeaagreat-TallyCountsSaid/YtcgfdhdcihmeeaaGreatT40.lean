/- A part of the proof of this seat's statements, by an abstract machine: what each operation does to values, and what the law's functions compute. Conditions: as each law says. -/
import Derived.Test.YtcgfdhdcihmeeaaGreatT39
section
namespace Go.Proofs.YtcgfdhdcihmeeaaGreat
open Go.AM
set_option maxHeartbeats 4000000
set_option maxRecDepth 10000
attribute [local irreducible] za
structure DkI(d:Dk):Prop where
 n:d.need≤3
 h:d.hv+d.need≤4
 l:d.lo<256
 u:d.hi<256
 v1:d.v<32768
 v2:d.need=2→d.v<512
 v3:d.need=3→d.v<8
theorem DkI.ok {d:Dk}(h:DkI d):znI d:=⟨h.n,by have:=h.h;omega,h.l,h.u,h.v1⟩
theorem DkI.z:DkI dz:=⟨by simp[dz],by simp[dz],by simp[dz],by simp[dz],by simp[dz],by simp[dz],by simp[dz]⟩
theorem DkI.first(b:Nat)(hb:b<256):DkI (qz b).1:=by
 unfold qz
 split
 ·exact DkI.z
 split
 ·exact DkI.z
 ·refine⟨?_,?_,?_,?_,?_,?_,?_⟩<;>simp only[je,loD,hiD,vZ]<;>(repeat' split)<;>omega
theorem DkI.feed {d:Dk}(h:DkI d)(b:Nat)(hb:b<256):DkI (ZJ d b).1:=by
 have hf:=DkI.first b hb
 obtain⟨a1,a2,a3,a4,a5,a6,a7⟩:=h
 unfold ZJ
 split
 ·exact hf
 split
 ·exact hf
 split
 ·exact DkI.z
 ·refine⟨?_,?_,?_,?_,?_,?_,?_⟩<;>simp only<;>omega
theorem zcd(d:Dk)(b:Nat):(ZJ d b).2.length≤2:=by
 have h:=uU b
 unfold ZJ
 split
 ·omega
 split
 ·simp;omega
 split<;>simp
def nb(s:List UInt8):List Nat:=s.map UInt8.toNat
theorem zmb [Gi](d:Dk):CR Tryz.prog 69 [] [.p (dkV d)] [] (is (.p (zA (Qg d [])))):=by
 refine walk Tryz.func69 3 [] [] [] ?_
 by_cases h:d.need=0
 ·have e:Qg d []=[]:=by unfold Qg;rw[if_pos h]
  rw[e]
  simp (maxSteps:=1000000) [go_sem,Tryz.f69,dkV,h]
  exact ret (hx:=by simp[go_sem,zf,leA,leT,leP,zK])
 ·have e:Qg d []=[ym]:=by unfold Qg;rw[if_neg h]
  have h':¬(d.need:Int)=0:=by omega
  rw[e]
  simp (maxSteps:=1000000) [go_sem,Tryz.f69,dkV,h,h']
  exact ret (hx:=by simp[go_sem,zf,leA,leT,leP,zK,ym])
def zis:OT:=.now 1 0 (.now 2 0 (.mk [(0,.mk [(3,.mk [(4,.mk [(5,.mk [])])])]),(3,.mk [(0,.mk [(4,.mk [(5,.mk [])])])])]))
structure DcI(s:List UInt8)(r:Nat×Dk×List Int):Prop where
 i:r.1≤s.length
 d:DkI r.2.1
 o:r.2.2++Qg r.2.1 ((nb s).drop r.1)=Qg dz (nb s)
 l:r.2.2.length≤2*r.1
def dkC(d:Dk):List AV:=[.p (.int .i64 d.need),.p (.int .i64 d.hv),.p (.int .u8 d.lo),.p (.int .u8 d.hi),.p (.int .i32 d.v)]
def zku(s:List UInt8)(r:Nat×Dk×List Int):St:=
 {n:=31,nv:=9,vs:=[(0,.p (.str s)),(2,.os [2] 1 []),(3,.lp [3] 0),(4,.os [4] 1 (zK r.2.2)),(10,.p (.sl 1 (ye s))),(11,.p (.int .i64 s.length)),(12,.p (.int .i64 r.1))],ts:=[],rs:=[([3],dkC r.2.1)],ex:=[10,11,12]}
theorem zgd [Gi](s:List UInt8)(hs:s.length≤100000):CR Tryz.prog 35 [] [.p (.str s)] [] (is (.p (zA (Qg dz (nb s))))):=by
 refine vz 9 [10,11,12] Tryz.func35 rfl rfl (by simp) (by simp) ?_
 refine Qb.seq (D:=[]) mixed (by kernel_rfl) ?_
 simp (maxSteps:=1000000) [go_sem]
 refine Qb.seq (D:=[]) mixed (by kernel_rfl) ?_
 simp (maxSteps:=1000000) [go_sem]
 refine Qb.seq (D:=[]) mixed (by kernel_rfl) ?_
 simp (maxSteps:=1000000) [go_sem]
 have bl:(ye s).length=s.length:=by simp[ye]
 refine Qb.zdk fun E=>zN.yf (D:=[]) mixed (by kernel_rfl) ?_
 simp (maxSteps:=1000000) [go_sem,bl]
 refine zN.block ?_
 refine zN.loop (DcI s) (zku s) (fun r=>s.length-r.1) (0,dz,[]) ⟨Nat.zero_le _,DkI.z,by simp,by simp⟩ (by simp[go_sem,LeS,leV,leR,leA,leL,zi,leT,leP,zku,dkC,dz,zK]) (fun r hr=>?_)
 obtain⟨i,d,out⟩:=r
 obtain⟨p1,p2,p3,p4⟩:=hr
 simp only at p1 p2 p3 p4
 refine zN.yf (D:=[]) mixed (by kernel_rfl) ?_
 simp (maxSteps:=1000000) [go_sem,zku,dkC]
 by_cases hil:i<s.length
 ·have em:elemAt (ye s) i=.int .u8 (s[i].toNat:Nat):=by
   unfold ye
   rw[zp _ s i hil]
  have hb:s[i].toNat<256:=s[i].toNat_lt
  have dr:(nb s).drop i=s[i].toNat::(nb s).drop (i+1):=by
   unfold nb
   rw[List.drop_eq_getElem_cons (by simpa using hil)]
   simp
  rw[dr,Vz]at p3
  generalize s[i].toNat=b at em hb p3
  have fc:=zkw d p2.ok b hb
  have q1:=p2.feed b hb
  have q2:=zcd d b
  generalize ZJ d b=q at p3 fc q1 q2
  obtain⟨d',l⟩:=q
  simp only at p3 q1 q2
  unfold dkV at fc
  simp only at fc
  have w1:IntKind.i64.wrap ((i:Int)+1)=((i+1:Nat):Int):=zD (by omega)
  refine zN.yf (D:=[]) mixed (by kernel_rfl) ?_
  simp (maxSteps:=1000000) [go_sem,hil]
  refine zN.seq (zN.block ?_)
  refine zN.yf (D:=[]) mixed (by kernel_rfl) ?_
  simp (maxSteps:=1000000) [go_sem,em,bl,hil]
  refine zN.yf (D:=[]) mixed (by kernel_rfl) ?_
  simp (maxSteps:=1000000) [go_sem]
  refine zq fc ?_
  simp (maxSteps:=1000000) [go_sem]
  refine zN.tree mixed zis (by kernel_rfl) ?_
  have hb4:(out.length+l.length)*4≤140737488355328:=by omega
  have ei:zK out++zK l=zK (out++l):=by simp[zK]
  simp (maxSteps:=1000000) [go_sem,zis,hb4,ei]
  repeat'(first|exact True.intro|apply And.intro)
  all_goals
   refine zN.ZY (D:=[]) mixed (by kernel_rfl) ?_
   simp (maxSteps:=1000000) [go_sem,w1]
   exact uE (i+1,d',out++l) ⟨hil,q1,by simpa[List.append_assoc]using p3,by simp only[List.length_append];omega⟩ (by simp[go_sem,LeS,leV,leR,leA,leL,zi,leT,leP,zku,dkC]) (by show s.length- (i+1)<s.length-i;omega)
 ·obtain rfl:i=s.length:=by omega
  refine zN.yf (D:=[]) mixed (by kernel_rfl) ?_
  simp (maxSteps:=1000000) [go_sem]
  have ed:(nb s).drop s.length=[]:=List.drop_eq_nil_of_le (by simp[nb])
  rw[ed]at p3
  have ec:=zmb d
  have el:(Qg d []).length≤1:=by unfold Qg;split<;>simp
  generalize Qg d []=l at p3 ec el
  have ei:zK out++zK l=zK (out++l):=by simp[zK]
  rw[p3]at ei
  refine Qb.ZY (D:=[]) mixed (by kernel_rfl) ?_
  unfold dkV at ec
  simp (maxSteps:=1000000) [go_sem]
  refine zq ec ?_
  simp (maxSteps:=1000000) [go_sem,ei]
  refine⟨by omega,?_⟩
  exact ret (hx:=by simp[go_sem,zf,leA,leT,leP])
end Go.Proofs.YtcgfdhdcihmeeaaGreat
end
section
namespace Go.Proofs.YtcgfdhdcihmeeaaGreat
open Go.AM
set_option maxHeartbeats 4000000
set_option maxRecDepth 10000
attribute [local irreducible] za
theorem zlz [Gi](all rows row:Int)(ha:0≤all∧all≤1000000)(hr:1≤rows∧rows≤500)(hw:0≤row∧row≤1000000):CR Tryz.prog 38 [] [.p (.int .i64 all),.p (.int .i64 rows),.p (.int .i64 row)] [] (is (.p (.int .i64 (xr all rows row)))):=by
 refine walk Tryz.func38 7 [] [] [] ?_
 have h2:0≤rows.tdiv 2∧rows.tdiv 2≤250:=by
  rw[Int.tdiv_eq_ediv_of_nonneg (by omega)];omega
 have w1:IntKind.i64.wrap (rows.tdiv 2)=rows.tdiv 2:=wrap64 (by omega) (by omega)
 have w2:IntKind.i64.wrap (row-rows.tdiv 2)=row-rows.tdiv 2:=wrap64 (by omega) (by omega)
 have w3:IntKind.i64.wrap (all-rows)=all-rows:=wrap64 (by omega) (by omega)
 simp (maxSteps:=1000000) [go_sem,Tryz.f38,w1,w2,w3]
 unfold xr
 exact ret
theorem zj6 [Gi](all rows row:Int)(ha:0≤all∧all≤1000000)(hr:1≤rows∧rows≤500)(hw:0≤row∧row≤1000000):CR Tryz.prog 43 [] [.p (.int .i64 all),.p (.int .i64 rows),.p (.int .i64 row)] [] (is (.p (.int .i64 (xr all rows row)))):=by
 refine walk Tryz.func43 8 [] [] [] ?_
 have h2:0≤rows.tdiv 2∧rows.tdiv 2≤250:=by
  rw[Int.tdiv_eq_ediv_of_nonneg (by omega)];omega
 have w1:IntKind.i64.wrap (rows.tdiv 2)=rows.tdiv 2:=wrap64 (by omega) (by omega)
 have w2:IntKind.i64.wrap (row-rows.tdiv 2)=row-rows.tdiv 2:=wrap64 (by omega) (by omega)
 have w3:IntKind.i64.wrap (all-rows)=all-rows:=wrap64 (by omega) (by omega)
 by_cases c1:all-rows<row-rows.tdiv 2
 ·by_cases c2:all-rows<0
  ·have e:xr all rows row=0:=by unfold xr;omega
   rw[e]
   simp (maxSteps:=1000000) [go_sem,Tryz.f43,w1,w2,w3,c1,c2]
   exact ret
  ·have e:xr all rows row=all-rows:=by unfold xr;omega
   rw[e]
   simp (maxSteps:=1000000) [go_sem,Tryz.f43,w1,w2,w3,c1,c2]
   exact ret
 ·by_cases c2:row-rows.tdiv 2<0
  ·have e:xr all rows row=0:=by unfold xr;omega
   rw[e]
   simp (maxSteps:=1000000) [go_sem,Tryz.f43,w1,w2,w3,c1,c2]
   exact ret
  ·have e:xr all rows row=row-rows.tdiv 2:=by unfold xr;omega
   rw[e]
   simp (maxSteps:=1000000) [go_sem,Tryz.f43,w1,w2,w3,c1,c2]
   exact ret
def vwS(C:Int)(ps:List (List Int))(ln:List Int)(cur:Int):Int×Int:=qp C (vwG ps ln) (vwK ps ln cur)
def vwT(R C:Int)(ps:List (List Int))(ln:List Int)(cur:Int):Int:=xr ((qp C (vwG ps ln) (vwG ps ln).length).1+1) R (vwS C ps ln cur).1
def vwL(R C:Nat)(ps:List (List Int))(ln:List Int)(cur:Int):zw:=yr R C (vwT R C ps ln cur) (vwG ps ln) (vwG ps ln).length
theorem U7 {C:Int} {l:List Cl} {i:Nat}(h:i<l.length+1):elemAt ((Qt C l).map Qk) i=.agg [.int .i64 (qp C l i).1,.int .i64 (qp C l i).2]:=by
 rw[zp Qk _ _ (by simp[Qt];omega)]
 simp[Qt,Qk]
theorem zfR [Gi] {e:PV}(hT:yA e) {ps:List (List Int)} {ln:List Int}(h:JY ps ln)(cur:Int)(R C:Nat)(hR:1≤R∧R≤500)(hC:2≤C∧C≤1000):
  CR Tryz.prog 9 [] [.p e,.p (ZK ps ln cur),.p (.int .i64 R),.p (.int .i64 C)] [] (fun x rs=>x=.ag [.lp [15] 0,.p (.int .i64 ((vwS C ps ln cur).1-vwT R C ps ln cur)),.p (.int .i64 (vwS C ps ln cur).2)]∧rs=gpT [15] [15,1] R C (R*C) (vwL R C ps ln cur)):=by
 refine walk Tryz.func9 16 [] [] [] ?_
 have hG:=zhc h
 have hO:=zi2 ps ln
 have hk:=zhj h cur
 have gl:=zgi hT h cur
 have e1:=U7 (C:=C) (l:=vwG ps ln) (i:=(vwG ps ln).length) (by omega)
 have e2:=U7 (C:=C) (l:=vwG ps ln) (i:=vwK ps ln cur) (by omega)
 have b1:=vu (C:=C) (by omega) hO (vwG ps ln).length
 have b2:=vu (C:=C) (by omega) hO (vwK ps ln cur)
 have hs:(Qt C (vwG ps ln)).length=(vwG ps ln).length+1:=by simp[Qt]
 have tp:=zlz ((qp C (vwG ps ln) (vwG ps ln).length).1+1) R (qp C (vwG ps ln) (vwK ps ln cur)).1 (by omega) (by omega) (by omega)
 have tb:0≤xr ((qp C (vwG ps ln) (vwG ps ln).length).1+1) R (qp C (vwG ps ln) (vwK ps ln cur)).1∧xr ((qp C (vwG ps ln) (vwG ps ln).length).1+1) R (qp C (vwG ps ln) (vwK ps ln cur)).1≤1000000:=by
  unfold xr;omega
 have ly:=zma (vwG ps ln) R C _ hR hC (by omega) hO tb
 unfold vwL vwT vwS
 have w1:IntKind.i64.wrap ((qp C (vwG ps ln) (vwG ps ln).length).1+1)=(qp C (vwG ps ln) (vwG ps ln).length).1+1:=wrap64 (by omega) (by omega)
 generalize xr ((qp C (vwG ps ln) (vwG ps ln).length).1+1) R (qp C (vwG ps ln) (vwK ps ln cur)).1=T at tp tb ly⊢
 have w2:IntKind.i64.wrap ((qp C (vwG ps ln) (vwK ps ln cur)).1-T)=(qp C (vwG ps ln) (vwK ps ln cur)).1-T:=wrap64 (by omega) (by omega)
 have pl:=zaP (vwG ps ln) C (by omega) hC hO
 unfold ZK at gl⊢
 generalize vwK ps ln cur=k at*
 generalize vwG ps ln=G at*
 obtain⟨a,A,hA⟩:∃a A,(Qt C G).map Qk=a::A:=by
  cases hc:(Qt C G).map Qk with
  |nil=>have:=congrArg List.length hc;simp[hs]at this
  |cons a A=>exact⟨a,A,rfl⟩
 have hAl:A.length=G.length:=by
  have:=congrArg List.length hA
  simp[hs]at this
  omega
 rw[hA]at e1 e2
 unfold jv at pl
 rw[hA]at pl
 simp (maxSteps:=1000000) [go_sem,Tryz.f9]
 refine zq gl ?_
 simp (maxSteps:=1000000) [go_sem]
 refine zq pl ?_
 have hk':k<A.length+1:=by omega
 simp (maxSteps:=1000000) [go_sem,hAl,e1,e2,w1]
 refine⟨by omega,by omega,zq tp ?_⟩
 simp (maxSteps:=1000000) [go_sem]
 refine⟨⟨rfl,by simp[Tryz.f39]⟩,zd [([9],[15]),([10,1],[15,1])] ly (by simp[go_sem,zM]) ⟨by simp[go_sem],by simp[go_sem]⟩ (by simp[go_sem]) ?_⟩
 rintro _ _ ⟨rfl,rfl⟩
 simp (maxSteps:=1000000) [go_sem,gpT,qy,zG,w2]
 exact zu [[15],[15,1]] (.ag [.lp [15] 0,.p (.int .i64 ((qp C G k).1-T)),.p (.int .i64 (qp C G k).2)]) ⟨rfl,by simp⟩ (by simp[go_sem,zf,leA,leT,leP,leL]) ⟨rfl,by simp[go_sem,zG]⟩
end Go.Proofs.YtcgfdhdcihmeeaaGreat
end
section
namespace Go.Proofs.YtcgfdhdcihmeeaaGreat
open Go.AM
set_option maxHeartbeats 4000000
set_option maxRecDepth 10000
attribute [local irreducible] za
theorem zjG [Gi] {rs:List (Tok×List AV)} {rt:Tok→Bool} {t:Tok} {cs:List AV} {ps:List PV}(hl:zl rs t=some cs)(ht:rt t=false)(hn:ps.length=cs.length)
  (hp:∀g w,GS g w rs→∀(j:Nat) (x:AV) (p:PV) (v:Value),cs[j]?=some x→ps[j]?=some p→zb g w x v→zj (frz g w rt).fr w p v):zcv rt rs (.lp t 0) (.p (.pt cs.length (.agg ps))):=by
 intro g w v hG hv
 simp only[zb]at hv
 obtain⟨b,hk,rfl⟩:=hv
 obtain⟨cs',hl',hfr,arr,T,hb,hle,hc⟩:=hG.roots b t hk
 rw[hl]at hl';injection hl' with hl';subst hl'
 have hfb:(frz g w rt).fr b=arr.size:=by rw[yI hk ht];simp[frW,hb]
 have hP:zr (frz g w rt).fr w ps (arr.toList.take cs.length):=by
  refine zaC (by simp;omega) fun j p hj=>?_
  have hjc:j<cs.length:=by rw[←hn];exact(List.getElem?_eq_some_iff.1 hj).1
  obtain⟨u,hu,h1,hr⟩:=hc j cs[j] (List.getElem?_eq_getElem hjc)
  exact⟨u,by rw[List.getElem?_take,if_pos hjc];simpa using hu,h1,hp g w hG j cs[j] p u (List.getElem?_eq_getElem hjc) hj hr⟩
 have hOne:∀u∈arr.toList.take cs.length,u.oneCell'=true:=fun u hu=>by
  obtain⟨j,hj⟩:=List.mem_iff_getElem?.1 hu
  rw[List.getElem?_take]at hj
  split at hj
  ·rename_i hjc
   obtain⟨u',hu',h1,_⟩:=hc j cs[j] (List.getElem?_eq_getElem hjc)
   have:u'=u:=by
    have e:arr.toList[j]?=some u':=by simpa using hu'
    rw[e]at hj;injection hj
   rw[←this];exact h1
  ·cases hj
 simp only[zb,zj]
 refine⟨b,0,rfl,by rw[hfb];omega,.agg (arr.toList.take cs.length).toArray,⟨_,rfl,by simpa using hP⟩,by simp[Value.cells];omega,fun j c hj=>?_⟩
 have hj':(arr.toList.take cs.length)[j]?=some c:=by simpa[Value.cells]using hj
 refine⟨hOne c (List.mem_of_getElem? hj'),?_⟩
 rw[zV hb,Nat.zero_add]
 rw[List.getElem?_take]at hj'
 split at hj'
 ·simpa using hj'
 ·cases hj'
def yK(R C:Nat)(l:zw):PV:=.pt 3 (.agg [.int .i64 R,.int .i64 C,Za l])
theorem zbD [Gi] {rs:List (Tok×List AV)} {rt:Tok→Bool} {a b:Tok} {R C N:Nat} {l:zw}(ha:zl rs a=some [.p (.int .i64 R),.p (.int .i64 C),.la b 2 0 N])(hb:zl rs b=some (cw l))(ra:rt a=false)(rb:rt b=false)(hN:0<N)(hl:l.length=N):
  zcv rt rs (.lp a 0) (.p (yK R C l)):=by
 refine zjG (cs:=[.p (.int .i64 R),.p (.int .i64 C),.la b 2 0 N]) ha ra rfl ?_
 intro g w hG j x p v hx hp hv
 rcases j with _|_|_|j
 ·simp at hx hp;subst hx;subst hp;simpa only[zb,zj]using hv
 ·simp at hx hp;subst hx;subst hp;simpa only[zb,zj]using hv
 ·simp at hx hp;subst hx;subst hp
  refine VB (ext:=[]) hG hN ?_ rb (by simpa using hl) (Ku l) hv
  rw[hb,zfr,List.append_nil]
 ·simp at hx
def zjk(R C:Nat)(ps:List (List Int))(ln:List Int)(cur:Int):PV:=.agg [yK R C (vwL R C ps ln cur),.int .i64 ((vwS C ps ln cur).1-vwT R C ps ln cur),.int .i64 (vwS C ps ln cur).2]
theorem VA [Gi] {e:PV}(hT:yA e) {ps:List (List Int)} {ln:List Int}(h:JY ps ln)(cur:Int)(R C:Nat)(hR:1≤R∧R≤500)(hC:2≤C∧C≤1000):
  CR Tryz.prog 9 [] [.p e,.p (ZK ps ln cur),.p (.int .i64 R),.p (.int .i64 C)] [] (is (.p (zjk R C ps ln cur))):=by
 refine(zfR hT h cur R C hR hC).freeze (fun _=>false) rfl ?_
 rintro x rs ⟨rfl,rfl⟩
 refine⟨.p (zjk R C ps ln cur),fun g w v hG hv=>?_,rfl,rfl⟩
 have hRC:0<R*C:=Nat.mul_pos (by omega) (by omega)
 have hf:=zbD (rt:=fun _=>false) (rs:=gpT [15] [15,1] R C (R*C) (vwL R C ps ln cur)) (a:=[15]) (b:=[15,1]) rfl rfl rfl rfl hRC (xg _ _ _ _ _)
 simp only[zb,zm]at hv
 obtain⟨vs,rfl,h1,u1,l1,e1,r1,u2,l2,rfl,r2,u3,l3,rfl,r3,rfl⟩:=hv
 have:=hf g w u1 hG (by simpa only[zb]using r1)
 rw[uw]at this⊢
 unfold zjk
 simp only[zj,zr]
 refine⟨vs,rfl,u1,_,e1,h1 u1 (by rw[e1];simp),this,u2,_,rfl,h1 u2 (by rw[e1];simp),by simpa only[zb,zj]using r2,u3,_,rfl,h1 u3 (by rw[e1];simp),by simpa only[zb,zj]using r3,rfl⟩
end Go.Proofs.YtcgfdhdcihmeeaaGreat
end
section
namespace Go.Proofs.YtcgfdhdcihmeeaaGreat
open Go.AM
set_option maxHeartbeats 4000000
set_option maxRecDepth 10000
attribute [local irreducible] za
theorem zbn [Gi](R C:Nat)(l:zw):CR Tryz.prog 64 [] [.p (yK R C l)] [] (is (.tup [.p (.int .i64 R),.p (.int .i64 C)])):=by
 refine walk Tryz.func64 4 [] [3] [] ?_
 simp (maxSteps:=1000000) [go_sem,Tryz.f64,yK]
 exact ret
theorem zlW [Gi](R C:Nat)(l:zw)(r c:Int):CR Tryz.prog 66 [] [.p (yK R C l),.p (.int .i64 r),.p (.int .i64 c)] [] (is (.p (.bool (inB R C r c)))):=by
 refine walk Tryz.func66 7 [] [] [] ?_
 unfold inB
 by_cases h1:0≤r<;>by_cases h2:r< (R:Int)<;>by_cases h3:0≤c<;>by_cases h4:c< (C:Int)<;>
 ·simp (maxSteps:=1000000) [go_sem,Tryz.f66,yK,h1,h2,h3,h4]
  exact ret
theorem zac [Gi](l:zw)(h0:l≠ [])(hn:l.length≤1000000):CR Tryz.prog 67 [] [.p (Za l)] [] (is (.p (Za l))):=by
 cases l with
 |nil=>exact absurd rfl h0
 |cons x l=>
  refine walk Tryz.func67 3 [] [] [] ?_
  simp only[List.length_cons]at hn
  simp (maxSteps:=1000000) [go_sem,Tryz.f67,Za]
  refine⟨by omega,?_⟩
  exact ret (hx:=by simp[go_sem,zf,leA,leT,leP])
theorem zai [Gi](R C:Nat)(l:zw)(r:Nat)(hR:R≤500)(hC:1≤C∧C≤1000)(hl:l.length=R*C)(hr:r<R):CR Tryz.prog 34 [] [.p (yK R C l),.p (.int .i64 r)] [] (is (.p (Za (zk C l r)))):=by
 have hin:=zlW R C l r 0
 have hb:inB R C r 0=true:=by unfold inB;simp;omega
 rw[hb]at hin
 have hlen:=ZW hl hr
 have hcl:=zac (zk C l r) (fun e=>by rw[e]at hlen;simp at hlen;omega) (by omega)
 have hm:(r+1)*C≤R*C:=Nat.mul_le_mul_right C hr
 have hRC:R*C≤500000:=Nat.mul_le_mul hR hC.2
 have hrC:(r+1)*C=r*C+C:=by rw[Nat.add_mul];omega
 have w1:IntKind.i64.wrap ((r:Int)*C)=((r*C:Nat):Int):=by rw[Int.natCast_mul];exact wrap64 (by rw[←Int.natCast_mul];omega) (by rw[←Int.natCast_mul];omega)
 have w2:IntKind.i64.wrap ((r:Int)+1)=((r+1:Nat):Int):=zD (by omega)
 have e3:((r:Int)+1)*C=(((r+1)*C:Nat):Int):=by rw[Int.natCast_mul];rfl
 have e1:(r:Int)*C=((r*C:Nat):Int):=(Int.natCast_mul _ _).symm
 have w3:IntKind.i64.wrap (((r:Int)+1)*C)=((r:Int)+1)*C:=wrap64 (by omega) (by omega)
 have hcut:cut (l.map clP) ((r:Int)*C) (((r:Int)+1)*C)=(zk C l r).map clP:=by
  rw[e1,e3,cut,zk,List.map_take,List.map_drop]
  simp only[Int.toNat_natCast]
  try rw[List.drop_take]
  rw[show(r+1)*C-r*C=C by omega]
 refine walk Tryz.func34 5 [] [] [] ?_
 unfold yK at hin⊢
 simp (maxSteps:=1000000) [go_sem,Tryz.f34]
 refine zq hin ?_
 simp (maxSteps:=1000000) [go_sem,w1,w2,w3,hcut]
 refine⟨⟨by omega,by omega,by omega⟩,zq hcl ?_⟩
 simp (maxSteps:=1000000) [go_sem]
 exact ret
end Go.Proofs.YtcgfdhdcihmeeaaGreat
end
section
namespace Go.Proofs.YtcgfdhdcihmeeaaGreat
open Go.AM
set_option maxHeartbeats 4000000
set_option maxRecDepth 10000
attribute [local irreducible] za
def dF(a b:zw):Nat→Int
 |0=> -1
 |i+1=>if dF a b i<0∧a.getD i blk≠b.getD i blk then i else dF a b i
def dL(b:zw):Nat→Int
 |0=>0
 |i+1=>if b.getD i blk≠blk then i+1 else dL b i
def dT(b:zw)(f:Nat):Nat→List UInt8
 |0=>[]
 |j+1=>dT b f j++(b.getD (f+j) blk).t
theorem zkX(a b:zw)(i:Nat): -1≤dF a b i∧dF a b i<i∨i=0∧dF a b i= -1:=by
 induction i with
 |zero=>exact .inr ⟨rfl,rfl⟩
 |succ i ih=>
  left
  rw[dF]
  split<;>omega
theorem znY(b:zw)(i:Nat):0≤dL b i∧dL b i≤i:=by
 induction i with
 |zero=>exact⟨Int.le_refl _,Int.le_refl _⟩
 |succ i ih=>
  rw[dL]
  split<;>omega
theorem zoE {l:zw} {i:Nat}(h:i<l.length):(l.map clP)[i]?=some (.agg [.str l[i].t,.int .i64 l[i].w]):=by
 rw[List.getElem?_map,List.getElem?_eq_getElem h];rfl
theorem kT {l:zw} {i:Nat}(h:i<l.length):elemAt (l.map clP) i=.agg [.str l[i].t,.int .i64 l[i].w]:=by
 rw[elemAt,List.getD_eq_getElem?_getD,zoE h];rfl
def zkj(r:Int)(n:Nat)(a b:zw)(i:Nat)(f l m:Int)(ts:List (Nat×AV)):St:=
 {n:=85,nv:=13,vs:=[(1,.p (.sl 2 (a.map clP))),(2,.p (.sl 2 (b.map clP))),(6,.lp [6] 0),(7,.p (.bool false)),(8,.lp [8] 0),(9,.p (.int .i64 l)),(10,.p (.int .i64 m)),(16,.p (.int .i64 n)),(17,.p (.int .i64 i)),(11,.p (.int .i64 i))],ts:=ts,rs:=[([6],[.p (.int .i64 0),.p (.int .i64 0),.p (.int .i64 0),.p (.str []),.p (.bool false)]),([8],[.p (.int .i64 r),.p (.int .i64 f),.p (.int .i64 0),.p (.str []),.p (.bool false)])],ex:=[16,17]}
def VY(r:Int)(a b:zw)(n:Nat):PV:=
 if dF a b n<0 then .agg [.int .i64 0,.int .i64 0,.int .i64 0,.str [],.bool false]
 else .agg [.int .i64 r,.int .i64 (dF a b n),.int .i64 (max (dL b n) (dF a b n)),.str (dT b (dF a b n).toNat (max (dL b n) (dF a b n)-dF a b n).toNat),.bool (decide (max (dL b n) (dF a b n)<dL a n))]
theorem zmn {b:zw}(hb:∀c∈b,c.t.length≤140737488355328)(f j:Nat):(dT b f j).length≤j*140737488355328:=by
 induction j with
 |zero=>simp[dT]
 |succ j ih=>
  rw[dT,List.length_append]
  have:(b.getD (f+j) blk).t.length≤140737488355328:=by
   rw[List.getD_eq_getElem?_getD]
   rcases h:b[f+j]? with _|c
   ·decide
   ·exact hb c (List.mem_of_getElem? h)
  omega
theorem zkc [Gi](r:Int)(n:Nat)(a b:zw)(h1:a.length=n)(h2:b.length=n)(hb:n≤1000)(ht:0≤dF a b n→∀c∈b,c.t.length≤140737488355328):
  CR Tryz.prog 65 [] [.p (.int .i64 r),.p (Za a),.p (Za b)] [] (is (.tup [.p (VY r a b n),.p (.bool (decide (0≤dF a b n)))])):=by
 refine zR [6,8,10,19] mixed 13 [16,17] Tryz.func65 rfl (by kernel_rfl) rfl (by simp) (by simp) ?_
 simp (maxSteps:=1000000) (disch:=omega) [go_sem,Tryz.f65]
 refine Z7 (fun i:Nat=>i≤n) (fun i=>{n:=85,nv:=13,vs:=[(1,.p (.sl 2 (a.map clP))),(2,.p (.sl 2 (b.map clP))),(6,.lp [6] 0),(7,.p (.bool false)),(8,.lp [8] 0),(9,.p (.int .i64 (dL b i))),(10,.p (.int .i64 (dL a i))),(16,.p (.int .i64 n)),(17,.p (.int .i64 i))],ts:=[],rs:=[([6],[.p (.int .i64 0),.p (.int .i64 0),.p (.int .i64 0),.p (.str []),.p (.bool false)]),([8],[.p (.int .i64 r),.p (.int .i64 (dF a b i)),.p (.int .i64 0),.p (.str []),.p (.bool false)])],ex:=[16,17]}) (fun i=>n-i) 0 (by simp) (by simp[go_sem,LeS,leV,leR,leA,leL,dF,dL,h2]) ?_
 intro i hi
 simp (maxSteps:=1000000) (disch:=omega) [go_sem]
 refine zt (fun h=>?_) (fun h=>?_)
 ·have hi1:i<a.length:=by omega
  have hi2:i<b.length:=by omega
  have hin:i<n:=by omega
  have ea:=kT hi1
  have eb:=kT hi2
  have eF:dF a b (i+1)=if dF a b i<0∧a[i]≠b[i]then(i:Int)else dF a b i:=by rw[dF,qM hi1,qM hi2]
  have eL:∀l:zw,∀h:i<l.length,dL l (i+1)=if l[i]≠blk then(i:Int)+1 else dL l i:=fun l h=>by rw[dL,qM h]
  have eA:=eL a hi1
  have eB:=eL b hi2
  clear eL
  simp (maxSteps:=1000000) (disch:=omega) [go_sem,ea,eb,h1,h2,hin]
  refine xO (ι:=List (Nat×AV)) (fun ts=>zkj r n a b i (dF a b (i+1)) (dL b i) (dL a i) ts) (qc (fun h3=>?_) (fun h3=>?_)) ?_
  ·have hc:dF a b i<0∧a[i]≠b[i]:=by
    refine⟨by simp at h3;exact h3.1,fun e=>?_⟩
    rw[e]at h3;simp at h3
   rw[if_pos hc]at eF
   rw[eF]
   simp (maxSteps:=1000000) (disch:=omega) [go_sem]
   exact kg _ rfl
  ·have hc:¬(dF a b i<0∧a[i]≠b[i]):=by
    rintro⟨h4,h5⟩
    apply h5
    rw[←zeD]
    simpa[h4]using h3
   rw[if_neg hc]at eF
   rw[eF]
   simp (maxSteps:=1000000) (disch:=omega) [go_sem]
   exact kg _ rfl
  ·clear eF
   intro ts
   simp (maxSteps:=1000000) (disch:=omega) [go_sem,eb,h2,hin,zkj]
   refine Zs (.p (clP blk)) rfl rfl (fun _=>Zt 82 jg rfl ⟨rfl,by simp[Tryz.f82]⟩ ⟨by simp[go_sem],by simp[go_sem]⟩) ?_
   simp (maxSteps:=1000000) (disch:=omega) [go_sem,clP,blk]
   refine xO (ι:=List (Nat×AV)) (fun ts=>zkj r n a b i (dF a b (i+1)) (dL b (i+1)) (dL a i) ts) (qc (fun h3=>?_) (fun h3=>?_)) ?_
   ·have hc:b[i]≠blk:=fun e=>by
     rw[e]at h3;simp[blk]at h3
    rw[if_pos hc]at eB
    rw[eB]
    simp (maxSteps:=1000000) (disch:=omega) [go_sem,wrap64]
    exact kg _ rfl
   ·have hc:b[i]=blk:=by
     rw[←zeD];simpa[blk]using h3
    rw[if_neg (by simp[hc])]at eB
    rw[eB]
    simp (maxSteps:=1000000) (disch:=omega) [go_sem]
    exact kg _ rfl
   ·clear eB
    intro ts
    simp (maxSteps:=1000000) (disch:=omega) [go_sem,ea,h1,hin,zkj]
    refine Zs (.p (clP blk)) rfl rfl (fun _=>Zt 82 jg rfl ⟨rfl,by simp[Tryz.f82]⟩ ⟨by simp[go_sem],by simp[go_sem]⟩) ?_
    simp (maxSteps:=1000000) (disch:=omega) [go_sem,clP,blk]
    refine qc (fun h3=>?_) (fun h3=>?_)
    ·have hc:a[i]≠blk:=fun e=>by
      rw[e]at h3;simp[blk]at h3
     rw[if_pos hc]at eA
     simp (maxSteps:=1000000) (disch:=omega) [go_sem,wrap64]
     refine zg (i+1) (by omega) (by simp[go_sem,LeS,leV,leR,leA,leL,eA]) (by omega)
    ·have hc:a[i]=blk:=by
      rw[←zeD];simpa[blk]using h3
     rw[if_neg (by simp[hc])]at eA
     simp (maxSteps:=1000000) (disch:=omega) [go_sem,wrap64]
     refine zg (i+1) (by omega) (by simp[go_sem,LeS,leV,leR,leA,leL,eA]) (by omega)
 ·obtain rfl:i=n:=by omega
  simp (maxSteps:=1000000) (disch:=omega) [go_sem]
  refine zt (fun h3=>?_) (fun h3=>?_)
  ·have h4:¬(0≤dF a b i):=by omega
   simp (maxSteps:=1000000) (disch:=omega) [go_sem]
   exact zh _ rfl (by simp[go_sem,zf,leA,VY,h3,h4]) ⟨rfl,rfl⟩
  ·have h4:0≤dF a b i:=by omega
   have b1:=zkX a b i
   have b2:=znY b i
   obtain⟨F,hF⟩:∃F:Nat,dF a b i=F:=⟨(dF a b i).toNat,by omega⟩
   obtain⟨T,hT⟩:∃T:Nat,max (dL b i) (dF a b i)=T:=⟨(max (dL b i) (dF a b i)).toNat,by omega⟩
   have hFT:F≤T∧T≤i:=by omega
   have hd:VY r a b i=.agg [.int .i64 r,.int .i64 F,.int .i64 T,.str (dT b F (T-F)),.bool (decide ((T:Int)<dL a i))]:=by
    have e1:((T:Int)- (F:Int)).toNat=T-F:=by omega
    rw[VY,if_neg h3,hT,hF,e1];rfl
   rw[hd]
   have ht':=ht h4
   have h5:decide (0≤dF a b i)=true:=by simpa using h4
   rw[h5]
   rw[hF]at hT
   clear hd h3 h4 h5 b1 b2
   simp (maxSteps:=1000000) (disch:=omega) [go_sem,hT,hF]
   refine Z7 (fun j:Nat=>F+j≤T) (fun j=>{n:=85,nv:=13,vs:=[(2,.p (.sl 2 (b.map clP))),(6,.lp [6] 0),(7,.p (.bool false)),(8,.lp [8] 0),(10,.p (.int .i64 (dL a i))),(12,.p (.int .i64 (F+j:Nat)))],ts:=[],rs:=[([6],[.p (.int .i64 0),.p (.int .i64 0),.p (.int .i64 0),.p (.str []),.p (.bool false)]),([8],[.p (.int .i64 r),.p (.int .i64 F),.p (.int .i64 T),.p (.str (dT b F j)),.p (.bool false)])],ex:=[16,17]}) (fun j=>T-F-j) 0 (by omega) (by simp[go_sem,LeS,leV,leR,leA,leL,dT]) ?_
   intro j hj
   simp (maxSteps:=1000000) (disch:=omega) [go_sem]
   refine zt (fun h3=>?_) (fun h3=>?_)
   ·have hj2:F+j<b.length:=by omega
    have eb:=kT hj2
    have eT:dT b F (j+1)=dT b F j++b[F+j].t:=by rw[dT,qM hj2]
    have e2:((F:Int)+(j:Int)).toNat=F+j:=by omega
    simp (maxSteps:=1000000) (disch:=omega) [go_sem,wrap64,eb,h2,e2]
    have hk:=zmn ht' F j
    have hk2:=ht' b[F+j] (List.getElem_mem hj2)
    refine⟨by omega,by omega,?_⟩
    refine zg (j+1) (by omega) (by simp[go_sem,LeS,leV,leR,leA,leL,eT];omega) (by omega)
   ·obtain rfl:j=T-F:=by omega
    simp (maxSteps:=1000000) (disch:=omega) [go_sem]
    exact zh _ rfl (by simp[go_sem,zf,leA]) ⟨rfl,rfl⟩
def dRs(C:Nat)(l l':zw):Nat→List PV
 |0=>[]
 |k+1=>if 0≤dF (zk C l k) (zk C l' k) C then dRs C l l' k++[VY k (zk C l k) (zk C l' k) C]else dRs C l l' k
theorem zkg(C:Nat)(l l':zw)(k:Nat):(dRs C l l' k).length≤k:=by
 induction k with
 |zero=>simp[dRs]
 |succ k ih=>
  rw[dRs]
  split
  ·simp;omega
  ·omega
theorem zgL [Gi](R C:Nat)(l l':zw)(hR:R≤500)(hC:1≤C∧C≤1000)(hl:l.length=R*C)(hl':l'.length=R*C)
  (ht:∀k,k<R→0≤dF (zk C l k) (zk C l' k) C→∀c∈zk C l' k,c.t.length≤140737488355328):
  CR Tryz.prog 33 [] [.p (yK R C l),.p (yK R C l')] [] (is (.p (.sl 5 (dRs C l l' R)))):=by
 refine walk Tryz.func33 13 [31,32] [] [] ?_
 simp (maxSteps:=1000000) [go_sem,Tryz.f33]
 refine zq (zbn R C l) ?_
 simp (maxSteps:=1000000) [go_sem]
 refine zq (zbn R C l') ?_
 simp (maxSteps:=1000000) [go_sem]
 refine loop (fun i:Nat=>i≤R) (fun i=>[(9,.os [9] 5 (dRs C l l' i)),(32,.p (.int .i64 i))]) (fun _=>[]) (fun i=>R-i) 0 (Nat.zero_le _) (fun i hi=>?_) (h0:=by simp[go_sem,LeS,leV,leR,leA,leL,zi,leT,leP,dRs])
 by_cases hi':i<R
 ·have hr1:=zai R C l i hR hC hl hi'
  have hr2:=zai R C l' i hR hC hl' hi'
  have hd:=zkc i C (zk C l i) (zk C l' i) (ZW hl hi') (ZW hl' hi') (by omega) (ht i hi')
  have hdl:=zkg C l l' i
  have hdS:dRs C l l' (i+1)=if 0≤dF (zk C l i) (zk C l' i) C then dRs C l l' i++[VY i (zk C l i) (zk C l' i) C]else dRs C l l' i:=rfl
  have w1:IntKind.i64.wrap ((i:Int)+1)=((i+1:Nat):Int):=zD (by omega)
  generalize zk C l i=a at*
  generalize zk C l' i=b at*
  simp (maxSteps:=1000000) [go_sem,hi']
  refine zq hr1 ?_
  simp (maxSteps:=1000000) [go_sem]
  refine zq hr2 ?_
  simp (maxSteps:=1000000) [go_sem]
  obtain⟨x0,x1,x2,x3,x4,hx⟩:∃x0 x1 x2 x3 x4,VY i a b C=.agg [x0,x1,x2,x3,x4]:=by
   unfold VY
   split
   ·exact⟨_,_,_,_,_,rfl⟩
   ·exact⟨_,_,_,_,_,rfl⟩
  rw[hx]at hd hdS
  refine zq hd ?_
  by_cases hc:0≤dF a b C
  ·rw[if_pos hc]at hdS
   simp (maxSteps:=1000000) [go_sem,w1,hc]
   refine⟨by omega,?_⟩
   exact next (i+1) hi' (h3:=by show R- (i+1)<R-i;omega) (h2:=by simp[go_sem,LeS,leV,leR,leA,leL,zi,leT,leP,hdS])
  ·rw[if_neg hc]at hdS
   simp (maxSteps:=1000000) [go_sem,w1,hc]
   exact next (i+1) hi' (h3:=by show R- (i+1)<R-i;omega) (h2:=by simp[go_sem,LeS,leV,leR,leA,leL,zi,leT,leP,hdS])
 ·obtain rfl:i=R:=by omega
  simp (maxSteps:=1000000) [go_sem]
  exact ret (hx:=by simp[go_sem,zf,leA,leT,leP])
end Go.Proofs.YtcgfdhdcihmeeaaGreat
end
section
namespace Go.Proofs.YtcgfdhdcihmeeaaGreat
open Go.AM
set_option maxHeartbeats 4000000
set_option maxRecDepth 10000
attribute [local irreducible] za
theorem zbg:∀(s:List Nat) (d:Dk),(Qg d s).length≤2*s.length+1
 | [],d=>by unfold Qg;split<;>simp
 |b::s,d=>by
  have h1:=zcd d b
  have h2:=zbg s (ZJ d b).1
  rw[Vz,List.length_append,List.length_cons];omega
def v8(c:Cl):Nat:=(Qg dz (nb c.t)).length
theorem U1(c:Cl):v8 c≤2*c.t.length+1:=by
 have:=zbg (nb c.t) dz
 unfold v8;simp[nb]at this⊢;omega
def scN(b:zw):Nat:=(b.map v8).sum
theorem XC(b:zw)(h:∀c∈b,c.t.length≤100000):scN b≤200001*b.length:=by
 induction b with
 |nil=>simp[scN]
 |cons c b ih=>
  have h1:=U1 c
  have h2:=h c (by simp)
  have h3:=ih fun x hx=>h x (by simp[hx])
  unfold scN at h3⊢
  rw[List.map_cons,List.sum_cons,List.length_cons];omega
theorem zbR {b:zw} {i:Nat}(h:i<b.length):scN (b.take (i+1))=scN (b.take i)+v8 b[i]:=by
 unfold scN
 rw[List.take_add_one,List.getElem?_eq_getElem h,List.map_append,List.sum_append]
 simp
def chR(C:Nat)(l l':zw):Nat→List Nat
 |0=>[]
 |k+1=>if 0≤dF (zk C l k) (zk C l' k) C then chR C l l' k++[k]else chR C l l' k
theorem Xp {C:Nat} {l l':zw}:∀{k r:Nat},r∈chR C l l' k→r<k∧0≤dF (zk C l r) (zk C l' r) C
 |0,r,h=>by simp[chR]at h
 |k+1,r,h=>by
  unfold chR at h
  split at h
  ·rename_i hc
   rcases List.mem_append.1 h with h|h
   ·have:=Xp h;exact⟨by omega,this.2⟩
   ·have e:r=k:=by simpa using h
    subst e;exact⟨by omega,hc⟩
  ·have:=Xp h;exact⟨by omega,this.2⟩
theorem WT(C:Nat)(l l':zw):∀k,(chR C l l' k).length≤k
 |0=>by simp[chR]
 |k+1=>by
  have:=WT C l l' k
  unfold chR;split<;>simp<;>omega
theorem zeE(C:Nat)(l l':zw):∀k,dRs C l l' k=(chR C l l' k).map fun(r:Nat)=>VY r (zk C l r) (zk C l' r) C
 |0=>rfl
 |k+1=>by
  unfold dRs chR
  split<;>simp[zeE C l l' k]
def wj(C:Nat)(l l':zw)(r:Nat):zw:=(zk C l' r).drop (dF (zk C l r) (zk C l' r) C).toNat
def kh(C:Nat)(l l':zw)(L:List Nat):Nat:=(L.map fun r=>scN (wj C l l' r)).sum
theorem zf1 {C:Nat} {l l':zw} {L:List Nat} {j:Nat}(h:j<L.length):kh C l l' (L.take (j+1))=kh C l l' (L.take j)+scN (wj C l l' L[j]):=by
 unfold kh
 rw[List.take_add_one,List.getElem?_eq_getElem h,List.map_append,List.sum_append]
 simp
theorem XL {C:Nat} {l l':zw} {K:Nat}:∀{L:List Nat},(∀r∈L,scN (wj C l l' r)≤K)→kh C l l' L≤K*L.length
 | [],_=>by simp[kh]
 |r::L,h=>by
  have h1:=h r (by simp)
  have h2:=XL (L:=L) fun x hx=>h x (by simp[hx])
  unfold kh at h2⊢
  rw[List.map_cons,List.sum_cons,List.length_cons,Nat.mul_add];omega
theorem zaO [Gi](R C:Nat)(l l':zw)(hR:R≤500)(hC:1≤C∧C≤1000)(hl:l.length=R*C)(hl':l'.length=R*C)(ht:∀c∈l',c.t.length≤100000):
  CR Tryz.prog 8 [] [.p (yK R C l),.p (yK R C l')] [] (is (.p (.agg [.int .i64 (chR C l l' R).length,.int .i64 (kh C l l' (chR C l l' R):Nat)]))):=by
 have hrow:∀k,∀c∈zk C l' k,c.t.length≤100000:=fun k c hc=>ht c (List.mem_of_mem_drop (List.mem_of_mem_take hc))
 have hr:=zgL R C l l' hR hC hl hl' fun k hk _ c hc=>by have:=hrow k c hc;omega
 rw[zeE]at hr
 have hLl:=WT C l l' R
 have hLm:∀r∈chR C l l' R,r<R∧0≤dF (zk C l r) (zk C l' r) C:=fun r hx=>Xp hx
 generalize chR C l l' R=L at hr hLl hLm⊢
 have hK:∀r∈L,scN (wj C l l' r)≤200001000:=fun r hr=>by
  have h1:=XC (wj C l l' r) fun c hc=>hrow r c (List.mem_of_mem_drop hc)
  have h2:(wj C l l' r).length≤C:=by
   unfold wj;rw[List.length_drop];have:=vq (C:=C) (l:=l') (k:=r);omega
  omega
 refine walk Tryz.func8 10 [12,13,14,28,29,30] [6,9] [] ?_
 simp (maxSteps:=1000000) [go_sem,Tryz.f8]
 refine zq hr ?_
 simp (maxSteps:=1000000) [go_sem]
 refine loop (fun j:Nat=>j≤L.length) (fun j=>[(14,.p (.int .i64 j)),(28,.z8),(29,.z8),(30,.z8)]) (fun j=>[([5],[.p (.int .i64 j),.p (.int .i64 (kh C l l' (L.take j):Nat))])]) (fun j=>L.length-j) 0 (Nat.zero_le _) (fun j hj=>?_) (h0:=by simp[go_sem,LeS,leV,leR,leA,leL,zi,leT,leP,kh])
 by_cases hjl:j<L.length
 ·have hm:=hLm _ (List.getElem_mem hjl)
  have hk:=hK _ (List.getElem_mem hjl)
  have hst:=zf1 (C:=C) (l:=l) (l':=l') hjl
  have hle:=XL (C:=C) (l:=l) (l':=l') (L:=L.take j) fun r hx=>hK r (List.mem_of_mem_take hx)
  have htl:(L.take j).length≤500:=by rw[List.length_take];omega
  have em:elemAt (L.map fun(r:Nat)=>VY r (zk C l r) (zk C l' r) C) j=VY (L[j]:Nat) (zk C l L[j]) (zk C l' L[j]) C:=zp _ L j hjl
  obtain⟨r,hr'⟩:∃r,r=L[j]:=⟨_,rfl⟩
  rw[←hr']at hm hk hst em
  have hrw:=zai R C l' r hR hC hl' hm.1
  have hln:=ZW hl' hm.1
  obtain⟨F,hF⟩:∃F:Nat,dF (zk C l r) (zk C l' r) C=F:=⟨(dF (zk C l r) (zk C l' r) C).toNat,by omega⟩
  have hFb:F<C:=by
   have:=zkX (zk C l r) (zk C l' r) C
   omega
  have hrs:wj C l l' r=(zk C l' r).drop F:=by unfold wj;rw[hF,Int.toNat_natCast]
  rw[hrs]at hk hst
  have hcl:∀c∈(zk C l' r).drop F,c.t.length≤100000:=fun c hc=>hrow r c (List.mem_of_mem_drop hc)
  obtain⟨x2,x3,x4,hx⟩:∃x2 x3 x4,VY (r:Nat) (zk C l r) (zk C l' r) C=.agg [.int .i64 r,.int .i64 F,x2,x3,x4]:=by
   unfold VY
   rw[if_neg (by omega),hF]
   exact⟨_,_,_,rfl⟩
  rw[hx]at em
  have hdl:((zk C l' r).drop F).length=C-F:=by rw[List.length_drop,hln]
  have hcut:cut ((zk C l' r).map clP) (F:Int) (C:Int)=((zk C l' r).drop F).map clP:=by
   rw[cut,List.map_drop,Int.toNat_natCast,Int.toNat_natCast,List.take_of_length_le (by simp[hln])]
  generalize zk C l' r=b at hrw hln hk hst hcl hdl hcut
  have w1:IntKind.i64.wrap ((j:Int)+1)=((j+1:Nat):Int):=zD (by omega)
  simp (maxSteps:=1000000) [go_sem,hjl,em,w1]
  refine ZB 34 hrw ?_
  simp (maxSteps:=1000000) [go_sem,hln,hcut]
  refine⟨by omega,?_⟩
  rw[←List.map_drop,←hdl]
  generalize b.drop F=D at hk hst hcl hdl⊢
  have hDl:D.length≤1000:=by omega
  refine loop (fun c:Nat=>c≤D.length) (fun c=>[(30,.p (.int .i64 c))]) (fun c=>[([5],[.p (.int .i64 ((j:Int)+1)),.p (.int .i64 ((kh C l l' (L.take j)+scN (D.take c):Nat):Int))])]) (fun c=>D.length-c) 0 (Nat.zero_le _) (fun c hc=>?_) (h0:=by simp[go_sem,LeS,leV,leR,leA,leL,zi,leT,leP,scN])
  by_cases hcD:c<D.length
  ·have hx:=hcl _ (List.getElem_mem hcD)
   have dc:=zgd D[c].t hx
   have dn:=U1 D[c]
   have em2:=JH hcD
   have hst2:=zbR hcD
   have dl:(zK (Qg dz (nb D[c].t))).length=v8 D[c]:=by simp[zK,v8]
   have hsl:=XC (D.take c) fun x hx=>hcl x (List.mem_of_mem_take hx)
   have hst3:(D.take c).length≤1000:=by rw[List.length_take];omega
   generalize D[c]=y at hx dc dn em2 hst2 dl
   generalize Qg dz (nb y.t)=z at dc dl
   have w2:IntKind.i64.wrap ((c:Int)+1)=((c+1:Nat):Int):=zD (by omega)
   have w3:IntKind.i64.wrap ((kh C l l' (L.take j):Int)+(scN (D.take c):Int)+(v8 y:Int))=(kh C l l' (L.take j):Int)+(scN (D.take (c+1)):Int):=by
    rw[hst2]
    have:200001000*(L.take j).length≤200001000*500:=Nat.mul_le_mul_left _ htl
    have h7:200001*(D.take c).length≤200001*1000:=Nat.mul_le_mul_left _ hst3
    rw[wrap64 (by omega) (by omega)];omega
   simp (maxSteps:=1000000) [go_sem,hcD,em2]
   refine ZB 35 dc ?_
   simp (maxSteps:=1000000) [go_sem,dl,w2,w3]
   exact next (c+1) hcD (h3:=by show D.length- (c+1)<D.length-c;omega) (h2:=by simp[go_sem,LeS,leV,leR,leA,leL,zi,leT,leP])
  ·obtain rfl:c=D.length:=by omega
   simp (maxSteps:=1000000) [go_sem,w1]
   exact next (j+1) hjl (h3:=by show L.length- (j+1)<L.length-j;omega) (h2:=by simp[go_sem,LeS,leV,leR,leA,leL,zi,leT,leP,hst])
 ·obtain rfl:j=L.length:=by omega
  rw[List.take_length]
  simp (maxSteps:=1000000) [go_sem]
  exact ret (hx:=by simp[go_sem,zf,leA,leT,leP])
end Go.Proofs.YtcgfdhdcihmeeaaGreat
end
section
namespace Go.Proofs.YtcgfdhdcihmeeaaGreat
open Go.AM
set_option maxHeartbeats 4000000
set_option maxRecDepth 10000
theorem zkq:chR 7 (List.replicate (1*7) blk) (vwL 1 7 [] [62,32,97] 0) 1=[0]:=by decide+kernel
theorem zmw:kh 7 (List.replicate (1*7) blk) (vwL 1 7 [] [62,32,97] 0) [0]=7:=by decide+kernel
theorem zhZ:∀c∈vwL 1 7 [] [62,32,97] 0,c.t.length≤100000:=by decide+kernel
theorem zl6:(vwL 1 7 [] [62,32,97] 0).length=1*7:=xg _ _ _ _ _
theorem znz:JY [] [62,32,97]:=⟨by simp,by simp,by simp,by simp[zY]⟩
attribute [local irreducible] za vwL
theorem ziK [Gi](R C:Nat)(hR:1≤R∧R≤500)(hC:2≤C∧C≤1000):CR Tryz.prog 47 [] [.p (.int .i64 R),.p (.int .i64 C)] [] (is (.p (yK R C (List.replicate (R*C) blk)))):=by
 refine(zev R C hR hC).freeze (fun _=>false) rfl ?_
 rintro x rs ⟨rfl,rfl⟩
 have hRC:0<R*C:=Nat.mul_pos (by omega) (by omega)
 exact⟨.p (yK R C (List.replicate (R*C) blk)),zbD (rt:=fun _=>false) (a:=[0]) (b:=[1]) rfl rfl rfl rfl hRC (by simp),rfl,rfl⟩
theorem wP [Gi](n m:Int)(hn:0≤n∧n≤1000000)(hm:0≤m∧m≤1000000000000):CR Tryz.prog 14 [] [.p (.agg [.int .i64 n,.int .i64 m])] [] (is (.p (.int .i64 (32+16*n+4*m)))):=by
 refine walk Tryz.func14 3 [] [] [] ?_
 have w1:IntKind.i64.wrap (16*n)=16*n:=wrap64 (by omega) (by omega)
 have w2:IntKind.i64.wrap (32+16*n)=32+16*n:=wrap64 (by omega) (by omega)
 have w3:IntKind.i64.wrap (4*m)=4*m:=wrap64 (by omega) (by omega)
 have w4:IntKind.i64.wrap (32+16*n+4*m)=32+16*n+4*m:=wrap64 (by omega) (by omega)
 simp (maxSteps:=1000000) [go_sem,Tryz.f14,w1,w2,w3,w4]
 exact ret
theorem zjX [Gi] {P:Program} {f:FuncId} {pin:List Tok} {bs as':List AV} {rs:List (Tok×List AV)} {R:AV→List (Tok×List AV)→Prop}(h:CR P f pin as' rs R)(hle:∀(g:Gh) w vs,zm g w bs vs→zm g w as' vs):CR P f pin bs rs R:=fun w g vs h1 h2=>h w g vs (hle g w vs h1) h2
theorem ziX(e:PV)(ln:List Int)(cur:Int)(A:List AV)(g:Gh)(w:World)(vs:List Value)(h:zm g w (.p e::.p (.agg [.opq (.slice none 0 0),zA ln,.int .i64 cur])::A) vs):zm g w (.p e::.p (ZK [] ln cur)::A) vs:=by
 simp only[zm]at h⊢
 obtain⟨v1,l1,rfl,r1,v2,l2,rfl,r2,r3⟩:=h
 refine⟨v1,_,rfl,r1,v2,_,rfl,?_,r3⟩
 rw[uw]at r2⊢
 unfold ZK
 unfold zA at r2⊢
 simp only[zj,zr,Zg,List.map_nil]at r2⊢
 obtain⟨us,rfl,u1,l,e1,o1,q1,rest⟩:=r2
 refine⟨us,rfl,u1,l,e1,o1,?_,rest⟩
 subst q1
 exact .inl ⟨trivial,_,_,rfl⟩
theorem KN [Gi]:CR Tryz.prog 16 [] [] [] (is (.p (.bool true))):=by
 refine walk Tryz.func16 3 [] [3] [] ?_
 simp (maxSteps:=1000000) [go_sem,Tryz.f16]
 refine zq zeu ?_
 simp (maxSteps:=1000000) [go_sem]
 refine call [] KH ?_
 rintro _ _ ⟨rfl,e,rfl,hT⟩
 obtain⟨z0,y0,rfl⟩:∃z y,e=.pt z y:=by
  obtain⟨c,b,j,f,p,_,rfl⟩:=hT
  exact⟨_,_,rfl⟩
 have sc:=VA hT znz 0 1 7 (by omega) (by omega)
 have gn:=ziK 1 7 (by omega) (by omega)
 have ty:=zaO 1 7 (List.replicate (1*7) blk) (vwL 1 7 [] [62,32,97] 0) (by omega) (by omega) (by simp) zl6 zhZ
 rw[zkq,zmw]at ty
 have bd:=wP 1 7 (by omega) (by omega)
 have sc:=zjX sc (ziX _ _ _ _)
 unfold zjk at sc
 generalize vwL 1 7 [] [62,32,97] 0=W at sc ty
 generalize (vwS _ [] [62,32,97] 0).1-vwT _ _ [] [62,32,97] 0=q1 at sc
 generalize (vwS _ [] [62,32,97] 0).2=q2 at sc
 simp (maxSteps:=1000000) [go_sem]
 refine⟨by decide,zq sc ?_ (ha':=by simp[go_sem,Zg,zK])⟩
 simp (maxSteps:=1000000) [go_sem]
 refine ZB 47 gn ?_
 simp (maxSteps:=1000000) [go_sem]
 refine ZB 8 ty ?_
 simp (maxSteps:=1000000) [go_sem]
 refine ZB 14 bd ?_
 simp (maxSteps:=1000000) [go_sem]
 exact ret
end Go.Proofs.YtcgfdhdcihmeeaaGreat
end
