/- A part of this seat's proofs, by an abstract machine. Conditions: each law's. -/
import Derived.Test.YtfjdbbpimklecaaGreatDoorT38
import Derived.Test.YtfjdbbpimklecaaGreatDoorT46
import Derived.Test.YtfjdbbpimklecaaGreatDoorT47
set_option maxHeartbeats 4000000
set_option maxRecDepth 10000
namespace Go.Proofs.YtfjdbbpimklecaaGreatDoor
section
open Go.AM
attribute [local irreducible] za
def dCh(r:Int)(a b:zt)(n:Nat):Chd:=⟨r,dF a b n,max (dL b n) (dF a b n),dT b (dF a b n).toNat (max (dL b n) (dF a b n)-dF a b n).toNat,decide (max (dL b n) (dF a b n)<dL a n)⟩
theorem zlG {r:Int} {a b:zt} {n:Nat}(h:0≤dF a b n):yC r a b n=chP (dCh r a b n):=by
 unfold yC;rw[if_neg (by omega)];rfl
def j9(C:Nat)(l l':zt)(L:List Nat):List Chd:=L.map fun(r:Nat)=>dCh r (zm C l r) (zm C l' r) C
theorem ziM(C:Nat)(l l':zt)(R:Nat):dRs C l l' R=(j9 C l l' (chR C l l' R)).map chP:=by
 rw[zbT,j9,List.map_map]
 refine List.map_congr_left fun r hr=>?_
 exact zlG (wy hr).2
theorem zjw {R C:Nat} {l l':zt}:∀{k:Nat},k≤R→xRs C (Qh R C l) (Qh R C l') k=dRs C l l' k
 |0,_=>rfl
 |k+1,h=>by
  rw[xRs,dRs,zjw (by omega),JG (by omega),JG (by omega)]
theorem KS {R C:Nat} {l l':zt}(hR:R≤500)(hC:C≤1000):∀h∈j9 C l l' (chR C l l' R),h.ok∧h.r<R:=fun h hh=>by
 obtain⟨r,hr,rfl⟩:=List.mem_map.1 hh
 have h1:=wy hr
 have h2:=XI (zm C l r) (zm C l' r) C
 have h3:=zga (zm C l' r) C
 unfold Chd.ok dCh
 simp only
 omega
theorem zc3(C:Nat)(l l':zt)(R:Nat):(j9 C l l' (chR C l l' R)).length≤R:=by
 unfold j9;rw[List.length_map];exact kF _ _ _ _
theorem JT(l b:List AOp):(qS (shorter l b)).length≤(qS b).length:=by
 rw[shorter];split
 ·omega
 ·exact Nat.le_refl _
theorem zdS(u:Nat)(h:u≤999):Lib.nDigits u≤3:=by
 rw[Lib.nDigits];split
 ·omega
 ·rw[Lib.nDigits];split
  ·omega
  ·rw[Lib.nDigits];split
   ·omega
   ·exfalso;omega
theorem zdo(r' c':Int)(hr':0≤r'∧r'<500):(qS [⟨2,r',c',[]⟩]).length≤11:=by
 have e:qS [⟨2,r',c',[]⟩]=[27,91]++Qp (min r' 9999+1)++[59]++Qp (min c' 9999+1)++[72]:=by simp[qS,Zx]
 have h1:(Qp (min r' 9999+1)).length≤3:=by
  rw[Qp,Lib.decDigits_length]
  exact zdS _ (by omega)
 have h2:=Z4 (min c' 9999+1)
 rw[e]
 simp
 omega
theorem zlQ(r c r' c':Int)(hr':0≤r'∧r'<500):(qS (ZG r c r' c')).length≤11:=by
 have h0:=zdo r' c' hr'
 rw[ZG]
 have h1:=JT (qF r r'++qN c c') [⟨2,r',c',[]⟩]
 split
 ·have h2:=JT (qF r r'++[⟨6,0,0,[]⟩]) (shorter (qF r r'++qN c c') [⟨2,r',c',[]⟩])
  omega
 ·omega
theorem zkj(r c:Int)(k:Bool)(r' c':Int)(hr':0≤r'∧r'<500):(qS (goA r c k r' c')).length≤11:=by
 rw[goA];split
 ·exact zlQ _ _ _ _ hr'
 ·exact zdo _ _ hr'
theorem zdJ(l m:List AOp):qS (l++m)=qS l++qS m:=by unfold qS;rw[List.flatMap_append]
def chT(chs:List Chd):Nat:=(chs.map fun h=>h.s.length).sum
theorem zkV {chs:List Chd} {k:Nat}(h:k<chs.length):chT (chs.take (k+1))=chT (chs.take k)+chs[k].s.length:=by
 unfold chT
 rw[List.take_add_one,List.getElem?_eq_getElem h,List.map_append,List.sum_append]
 simp
theorem zaB(C r0 c0:Int)(k0:Bool)(chs:List Chd)(hr:∀h∈chs,0≤h.r∧h.r<500):∀k,k≤chs.length→(qS (oSt C r0 c0 k0 chs k).l).length≤14*k+chT (chs.take k)
 |0,_=>by simp[oSt,qS]
 |k+1,hk=>by
  have hk':k<chs.length:=by omega
  have ih:=zaB C r0 c0 k0 chs hr k (by omega)
  have e:chs.getD k default=chs[k]:=by rw[List.getD_eq_getElem?_getD,List.getElem?_eq_getElem hk'];rfl
  have hg:=hr chs[k] (List.getElem_mem hk')
  have st:=zkV hk'
  rw[oSt,vT,e]
  generalize chs[k]=g at hg st
  generalize oSt C r0 c0 k0 chs k=s at ih
  have hgo:=zkj s.r s.c s.k g.r g.f hg
  simp only[zdJ,List.length_append]
  have h1:(qS (if g.s=[]then []else [⟨1,0,0,g.s⟩])).length≤g.s.length:=by
   split
   ·simp[qS]
   ·simp[qS,Zx]
  have h2:(qS (if g.e then [⟨3,0,0,[]⟩]else [])).length≤3:=by
   split
   ·decide
   ·simp[qS]
  omega
theorem XV:∀(f:Nat) (s:List Nat),s.length≤f→s.length≤4*(xX f s).length
 |0,s,h=>by simp at h;subst h;simp
 |f+1,[],_=>by simp
 |f+1,c::t,h=>by
  rw[Y2]
  have hb:=zf9 (c::t)
  have ih:=XV f ((c::t).drop (max (kW (c::t)) 1)) (by rw[List.length_drop];simp only[List.length_cons]at h⊢;omega)
  rw[List.length_drop]at ih
  simp only[List.length_cons]at ih⊢
  omega
theorem zjj(c:Cl):c.t.length≤4*VE c:=by
 have h:=XV (nb c.t).length (nb c.t) (Nat.le_refl _)
 have e:xX (nb c.t).length (nb c.t)=QG dz (nb c.t):=ku _ _ (Nat.le_refl _)
 rw[e,xw]at h
 exact h
theorem znn {b:zt} {F:Nat}:∀{j:Nat},F+j≤b.length→(dT b F j).length≤4*scN ((b.drop F).take j)
 |0,_=>by simp[dT,scN]
 |j+1,h=>by
  have ih:=znn (b:=b) (F:=F) (j:=j) (by omega)
  have hl:j< (b.drop F).length:=by rw[List.length_drop];omega
  have hj:F+j<b.length:=by omega
  rw[dT,List.length_append,qp hj,JB hl,List.getElem_drop]
  have:=zjj b[F+j]
  omega
theorem zcI(b:zt)(j:Nat):scN (b.take j)≤scN b:=by
 have e:scN b=scN (b.take j)+scN (b.drop j):=by
  unfold scN
  rw[←List.sum_append,←List.map_append,List.take_append_drop]
 omega
theorem zhS {R C:Nat} {l l':zt} {r:Nat}(hl':l'.length=R*C)(hr:r<R)(h:0≤dF (zm C l r) (zm C l' r) C):(dCh r (zm C l r) (zm C l' r) C).s.length≤4*scN (vw C l l' r):=by
 have lb:=ZA hl' hr
 have h2:=XI (zm C l r) (zm C l' r) C
 have h3:=zga (zm C l' r) C
 unfold dCh vw
 simp only
 have h4:=znn (b:=zm C l' r) (F:=(dF (zm C l r) (zm C l' r) C).toNat) (j:=(max (dL (zm C l' r) C) (dF (zm C l r) (zm C l' r) C)-dF (zm C l r) (zm C l' r) C).toNat) (by rw[lb];omega)
 have h5:=zcI ((zm C l' r).drop (dF (zm C l r) (zm C l' r) C).toNat) (max (dL (zm C l' r) C) (dF (zm C l r) (zm C l' r) C)-dF (zm C l r) (zm C l' r) C).toNat
 omega
theorem zje {R C:Nat} {l l':zt}(hl':l'.length=R*C):∀{L:List Nat},(∀r∈L,r<R∧0≤dF (zm C l r) (zm C l' r) C)→chT (j9 C l l' L)≤4*jJ C l l' L
 | [],_=>by simp[chT,j9]
 |r::L,h=>by
  have h1:=zje hl' (L:=L) fun x hx=>h x (by simp[hx])
  have h2:=zhS hl' (h r (by simp)).1 (h r (by simp)).2
  unfold chT j9 jJ at h1⊢
  simp only[List.map_cons,List.sum_cons]at h1⊢
  rw[Nat.mul_add]
  omega
theorem UX {l b:List AOp} {o:AOp}(h:o∈shorter l b):o∈l∨o∈b:=by
 rw[shorter]at h;split at h
 ·exact .inl h
 ·exact .inr h
theorem zj8 {r c:Int} {k:Bool} {r' c':Int}(_:0≤r∧r≤1000)(_:0≤c∧c≤1000)(hr':0≤r'∧r'≤1000)(hc':0≤c'∧c'≤1000):∀o∈goA r c k r' c',o.ok:=fun o ho=>by
 have h1:∀o∈qF r r',o.ok:=fun o ho=>by
  rw[qF]at ho
  split at ho
  ·simp at ho;subst ho;unfold AOp.ok;simp only;omega
  ·split at ho
   ·simp at ho;subst ho;unfold AOp.ok;simp only;omega
   ·simp at ho
 have h2:∀o∈qN c c',o.ok:=fun o ho=>by
  rw[qN]at ho
  split at ho
  ·simp at ho
  ·split at ho<;>(simp at ho;subst ho;unfold AOp.ok;simp only;omega)
 have h3:(⟨2,r',c',[]⟩:AOp).ok:=by unfold AOp.ok;simp only;omega
 have h6:(⟨6,0,0,[]⟩:AOp).ok:=by unfold AOp.ok;simp only;omega
 have h4:∀o∈shorter (qF r r'++qN c c') [⟨2,r',c',[]⟩],o.ok:=fun o ho=>by
  rcases UX ho with h|h
  ·rcases List.mem_append.1 h with h|h
   ·exact h1 o h
   ·exact h2 o h
  ·rw[List.mem_singleton.1 h];exact h3
 rw[goA]at ho
 split at ho
 ·rw[ZG]at ho
  split at ho
  ·rcases UX ho with h|h
   ·rcases List.mem_append.1 h with h|h
    ·exact h1 o h
    ·rw[List.mem_singleton.1 h];exact h6
   ·exact h4 o h
  ·exact h4 o ho
 ·rw[List.mem_singleton.1 ho];exact h3
theorem zk5(C r0 c0:Int)(k0:Bool)(chs:List Chd)(hr:0≤r0∧r0≤1000)(hc:0≤c0∧c0≤1000)(hok:∀h∈chs,h.ok):∀k,k≤chs.length→(0≤(oSt C r0 c0 k0 chs k).r∧(oSt C r0 c0 k0 chs k).r≤1000)∧0≤(oSt C r0 c0 k0 chs k).c∧(oSt C r0 c0 k0 chs k).c≤1000:=fun k hk=>by
 cases k with
 |zero=>exact⟨hr,hc⟩
 |succ k=>
  have h:=hok (chs[k]'(by omega)) (List.getElem_mem _)
  have e:chs.getD k default=chs[k]'(by omega):=by rw[List.getD_eq_getElem?_getD,List.getElem?_eq_getElem (by omega)];rfl
  rw[oSt,vT,e]
  exact⟨h.1,h.2.2⟩
theorem ziL(C r0 c0:Int)(k0:Bool)(chs:List Chd)(hr:0≤r0∧r0≤1000)(hc:0≤c0∧c0≤1000)(hok:∀h∈chs,h.ok):∀k,k≤chs.length→∀o∈(oSt C r0 c0 k0 chs k).l,o.ok
 |0,_=>by simp[oSt]
 |k+1,hk=>fun o ho=>by
  have hk':k<chs.length:=by omega
  have ih:=ziL C r0 c0 k0 chs hr hc hok k (by omega)
  have bd:=zk5 C r0 c0 k0 chs hr hc hok k (by omega)
  have e:chs.getD k default=chs[k]:=by rw[List.getD_eq_getElem?_getD,List.getElem?_eq_getElem hk'];rfl
  have hg:=hok chs[k] (List.getElem_mem hk')
  rw[oSt,vT,e]at ho
  generalize chs[k]=g at hg ho
  generalize oSt C r0 c0 k0 chs k=s at ih bd ho
  simp only[List.mem_append]at ho
  rcases ho with ((h|h)|h)|h
  ·exact ih o h
  ·exact zj8 bd.1 bd.2 hg.1 hg.2.1 o h
  ·split at h
   ·simp at h
   ·rw[List.mem_singleton.1 h];unfold AOp.ok;simp only;omega
  ·split at h
   ·rw[List.mem_singleton.1 h];unfold AOp.ok;simp only;omega
   ·simp at h
def zC(R C:Nat)(l:zt)(anew:Bool):zt:=if anew then List.replicate (R*C) blk else l
def ZH(R C:Nat)(l l':zt)(r0 c0:Int)(anew:Bool):OSt:=
 oSt C (if anew then 0 else r0) (if anew then 0 else c0) true (j9 C (zC R C l anew) l' (chR C (zC R C l anew) l' R)) (chR C (zC R C l anew) l' R).length
def uY(R C:Nat)(l l':zt)(r0 c0 sr sc:Int)(anew bell:Bool):List AOp:=
 (if anew then [⟨2,0,0,[]⟩,⟨4,0,0,[]⟩]else [])++(ZH R C l l' r0 c0 anew).l++goA (ZH R C l l' r0 c0 anew).r (ZH R C l l' r0 c0 anew).c (ZH R C l l' r0 c0 anew).k sr sc++(if bell then [⟨5,0,0,[]⟩]else [])
theorem kl {R C:Nat} {l l':zt} {r0 c0 sr sc:Int} {anew bell:Bool}(hR:R≤500)(hC:C≤1000)(hl':l'.length=R*C)(hs:0≤sr∧sr<500):
  (qS (uY R C l l' r0 c0 sr sc anew bell)).length≤32+16*(chR C (zC R C l anew) l' R).length+4*jJ C (zC R C l anew) l' (chR C (zC R C l anew) l' R):=by
 unfold uY
 simp only[zdJ,List.length_append]
 have h1:(qS (if anew then [⟨2,0,0,[]⟩,⟨4,0,0,[]⟩]else [])).length≤10:=by split<;>decide+kernel
 have h2:(qS (if bell then [⟨5,0,0,[]⟩]else [])).length≤1:=by split<;>decide
 have h3:=zkj (ZH R C l l' r0 c0 anew).r (ZH R C l l' r0 c0 anew).c (ZH R C l l' r0 c0 anew).k sr sc hs
 have hm:∀r∈chR C (zC R C l anew) l' R,r<R∧0≤dF (zm C (zC R C l anew) r) (zm C l' r) C:=fun r hr=>wy hr
 have h4:=zje (l:=zC R C l anew) hl' hm
 have ok:=KS (l:=zC R C l anew) (l':=l') hR hC
 have hlen:(j9 C (zC R C l anew) l' (chR C (zC R C l anew) l' R)).length=(chR C (zC R C l anew) l' R).length:=by unfold j9;rw[List.length_map]
 have h5:=zaB C (if anew then 0 else r0) (if anew then 0 else c0) true (j9 C (zC R C l anew) l' (chR C (zC R C l anew) l' R)) (fun h hh=>⟨(ok h hh).1.1.1,by have:=(ok h hh).2;omega⟩) (chR C (zC R C l anew) l' R).length (by omega)
 rw[List.take_of_length_le (by omega)]at h5
 unfold ZH
 unfold ZH at h3
 omega
theorem zbF {R C:Nat} {l l':zt} {r0 c0:Int} {anew:Bool}(hR:R≤500)(hC:C≤1000)(hr:0≤r0∧r0≤1000)(hc:0≤c0∧c0≤1000):
  ((0≤(ZH R C l l' r0 c0 anew).r∧(ZH R C l l' r0 c0 anew).r≤1000)∧0≤(ZH R C l l' r0 c0 anew).c∧(ZH R C l l' r0 c0 anew).c≤1000)∧(∀o∈(ZH R C l l' r0 c0 anew).l,o.ok)∧(ZH R C l l' r0 c0 anew).l.length≤2000:=by
 have ok:=KS (l:=zC R C l anew) (l':=l') hR hC
 have hlen:(j9 C (zC R C l anew) l' (chR C (zC R C l anew) l' R)).length=(chR C (zC R C l anew) l' R).length:=by unfold j9;rw[List.length_map]
 have hn:=kF C (zC R C l anew) l' R
 have h1:0≤(if anew=true then(0:Int)else r0)∧(if anew=true then(0:Int)else r0)≤1000:=by split<;>omega
 have h2:0≤(if anew=true then(0:Int)else c0)∧(if anew=true then(0:Int)else c0)≤1000:=by split<;>omega
 unfold ZH
 refine⟨zk5 _ _ _ _ _ h1 h2 (fun h hh=>(ok h hh).1) _ (by omega),ziL _ _ _ _ _ h1 h2 (fun h hh=>(ok h hh).1) _ (by omega),?_⟩
 have:=za8 C (if anew then 0 else r0) (if anew then 0 else c0) true (j9 C (zC R C l anew) l' (chR C (zC R C l anew) l' R)) (chR C (zC R C l anew) l' R).length
 omega
theorem zgc {R C:Nat} {l l':zt} {r0 c0 sr sc:Int} {anew bell:Bool}(hR:R≤500)(hC:C≤1000)(hr:0≤r0∧r0≤1000)(hc:0≤c0∧c0≤1000)(hs:0≤sr∧sr≤1000)(hsc:0≤sc∧sc≤1000):(∀o∈uY R C l l' r0 c0 sr sc anew bell,o.ok)∧(uY R C l l' r0 c0 sr sc anew bell).length≤2010:=by
 obtain⟨h1,h2,h3⟩:=zbF (l:=l) (l':=l') (anew:=anew) hR hC hr hc
 unfold uY
 constructor
 ·intro o ho
  simp only[List.mem_append]at ho
  rcases ho with ((h|h)|h)|h
  ·split at h
   ·simp at h;rcases h with rfl|rfl<;>(unfold AOp.ok;simp only;omega)
   ·simp at h
  ·exact h2 o h
  ·exact zj8 h1.1 h1.2 hs hsc o h
  ·split at h
   ·rw[List.mem_singleton.1 h];unfold AOp.ok;simp only;omega
   ·simp at h
 ·have h4:=uN (ZH R C l l' r0 c0 anew).r (ZH R C l l' r0 c0 anew).c (ZH R C l l' r0 c0 anew).k sr sc
  simp only[List.length_append]
  split<;>split<;>simp<;>omega
end
section
open Go.AM
attribute [local irreducible] za vwL
theorem ziR [Gi](R C:Nat)(l:zt)(h0:l≠ [])(hn:l.length≤1000000):CR Tryz.prog 65 [] [.p (Zj R C l)] [] (is (.p (Zj R C l))):=by
 have hk:CR Tryz.prog 65 [] [.p (Zj R C l)] [] (fun x rs=>x=.lp [19] 0∧rs=[([19],[.p (.int .i64 R),.p (.int .i64 C),.p (qe l)])]):=by
  refine walk Tryz.func65 3 [] [3] [] ?_
  have cl:=VG l h0 hn
  unfold qe at cl
  unfold Zj
  simp (maxSteps:=1000000) [go_sem,Tryz.f65]
  refine qI 119 cl ?_
  simp (maxSteps:=1000000) [go_sem]
  exact zA [[19]] (.lp [19] 0) ⟨rfl,by simp⟩ (by simp[go_sem,zf,leA,leT]) ⟨rfl,by simp[go_sem]⟩
 refine hk.freeze (fun _=>false) rfl ?_
 rintro x rs ⟨rfl,rfl⟩
 refine⟨.p (Zj R C l),zge (cs:=[.p (.int .i64 R),.p (.int .i64 C),.p (qe l)]) (ps:=[.int .i64 R,.int .i64 C,qe l]) rfl rfl rfl ?_,rfl,rfl⟩
 intro g w hG j x p v hx hp hv
 rcases j with _|_|_|j
 ·simp at hx hp;subst hx;subst hp;simpa only[zb,zl]using hv
 ·simp at hx hp;subst hx;subst hp;simpa only[zb,zl]using hv
 ·simp only[List.getElem?_cons_succ,List.getElem?_cons_zero,Option.some.injEq]at hx hp
  subst hx;subst hp
  rw[vX]at hv
  exact hv.ext (uO hG _)
 ·simp at hx
def WA(R C:Nat)(l:zt)(r c:Int):PV:=.agg [Zj R C l,.int .i64 r,.int .i64 c,.bool true]
def Q7(R C:Nat):zt:=List.replicate (R*C) blk
theorem KZ [Gi](R C:Nat)(hR:1≤R∧R≤500)(hC:2≤C∧C≤1000):CR Tryz.prog 14 [] [.p (.int .i64 R),.p (.int .i64 C)] [] (is (.p (WA R C (Q7 R C) 0 0))):=by
 have gn:=Vx R C hR hC
 refine walk Tryz.func14 5 [] [] [] ?_
 unfold WA Q7
 unfold Zj at gn⊢
 simp (maxSteps:=1000000) [go_sem,Tryz.f14]
 refine zq gn ?_
 simp (maxSteps:=1000000) [go_sem]
 exact ret
def zio(R C:Nat)(l:zt)(r c:Int):PV:=.agg [Zj R C l,.int .i64 r,.int .i64 c]
def zlf:OT:=.now 0 1 (.now 1 1 (.now 2 1 (.now 3 1 (.now 4 2 (.mk [(5,.mk [(6,.now 7 0 (.mk [(8,.now 9 0 (.mk []))]))]),(6,.now 7 0 (.mk [(5,.mk [(8,.now 9 0 (.mk []))]),(8,.now 5 0 (.now 9 0 (.mk [])))]))])))))
theorem zdb [Gi] {P:Program} {D:List Nat} {x y rest:Code} {Q:Exit→St→Prop} {S:St} {v:AV} {ι:Type}(inv:ι→Prop)(V:ι→List (Nat×AV))(R:ι→List (Tok×List AV))(h:kJ P D x y (Kt S inv V R Q) S v)
  (hr:∀i ts,inv i→AM.Sem P rest Q (S.KA (V i) (R i) ts)):kJ P D x y (zkN P rest Q) S v:=by
 have hq:∀e S',Kt S inv V R Q e S'→zkN P rest Q e S':=fun e S' h=>by
  cases e with
  |normal=>obtain⟨i,ts,hi,rfl⟩:=h;exact hr i ts hi
  |_=>exact h
 unfold kJ at h⊢
 split at h
 ·exact⟨fun e=>ZO x hq (h.1 e),fun e=>ZO y hq (h.2 e)⟩
 ·exact h.elim
theorem Sem.zpU [Gi] {P:Program} {Q:Exit→St→Prop} {S:St} {id:Nat} {l:List Oper} {y:Code}(hm:P.follows .mixedOrders=true)(t:OT)(S1:St)(hok:(Region.noSelect l.toArray&&okT l.toArray l.toArray.size (Array.replicate l.toArray.size false) t)=true)
  (h:wY P l.toArray (fun S'=>LeS S' S1) t {S with ts:=[]}) (hr:AM.Sem P y Q S1):AM.Sem P (.seq (.region id l.toArray true) y) Q S:=by
 have h0:AM.Sem P (.region id l.toArray true) (fun e S'=>e=.normal∧LeS S' S1) S:=fun E=>zV.tree hm t hok (by simpa using h)
 refine AM.Sem.seq (AM.Sem.mono h0 ?_)
 rintro e S' ⟨rfl,hl⟩
 exact AM.Sem.le hr hl
def zgg:OT:=.now 0 0 (.now 1 0 (.now 4 2 (.now 5 2 (.mk [(2,.now 3 0 (.now 6 0 (.mk [(7,.mk [(8,.mk [(9,.mk [])])])]))),(3,.mk [(2,.now 6 0 (.mk [(7,.mk [(8,.mk [(9,.mk [])])])])),(6,.mk [(2,.mk [(7,.mk [(8,.mk [(9,.mk [])])])])])]),(6,.mk [(2,.now 3 0 (.mk [(7,.mk [(8,.mk [(9,.mk [])])])])),(3,.mk [(2,.mk [(7,.mk [(8,.mk [(9,.mk [])])])])])])]))))
theorem kj(R C:Nat)(l l':zt)(r0 c0 sr sc:Int)(anew bell:Bool)(hR:1≤R∧R≤500)(hC:2≤C∧C≤1000)(hl:l.length=R*C)(hl':l'.length=R*C)(ht:∀c∈l',c.t.length≤100000)
  (hr:0≤r0∧r0<500) (hc:0≤c0∧c0≤1000) (hs:0≤sr∧sr<500) (hsc:0≤sc∧sc≤1000):
  CR Tryz.prog 16 [] [.p (WA R C l r0 c0),.p (zio R C l' sr sc),.p (.bool anew),.p (.bool bell)] [] (is (.tup [.p (WA R C l' sr sc),.p (.str (qS (uY R C l l' r0 c0 sr sc anew bell)))])):=by
 have hRC:0<R*C:=Nat.mul_pos (by omega) (by omega)
 have hRC5:R*C≤500000:=Nat.mul_le_mul hR.2 hC.2
 have sz:=vN R C l
 have sz':=vN R C l'
 have gn:=Vx R C hR hC
 have cp:=ziR R C l' (fun e=>by rw[e]at hl';simp at hl';omega) (by omega)
 have hol:(zC R C l anew).length=R*C:=by unfold zC;split<;>simp[hl]
 have dr:=X7 R C (zC R C l anew) l' hR.2 (by omega) hol hl' fun k hk _ c hc=>by
  have:=ht c (List.mem_of_mem_drop (List.mem_of_mem_take hc));omega
 rw[ziM]at dr
 have chok:=KS (l:=zC R C l anew) (l':=l') hR.2 hC.2
 have chn:=zc3 C (zC R C l anew) l' R
 have hlen:(j9 C (zC R C l anew) l' (chR C (zC R C l anew) l' R)).length=(chR C (zC R C l anew) l' R).length:=by unfold j9;rw[List.length_map]
 have op:=zn3 C (if anew then 0 else r0) (if anew then 0 else c0) true (j9 C (zC R C l anew) l' (chR C (zC R C l anew) l' R)) (by split<;>omega) (by split<;>omega) (by omega) (fun h hh=>(chok h hh).1)
 have by_:=kl (l:=l) (r0:=r0) (c0:=c0) (sc:=sc) (anew:=anew) (bell:=bell) hR.2 hC.2 hl' hs
 have tb:=Jn (l:=zC R C l anew) hR.2 hC.2 hl' ht R (Nat.le_refl _)
 have kb:=kF C (zC R C l anew) l' R
 obtain⟨ok,okn⟩:=zgc (l:=l) (l':=l') (anew:=anew) (bell:=bell) hR.2 hC.2 (show 0≤r0∧r0≤1000 by omega) hc (show 0≤sr∧sr≤1000 by omega) hsc
 obtain⟨sb,so,sn⟩:=zbF (l:=l) (l':=l') (anew:=anew) hR.2 hC.2 (show 0≤r0∧r0≤1000 by omega) hc
 have hgo:=zjb (ZH R C l l' r0 c0 anew).r (ZH R C l l' r0 c0 anew).c (ZH R C l l' r0 c0 anew).k sr sc sb.1 sb.2 (by omega) hsc
 have hgn:=uN (ZH R C l l' r0 c0 anew).r (ZH R C l l' r0 c0 anew).c (ZH R C l l' r0 c0 anew).k sr sc
 have all:=zbf (uY R C l l' r0 c0 sr sc anew bell) ok (by omega) (by omega)
 have eS:oSt C (if anew then 0 else r0) (if anew then 0 else c0) true (j9 C (zC R C l anew) l' (chR C (zC R C l anew) l' R)) (j9 C (zC R C l anew) l' (chR C (zC R C l anew) l' R)).length=ZH R C l l' r0 c0 anew:=by unfold ZH;rw[hlen]
 rw[eS]at op
 have eO:uY R C l l' r0 c0 sr sc anew bell=(if anew then [⟨2,0,0,[]⟩,⟨4,0,0,[]⟩]else [])++(ZH R C l l' r0 c0 anew).l++goA (ZH R C l l' r0 c0 anew).r (ZH R C l l' r0 c0 anew).c (ZH R C l l' r0 c0 anew).k sr sc++(if bell then [⟨5,0,0,[]⟩]else []):=rfl
 rw[eO]at all⊢
 generalize qS _=RES at all⊢
 clear by_ tb kb ok okn so eS eO
 generalize ZH R C l l' r0 c0 anew=s at*
 obtain⟨sl,s1,s2,s3⟩:=s
 simp only at sb sn hgo hgn op all⊢
 generalize goA s1 s2 s3 sr sc=gl at*
 generalize j9 C (zC R C l anew) l' (chR C (zC R C l anew) l' R)=ch at*
 refine ziC 19 [] Tryz.func16 rfl [] rfl (by simp) (by simp) ?_
 unfold WA zio
 unfold Zj at sz sz' gn cp dr⊢
 simp only[qe]at sz sz' gn cp dr⊢
 refine Sem.jI [] mixed ?_
 simp (maxSteps:=1000000) [go_sem,Tryz.f16]
 refine Sem.jI [] mixed ?_
 simp (maxSteps:=1000000) [go_sem]
 refine zq sz ?_
 simp (maxSteps:=1000000) [go_sem]
 refine Sem.jI [] mixed ?_
 simp (maxSteps:=1000000) [go_sem]
 refine zq sz' ?_
 simp (maxSteps:=1000000) [go_sem]
 refine Sem.jI [] mixed ?_
 simp (maxSteps:=1000000) [go_sem]
 refine Sem.jI [200006] mixed ?_
 simp (maxSteps:=1000000) [go_sem]
 refine zfs zlf {n:=95,nv:=19,vs:=[(2,.p (.bool anew)),(3,.p (.bool bell)),(4,.lp [4] 0),(5,.lp [5] 0),(8,.lp [8] 0),(9,.p (.str [])),(10,.p (.int .i64 R)),(11,.p (.int .i64 C)),(14,.os [14] 4 []),(15,.p (.pt 3 (.agg [.int .i64 R,.int .i64 C,.sl 2 (l.map clP)]))),(16,.lp [16] 0),(17,.p (.bool true))],ts:=[],rs:=[([4],[.p (.pt 3 (.agg [.int .i64 R,.int .i64 C,.sl 2 (l.map clP)])),.p (.int .i64 r0),.p (.int .i64 c0),.p (.bool true)]),([5],[.p (.pt 3 (.agg [.int .i64 R,.int .i64 C,.sl 2 (l'.map clP)])),.p (.int .i64 sr),.p (.int .i64 sc)]),([8],[.p (.opq (.pointer none)),.p (.int .i64 0),.p (.int .i64 0),.p (.bool false)]),([16],[.p (.int .i64 r0),.p (.int .i64 c0)])]} (by kernel_rfl) (by simp (maxSteps:=1000000) [go_sem,zlf,LeS,leV,leR,leA,leL]) ?_
 simp (maxSteps:=1000000) [go_sem]
 refine Sem.jI [] mixed ?_
 simp (maxSteps:=1000000) [go_sem]
 refine zdb (fun _:Unit=>True) (fun _=>[(14,.os [14] 4 ((if anew=true then [⟨2,0,0,[]⟩,⟨4,0,0,[]⟩]else []:List AOp).map opP)),(15,.p (.pt 3 (.agg [.int .i64 R,.int .i64 C,.sl 2 ((zC R C l anew).map clP)])))]) (fun _=>[([16],[.p (.int .i64 (if anew=true then 0 else r0)),.p (.int .i64 (if anew=true then 0 else c0))])]) (zN (fun h=>?_) (fun h=>?_)) ?_
 ·subst h
  simp (maxSteps:=1000000) [go_sem]
  refine zq gn ?_
  simp (maxSteps:=1000000) [go_sem]
  exact⟨rfl,zO () trivial (by simp[go_sem,zC])⟩
 ·have h:anew=false:=by simpa using h
  subst h
  simp (maxSteps:=1000000) [go_sem]
  exact zO () trivial (by simp[go_sem,zC])
 ·rintro _ ts _
  have hpl:(if anew=true then [⟨2,0,0,[]⟩,⟨4,0,0,[]⟩]else []:List AOp).length≤2:=by split<;>simp
  generalize (if anew=true then [⟨2,0,0,[]⟩,⟨4,0,0,[]⟩]else []:List AOp)=pre at all hpl⊢
  obtain⟨o,ho⟩:∃o,o=pre++sl++gl:=⟨_,rfl⟩
  have hom:pre.map opP++(sl.map opP++gl.map opP)=o.map opP:=by rw[ho];simp
  have hol2:o.length≤100000:=by rw[ho];simp;omega
  rw[←ho]at all
  simp (maxSteps:=1000000) [go_sem]
  refine Sem.jI [10,100010] mixed ?_ (by kernel_rfl)
  simp (maxSteps:=1000000) [go_sem]
  refine qI 46 dr ?_
  simp (maxSteps:=1000000) [go_sem]
  refine qI 45 op ?_ (ha':=by simp[go_sem,Zg])
  simp (maxSteps:=1000000) [go_sem,Zg,zk]
  have hb1:(pre.length+sl.length)*40≤140737488355328:=by omega
  have hb2:(pre.length+sl.length+gl.length)*40≤140737488355328:=by omega
  refine Sem.zpU mixed zgg {n:=95,nv:=19,vs:=[(3,.p (.bool bell)),(4,.lp [4] 0),(5,.lp [5] 0),(8,.lp [8] 0),(9,.p (.str [])),(14,.os [14] 4 (o.map opP))],ts:=[],rs:=[([4],[.p (.pt 3 (.agg [.int .i64 R,.int .i64 C,.sl 2 (l.map clP)])),.p (.int .i64 r0),.p (.int .i64 c0),.p (.bool true)]),([5],[.p (.pt 3 (.agg [.int .i64 R,.int .i64 C,.sl 2 (l'.map clP)])),.p (.int .i64 sr),.p (.int .i64 sc)]),([8],[.p (.opq (.pointer none)),.p (.int .i64 0),.p (.int .i64 0),.p (.bool false)]),([16],[.p (.int .i64 s1),.p (.int .i64 s2)])]} (by kernel_rfl) ?_ ?_
  ·simp (maxSteps:=1000000) [go_sem,zgg]
   refine⟨⟨hb1,zq hgo ?_ (ha':=by simp[go_sem,Zg])⟩,⟨⟨hb1,zq hgo ?_ (ha':=by simp[go_sem,Zg])⟩,hb1,zq hgo ?_ (ha':=by simp[go_sem,Zg])⟩,⟨hb1,zq hgo ?_ (ha':=by simp[go_sem,Zg])⟩,hb1,zq hgo ?_ (ha':=by simp[go_sem,Zg])⟩<;>simp (maxSteps:=1000000) [go_sem,zk,hom,hb2,LeS,leV,leR,leA,leL]
  ·cases bell with
   |false=>
    simp only[Bool.false_eq_true,if_false,List.append_nil]at all⊢
    refine AM.Sem.of [14] mixed ?_ (by kernel_rfl)
    simp (maxSteps:=1000000) [go_sem]
    refine qI 65 cp ?_
    simp (maxSteps:=1000000) [go_sem]
    refine qI 47 all ?_ (ha':=by simp[go_sem,zk])
    simp (maxSteps:=1000000) [go_sem]
    exact ret (hx:=by simp[go_sem,zf,leA,leT,leP])
   |true=>
    simp only[if_true]at all⊢
    refine AM.Sem.of [14] mixed ?_ (by kernel_rfl)
    simp (maxSteps:=1000000) [go_sem]
    refine⟨by omega,?_⟩
    refine qI 65 cp ?_
    simp (maxSteps:=1000000) [go_sem]
    refine qI 47 all ?_ (ha':=by simp[go_sem,zk,opP])
    simp (maxSteps:=1000000) [go_sem]
    exact ret (hx:=by simp[go_sem,zf,leA,leT,leP])
theorem zjB(R C:Nat):Qh R C (Q7 R C)=(List.range R).map fun _=>List.replicate C blk:=by
 unfold Qh Q7
 exact List.map_congr_left fun r hr=>JM (List.mem_range.1 hr)
theorem J6 [Gi](R C:Nat)(hR:1≤R∧R≤500)(hC:2≤C∧C≤1000):CR Tryz.prog 15 [] [.p (.int .i64 R),.p (.int .i64 C)] [] (is (.p (jA (Qh R C (Q7 R C))))):=by
 refine(zgB R C hR hC).freeze (fun _=>false) rfl ?_
 rintro x rs ⟨rfl,rfl⟩
 rw[zjB]
 exact⟨_,ziT (G:=fun _=>List.replicate C blk) (by omega) (by omega) (fun r _=>by simp),by simp[Yi],rfl⟩
def zl3(R C:Nat)(l:zt)(r c:Int):PV:=.agg [jA (Qh R C l),.int .i64 r,.int .i64 c]
theorem ziD(R C:Nat)(l l':zt)(r0 c0 sr sc:Int)(anew bell:Bool)(hR:1≤R∧R≤500)(hC:2≤C∧C≤1000)(hl:l.length=R*C)(hl':l'.length=R*C)(ht:∀c∈l',c.t.length≤100000)
  (hr:0≤r0∧r0<500) (hc:0≤c0∧c0≤1000) (hs:0≤sr∧sr<500) (hsc:0≤sc∧sc≤1000):
  CR Tryz.prog 19 [] [.p (zl3 R C l r0 c0),.p (.agg [jA (Qh R C l'),.int .i64 sr,.int .i64 sc]),.p (.bool anew),.p (.bool bell)] [] (is (.tup [.p (zl3 R C l' sr sc),.p (.str (qS (uY R C l l' r0 c0 sr sc anew bell)))])):=by
 have nd:=J6 R C hR hC
 have hol:(zC R C l anew).length=R*C:=by unfold zC;split<;>simp[hl]
 have dr:=zju R C (Qh R C (zC R C l anew)) (Qh R C l') (by omega) (by omega) (jF _ _ _) (jF _ _ _) (XC hol) (XC hl') fun b hb c hc=>by
  obtain⟨k,_,rfl⟩:=List.mem_map.1 hb
  have:=ht c (List.mem_of_mem_drop (List.mem_of_mem_take hc));omega
 rw[zjw (Nat.le_refl R),ziM]at dr
 have chok:=KS (l:=zC R C l anew) (l':=l') hR.2 hC.2
 have chn:=zc3 C (zC R C l anew) l' R
 have hlen:(j9 C (zC R C l anew) l' (chR C (zC R C l anew) l' R)).length=(chR C (zC R C l anew) l' R).length:=by unfold j9;rw[List.length_map]
 have op:=zlu C (if anew then 0 else r0) (if anew then 0 else c0) true (j9 C (zC R C l anew) l' (chR C (zC R C l anew) l' R)) (by split<;>omega) (by split<;>omega) (by omega) (fun h hh=>(chok h hh).1)
 have by_:=kl (l:=l) (r0:=r0) (c0:=c0) (sc:=sc) (anew:=anew) (bell:=bell) hR.2 hC.2 hl' hs
 have tb:=Jn (l:=zC R C l anew) hR.2 hC.2 hl' ht R (Nat.le_refl _)
 have kb:=kF C (zC R C l anew) l' R
 obtain⟨ok,okn⟩:=zgc (l:=l) (l':=l') (anew:=anew) (bell:=bell) hR.2 hC.2 (show 0≤r0∧r0≤1000 by omega) hc (show 0≤sr∧sr≤1000 by omega) hsc
 obtain⟨sb,so,sn⟩:=zbF (l:=l) (l':=l') (anew:=anew) hR.2 hC.2 (show 0≤r0∧r0≤1000 by omega) hc
 have hgo:=zka (ZH R C l l' r0 c0 anew).r (ZH R C l l' r0 c0 anew).c (ZH R C l l' r0 c0 anew).k sr sc sb.1 sb.2 (by omega) hsc
 have hgn:=uN (ZH R C l l' r0 c0 anew).r (ZH R C l l' r0 c0 anew).c (ZH R C l l' r0 c0 anew).k sr sc
 have all:=z7 (uY R C l l' r0 c0 sr sc anew bell) ok (by omega) (by omega)
 have eS:oSt C (if anew then 0 else r0) (if anew then 0 else c0) true (j9 C (zC R C l anew) l' (chR C (zC R C l anew) l' R)) (j9 C (zC R C l anew) l' (chR C (zC R C l anew) l' R)).length=ZH R C l l' r0 c0 anew:=by unfold ZH;rw[hlen]
 rw[eS]at op
 have eO:uY R C l l' r0 c0 sr sc anew bell=(if anew then [⟨2,0,0,[]⟩,⟨4,0,0,[]⟩]else [])++(ZH R C l l' r0 c0 anew).l++goA (ZH R C l l' r0 c0 anew).r (ZH R C l l' r0 c0 anew).c (ZH R C l l' r0 c0 anew).k sr sc++(if bell then [⟨5,0,0,[]⟩]else []):=rfl
 rw[eO]at all⊢
 generalize qS _=RES at all⊢
 clear by_ tb kb ok okn so eS eO
 generalize ZH R C l l' r0 c0 anew=s at*
 obtain⟨sl,s1,s2,s3⟩:=s
 simp only at sb sn hgo hgn op all⊢
 generalize goA s1 s2 s3 sr sc=gl at*
 generalize j9 C (zC R C l anew) l' (chR C (zC R C l anew) l' R)=ch at*
 have q1:=jF R C l
 have q2:=jF R C l'
 have a1:=Vu (C:=C) (l:=l) (r:=0) (R:=R) (by omega)
 have a2:=Vu (C:=C) (l:=l') (r:=0) (R:=R) (by omega)
 have b1:=ZA (k:=0) hl (by omega)
 have b2:=ZA (k:=0) hl' (by omega)
 have hR0:0<R:=by omega
 have hRn:¬R=0:=by omega
 refine walk Tryz.func19 16 [] [4,9,100009,14] [] ?_
 unfold zl3 jA
 unfold jA at nd
 simp (maxSteps:=1000000) [go_sem,Tryz.f19,q1,q2,a1,a2,b1,b2,hR0,hRn]
 refine Zp (fun _:Unit=>True) (fun _=>[(10,.os [10] 4 ((if anew=true then [⟨2,0,0,[]⟩,⟨4,0,0,[]⟩]else []:List AOp).map opP)),(11,.p (.sl 1 ((Qh R C (zC R C l anew)).map qe)))]) (fun _=>[([12],[.p (.int .i64 (if anew=true then 0 else r0)),.p (.int .i64 (if anew=true then 0 else c0))])]) (zN (fun h=>?_) (fun h=>?_)) ?_
 ·subst h
  simp (maxSteps:=1000000) [go_sem,q1,a1,b1,hR0]
  refine zq nd ?_
  simp (maxSteps:=1000000) [go_sem]
  exact⟨rfl,zO () trivial (by simp[go_sem,zC,Q7])⟩
 ·have h:anew=false:=by simpa using h
  subst h
  simp (maxSteps:=1000000) [go_sem]
  exact zO () trivial (by simp[go_sem,zC])
 ·rintro _ ts _
  have hpl:(if anew=true then [⟨2,0,0,[]⟩,⟨4,0,0,[]⟩]else []:List AOp).length≤2:=by split<;>simp
  generalize (if anew=true then [⟨2,0,0,[]⟩,⟨4,0,0,[]⟩]else []:List AOp)=pre at all hpl⊢
  obtain⟨o,ho⟩:∃o,o=pre++sl++gl:=⟨_,rfl⟩
  have hom:pre.map opP++(sl.map opP++gl.map opP)=o.map opP:=by rw[ho];simp
  have hol2:o.length≤100000:=by rw[ho];simp;omega
  have hb1:(pre.length+sl.length)*40≤140737488355328:=by omega
  have hb2:(pre.length+sl.length+gl.length)*40≤140737488355328:=by omega
  rw[←ho]at all
  simp (maxSteps:=1000000) [go_sem]
  refine qI 71 dr ?_
  simp (maxSteps:=1000000) [go_sem,q1,a1,b1,hR0]
  refine qI 70 op ?_ (ha':=by simp[go_sem,Zg])
  simp (maxSteps:=1000000) [go_sem,Zg,zk]
  refine⟨hb1,zq hgo ?_ (ha':=by simp[go_sem,Zg])⟩
  simp (maxSteps:=1000000) [go_sem,zk,hom]
  refine⟨by omega,?_⟩
  cases bell with
  |false=>
   simp only[Bool.false_eq_true,if_false,List.append_nil]at all⊢
   simp (maxSteps:=1000000) [go_sem]
   refine qI 73 all ?_ (ha':=by simp[go_sem,zk])
   simp (maxSteps:=1000000) [go_sem]
   exact ret (hx:=by simp[go_sem,zf,leA,leT,leP])
  |true=>
   simp only[if_true]at all⊢
   simp (maxSteps:=1000000) [go_sem]
   refine⟨by omega,?_⟩
   refine qI 73 all ?_ (ha':=by simp[go_sem,zk,opP])
   simp (maxSteps:=1000000) [go_sem]
   exact ret (hx:=by simp[go_sem,zf,leA,leT,leP])
structure Frm where
 ps:List (List Int)
 ln:List Int
 cur:Int
 a:Bool
 b:Bool
def yD(f:Frm):PV:=.agg [.sl 1 (q9 f.ps),zE f.ln,.int .i64 f.cur,.bool f.a,.bool f.b]
def Frm.ok(f:Frm):Prop:=(∀l∈f.ps,∀r∈l,qg r)∧∀r∈f.ln,qg r
def VF(f:Frm):Frm:=⟨wk f.ps,f.ln.take 100,f.cur,f.a,f.b⟩
theorem zmP {f:Frm}(h:f.ok):W7 (VF f).ps (VF f).ln:=zfX h.1 h.2
theorem zc6 [Gi](l:List Frm):CR Tryz.prog 11 [] [.p (.sl 5 (l.map yD))] [] (is (.p (.sl 5 (((l.take 8).map VF).map yD)))):=by
 refine walk Tryz.func11 6 [] [] [] ?_
 simp (maxSteps:=1000000) [go_sem,Tryz.f11]
 refine loop (fun i:Nat=>i≤min l.length 8) (fun i=>[(3,.os [3] 5 ((((l.take i).take 8).map VF).map yD)),(4,.p (.int .i64 i)),(5,.zY)]) (fun _=>[]) (fun i=>8-i) 0 (Nat.zero_le _) (fun i hi=>?_) (h0:=by simp[go_sem,LeS,leV,leR,leA])
 by_cases hil:i<l.length
 ·by_cases hi4:i<8
  ·have hi5:(i:Int)<8:=by omega
   have em:=zp yD l i hil
   have st:(((l.take i).take 8).map VF).map yD++[yD (VF l[i])]=(((l.take (i+1)).take 8).map VF).map yD:=by
    have e:l.take (i+1)=l.take i++[l[i]]:=by rw[List.take_add_one,List.getElem?_eq_getElem hil];rfl
    rw[List.take_take,List.take_take,show min 8 i=i by omega,show min 8 (i+1)=i+1 by omega,e,List.map_append,List.map_append];rfl
   have w1:IntKind.i64.wrap ((i:Int)+1)=((i+1:Nat):Int):=zG (by omega)
   have ll:((((l.take i).take 8).map VF).map yD).length≤8:=by simp;omega
   have fv:=zej l[i].ps l[i].ln l[i].cur
   generalize l[i]=y at em st fv
   obtain⟨ps,ln,cur,a,b⟩:=y
   simp only at fv
   replace em:elemAt (l.map yD) i=.agg [.sl 1 (q9 ps),.sl 1 (zP ln),.int .i64 cur,.bool a,.bool b]:=em
   replace st:(((l.take i).take 8).map VF).map yD++[.agg [.sl 1 (q9 (wk ps)),.sl 1 (zP (ln.take 100)),.int .i64 cur,.bool a,.bool b]]=(((l.take (i+1)).take 8).map VF).map yD:=st
   generalize (((l.take i).take 8).map VF).map yD=A at st ll⊢
   simp (maxSteps:=1000000) [go_sem,hil,hi5,em]
   refine zq fv ?_ (ha':=by simp[go_sem,ZU])
   simp (maxSteps:=1000000) [go_sem,ZU,w1,st]
   refine⟨by omega,?_⟩
   exact next (i+1) (by omega) (h3:=by show 8- (i+1)<8-i;omega) (h2:=by simp[go_sem,LeS,leV,leR,leA])
  ·have e4:(l.take i).take 8=l.take 8:=by rw[List.take_take,show min 8 i=8 by omega]
   rw[e4]
   have hi5:¬(i:Int)<8:=by omega
   simp (maxSteps:=1000000) [go_sem,hil,hi5]
   exact ret
 ·have e4:l.take i=l:=List.take_of_length_le (by omega)
  rw[e4]
  simp (maxSteps:=1000000) [go_sem,hil]
  exact ret
theorem zcX {C:Int} {l:List Cl} {i:Nat}:∀{d:Nat},(stG C l i).1≤(stG C l (i+d)).1
 |0=>Int.le_refl _
 |d+1=>by
  have ih:=zcX (C:=C) (l:=l) (i:=i) (d:=d)
  rw[←Nat.add_assoc,stG,Uc]
  simp only
  unfold yK
  split<;>(try simp only)<;>omega
theorem zhy {C:Int} {l:List Cl} {k:Nat}(hk:k≤l.length):(qu C l k).1≤(qu C l l.length).1:=by
 have he:(stG C l l.length).1≤(qu C l l.length).1:=by
  unfold qu
  rw[if_neg (by omega)]
  unfold zbW
  split<;>(try simp only)<;>omega
 by_cases hl:k<l.length
 ·have e:(qu C l k).1=(stG C l (k+1)).1:=by
   unfold qu;rw[if_pos hl,stG,Uc]
  have:=zcX (C:=C) (l:=l) (i:=k+1) (d:=l.length- (k+1))
  rw[show k+1+(l.length- (k+1))=l.length by omega]at this
  omega
 ·obtain rfl:k=l.length:=by omega
  exact Int.le_refl _
theorem zkw {ps:List (List Int)} {ln:List Int}(h:W7 ps ln)(cur:Int) {R C:Nat}(hR:1≤R)(hC:2≤C):(0≤(vwS C ps ln cur).1-vwT R C ps ln cur∧(vwS C ps ln cur).1-vwT R C ps ln cur<R)∧0≤(vwS C ps ln cur).2∧(vwS C ps ln cur).2<C:=by
 have hO:=zfh ps ln
 have b:=wD (C:=C) (by omega) hO (vwK ps ln cur)
 have hl:=zhy (C:=C) (zfu h cur)
 unfold vwT vwS xx
 generalize qu C (vwG ps ln) (vwK ps ln cur)=s at*
 generalize (qu C (vwG ps ln) (vwG ps ln).length).1=e at*
 have ht:(R:Int).tdiv 2=(R:Int)/2:=Int.tdiv_eq_ediv_of_nonneg (by omega)
 rw[ht]
 omega
structure PsI(n R C:Nat)(s:Nat×zt×Int×Int):Prop where
 i:s.1≤n
 l:s.2.1.length=R*C
 r:0≤s.2.2.1∧s.2.2.1<500
 c:0≤s.2.2.2∧s.2.2.2≤1000
def VQ(l:List Frm):List Frm:=(l.take 8).map VF
theorem zcZ {l:List Frm}(h:∀f∈l,f.ok):∀f∈VQ l,W7 f.ps f.ln:=fun f hf=>by
 obtain⟨y,hy,rfl⟩:=List.mem_map.1 hf
 exact zmP (h y (List.mem_of_mem_take hy))
theorem Xc(rows cols:Int)(fs:List Frm)(hf:∀f∈fs,f.ok)(aw:CR Tryz.prog 21 [] [] [] (is (.p (.bool true)))):
  CR Tryz.prog 3 [] [.p (.int .i64 rows),.p (.int .i64 cols),.p (.sl 5 (fs.map yD))] [] (is (.p (.bool true))):=by
 have ff:=zc6 fs
 have hok:=zcZ hf
 have hn8:(VQ fs).length≤8:=by unfold VQ;simp;omega
 obtain⟨m1,hm1,e1⟩:=zhp rows 7 (by omega)
 obtain⟨m2,hm2,e2⟩:=zhp cols 15 (by omega)
 simp[go_sem]at e1 e2
 obtain⟨R,hR⟩:∃R:Nat,R=1+m1:=⟨_,rfl⟩
 obtain⟨C,hC⟩:∃C:Nat,C=2+m2:=⟨_,rfl⟩
 have wR:IntKind.i64.wrap (1+(m1:Int))=(R:Int):=by rw[wrap64 (by omega) (by omega)];omega
 have wC:IntKind.i64.wrap (2+(m2:Int))=(C:Int):=by rw[wrap64 (by omega) (by omega)];omega
 have np:=KZ R C (by omega) (by omega)
 have nd:=J6 R C (by omega) (by omega)
 have hb:(Q7 R C).length=R*C:=by simp[Q7]
 have e0:(fs.take 8).map VF=VQ fs:=rfl
 rw[e0]at ff
 generalize VQ fs=l at*
 have rc:=Vm
 have tE:=yU
 refine walk Tryz.func3 16 [] [11,100011,12,100012] [] ?_
 unfold z6 at rc tE
 obtain⟨X,hX⟩:∃X,X=za.map rowP:=⟨_,rfl⟩
 rw[←hX]at rc tE
 unfold WA Zj at np
 unfold jA at nd
 simp (maxSteps:=1000000) [go_sem,Tryz.f3,e1,e2,wR,wC]
 refine zq ff ?_
 simp (maxSteps:=1000000) [go_sem]
 refine zq rc ?_
 simp (maxSteps:=1000000) [go_sem]
 refine call [] tE ?_
 rintro _ _ ⟨rfl,e,rfl,hT⟩
 obtain⟨z0,y0,rfl⟩:∃z y,e=.pt z y:=by
  obtain⟨c,b,j,f,p,_,rfl⟩:=hT
  exact⟨_,_,rfl⟩
 simp (maxSteps:=1000000) [go_sem]
 refine zq np ?_
 simp (maxSteps:=1000000) [go_sem]
 refine zq nd ?_
 simp (maxSteps:=1000000) [go_sem]
 refine loop (fun s:Nat×zt×Int×Int=>PsI l.length R C s) (fun s=>[(11,.p (.int .i64 s.1)),(12,.zY),(13,.zY),(14,.zY),(15,.zY)])
  (fun s=>[([9],[.p (.pt 3 (.agg [.int .i64 R,.int .i64 C,.sl 2 (s.2.1.map clP)])),.p (.int .i64 s.2.2.1),.p (.int .i64 s.2.2.2),.p (.bool true)]),([10],[.p (.sl 1 ((Qh R C s.2.1).map qe)),.p (.int .i64 s.2.2.1),.p (.int .i64 s.2.2.2)])])
  (fun s=>l.length-s.1) (0,Q7 R C,0,0) ⟨Nat.zero_le _,hb,by simp,by simp⟩ (fun s hs=>?_)
 obtain⟨i,q,r,c⟩:=s
 obtain⟨hi,hq,hr,hc⟩:=hs
 simp only at hi hq hr hc
 by_cases hil:i<l.length
 ·have em:=zp yD l i hil
  have okf:=hok l[i] (List.getElem_mem hil)
  generalize l[i]=f at em okf
  obtain⟨ps,ln,cur,a,b⟩:=f
  simp only at okf
  replace em:elemAt (l.map yD) i=.agg [.sl 1 (q9 ps),.sl 1 (zP ln),.int .i64 cur,.bool a,.bool b]:=em
  have vS:=JF ps ln cur
  have sA:=yu hT okf cur R C (by omega) (by omega)
  have dA:=YT okf cur R C (by omega) (by omega)
  have vi:=zkw okf cur (R:=R) (C:=C) (by omega) (by omega)
  have hL:=uH R C ps ln cur
  have hS:=x8 okf R C cur
  unfold zcW at sA
  unfold zmQ at dA
  rw[zcv]at dA
  generalize vwL R C ps ln cur=L at*
  generalize (vwS C ps ln cur).1-vwT R C ps ln cur=sr at*
  generalize (vwS C ps ln cur).2=sc at*
  have pA:=kj R C q L r c sr sc a b (by omega) (by omega) hq hL hS hr hc (by omega) (by omega)
  have pD:=ziD R C q L r c sr sc a b (by omega) (by omega) hq hL hS hr hc (by omega) (by omega)
  generalize qS _=W at pA pD
  unfold WA zio Zj at pA
  unfold Zj at sA
  unfold zl3 jA at pD
  unfold jA z6 at dA
  rw[←hX]at dA
  have w1:IntKind.i64.wrap ((i:Int)+1)=((i+1:Nat):Int):=zG (by omega)
  simp (maxSteps:=1000000) [go_sem,hil,em]
  refine qI 18 vS ?_ (ha':=by simp[go_sem,ZU])
  simp (maxSteps:=1000000) [go_sem]
  refine qI 17 sA ?_ (ha':=by simp[go_sem,ZU])
  simp (maxSteps:=1000000) [go_sem,hil,em]
  refine qI 16 pA ?_
  simp (maxSteps:=1000000) [go_sem,hil,em]
  refine qI 20 dA ?_ (ha':=by simp[go_sem,ZU])
  simp (maxSteps:=1000000) [go_sem,hil,em]
  refine qI 19 pD ?_
  simp (maxSteps:=1000000) [go_sem,w1]
  exact next (i+1,L,sr,sc) ⟨by show i+1≤_;omega,hL,by show 0≤sr∧sr<500;omega,by show 0≤sc∧sc≤1000;omega⟩ (h3:=by show l.length- (i+1)<l.length-i;omega)
 ·simp (maxSteps:=1000000) [go_sem,hil]
  refine zq aw ?_
  simp (maxSteps:=1000000) [go_sem]
  exact ret
end
end Go.Proofs.YtfjdbbpimklecaaGreatDoor
