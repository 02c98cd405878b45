/- A part of the proof of this seat's statements, by an abstract machine: what each operation does to values, and what the law's functions compute. Conditions: as each law says. -/
import Derived.Test.YtjefahhmkcfiiaaGreatT42
import Derived.Test.YtjefahhmkcfiiaaGreatT41
section
namespace Go.Proofs.YtjefahhmkcfiiaaGreat
open Go.AM
set_option maxHeartbeats 4000000
set_option maxRecDepth 10000
attribute [local irreducible] za
theorem zlC:∀{S:List Nat} {a:Int},S.Pairwise (· < ·)→∀{i:Nat} (h:i<S.length),i<cnt S a→(S[i]:Int)<a
 |s::S,a,hS,i,h,hi=>by
  rw[List.pairwise_cons]at hS
  have hz:¬(s:Int)<a→cnt (s::S) a=0:=fun q=>by
   unfold cnt
   refine List.countP_eq_zero.2 fun x hx=>?_
   rcases List.mem_cons.1 hx with rfl|hx
   ·simpa using q
   ·have:=hS.1 x hx
    simp only[decide_eq_true_eq];omega
  by_cases q:(s:Int)<a
  ·cases i with
   |zero=>exact q
   |succ i=>
    have e:cnt (s::S) a=cnt S a+1:=by unfold cnt;rw[List.countP_cons_of_pos (by simpa using q)]
    rw[e]at hi
    exact zlC hS.2 (by simpa using h) (by omega)
  ·rw[hz q]at hi;omega
theorem zaV(l:List Nat)(k:Nat):cut (Zt l) 0 k=Zt (l.take k):=by simp[cut,Zt]
theorem Sem.zf4 [Gi] {P:Program} {c:Code} {Q:Exit→St→Prop} {S:St}(V:List (Nat×AV))(R:List (Tok×List AV))(h:AM.Sem P c Q (S.zaF V R))(hl:LeS S (S.zaF V R):=by simp[go_sem,LeS,leV,leR,leA,leL,zn,leT,leP]):AM.Sem P c Q S:=AM.Sem.le h hl
theorem zic [Gi] {e:PV}(hT:Zc e) {l l':List Int} {L L':List (List Int)}(h:Ln l L)(h':Ln l' L')(b o c:Nat)(hb:b≤l.length)(ho:o≤l.length)(hc:c≤l'.length)(_:b≤o)(_:b≤c)
  (h1:l.take b=l'.take b) (h2:l.drop o=l'.drop c):CR Tryz.prog 154 [] [.p (X1 L),.p e,.p (zg l'),.p (wh b o c)] [] (is (.p (X1 L'))):=by
 refine Wl 17 [103,104,105] Tryz.func154 rfl [] rfl (by simp) (by simp) ?_
 have hcl:=h.cl
 have hcl':=h'.cl
 have hs:=h.sum
 have hs':=h'.sum
 have hn:=h.n
 have hn':=h'.n
 have a1:=WQ hcl b
 have a2:=WQ hcl o
 have k0:=uK (pl L) b
 have j0:=uK (pl L) o
 rw[qo]at k0 j0
 have n0:=hcl.len
 have n1:=hcl'.len
 obtain⟨z0,e0,rfl⟩:=jB hT
 obtain⟨k,hk⟩:∃k,k=cnt (pl L) b-1:=⟨_,rfl⟩
 have w1:max (IntKind.i64.wrap ((cnt (pl L) b:Int)-1)) 0=(k:Int):=by
  rw[wrap64 (by omega) (by omega)];omega
 refine Sem.Zx [] mixed ?_
 simp (maxSteps:=1000000) [go_sem,Tryz.f154,wh]
 refine Sem.scope ?_
 refine Sem.Zx [] mixed ?_
 simp (maxSteps:=1000000) [go_sem]
 refine zo a1 ?_
 simp (maxSteps:=1000000) [go_sem,w1]
 refine Sem.Zx [] mixed ?_
 simp (maxSteps:=1000000) [go_sem]
 refine Sem.Zx [] mixed ?_
 simp (maxSteps:=1000000) [go_sem]
 have hkl:k≤L.length:=by omega
 have w2:min (k:Int) (L.length:Int)=(k:Int):=by omega
 have hq:(k<L.length∧elemAt (Zt (pl L)) k=.int .i64 (plc L k:Nat))∨(¬k<L.length∧plc L k=0):=by
  by_cases g:k<L.length
  ·exact .inl ⟨g,zhF g⟩
  ·have:k=0:=by omega
   exact .inr ⟨g,by rw[this,Qh]⟩
 have hfr:L'.take k=L.take k:=zfA h.eq h'.eq hb h1 hkl (by
  rcases Nat.eq_zero_or_pos k with z|z
  ·exact .inl z
  ·have:=zlC (zg2 hcl) (i:=k) (a:=b) (by rw[qo];omega) (by omega)
   rw[ZU]at this
   exact .inr (by omega))
 have f1:k≤L'.length:=by
  have:=congrArg List.length hfr
  rw[List.length_take,List.length_take]at this;omega
 have f2:(pl L').take k=(pl L).take k:=by
  refine List.ext_getElem (by rw[List.length_take,List.length_take,qo,qo];omega) fun n x1 x2=>?_
  rw[List.length_take]at x1
  rw[List.getElem_take,List.getElem_take,ZU,ZU]
  have:=congrArg (List.take n) hfr
  rw[List.take_take,List.take_take,Nat.min_eq_left (by omega)]at this
  unfold plc;rw[this]
 have f3:plc L' k=plc L k:=by unfold plc;rw[hfr]
 have w3:IntKind.i64.wrap ((c:Int)-o)=(c:Int)-o:=wrap64 (by omega) (by omega)
 rcases hq with ⟨g1,g2⟩|⟨g1,g2⟩
 all_goals
  simp (maxSteps:=1000000) [go_sem,g1,g2]
  refine Sem.Zx [] mixed ?_
  simp (maxSteps:=1000000) [go_sem,w2]
  refine⟨hkl,by rw[zaV,zd0,List.length_take,qo];omega,?_⟩
  rw[zaV,←f2]
  refine Sem.Zx [] mixed ?_
  simp (maxSteps:=1000000) [go_sem,w3]
  refine Sem.Zx [] mixed ?_
  simp (maxSteps:=1000000) [go_sem]
  refine zo a2 ?_
  simp (maxSteps:=1000000) [go_sem]
  refine Sem.label (Sem.Zx [] mixed ?_)
  simp (maxSteps:=1000000) [go_sem]
  refine loop (fun i:Nat×Nat=>k≤i.1∧i.1≤L'.length∧cnt (pl L) o≤i.2∧i.2≤L.length) (fun i=>[(10,.p (.int .i64 (plc L' i.1:Nat))),(13,.p (.int .i64 i.2)),(14,.zW)])
   (fun i=>[([11],[.os [41] 1 (Zt ((pl L').take i.1)),.p (.int .i64 l'.length)])]) (fun i=>L'.length-i.1) (k,cnt (pl L) o) ⟨Nat.le_refl _,f1,Nat.le_refl _,j0⟩ (fun i hi=>?_) (h0:=by simp[go_sem,LeS,leV,leR,leA,leL,f3,g2])
  obtain⟨i,j⟩:=i
  obtain⟨i1,i2,i3,i4⟩:=hi
  simp only at i1 i2 i3 i4
  by_cases q1:i<L'.length
  ·have d0:=yE hcl' q1 (Nat.le_refl _)
   rw[Zj,hs']at d0
   have hnx:=uH hT h' q1
   have t1:Zt ((pl L').take i)++[.int .i64 (plc L' i:Nat)]=Zt ((pl L').take (i+1)):=by
    rw[List.take_succ_eq_append_getElem (by rw[qo];exact q1),V5,ZU];rfl
   have t2:((pl L').take i).length=i:=by rw[List.length_take,qo];omega
   simp (maxSteps:=1000000) [go_sem,d0]
   refine loop (fun m:Nat=>j≤m∧m≤L.length) (fun m=>[(13,.p (.int .i64 m)),(14,.zW)]) (fun _=>[]) (fun m=>L.length-m) j ⟨Nat.le_refl _,i4⟩ (fun m hm=>?_)
   obtain⟨m1,m2⟩:=hm
   by_cases q2:c≤plc L' i
   ·by_cases q3:m<L.length
    ·have em:=zhF q3
     have w4:IntKind.i64.wrap ((plc L m:Int)+((c:Int)-o))=(plc L m:Int)+((c:Int)-o):=by
      have:=vV hcl (k:=m) (by omega)
      exact wrap64 (by omega) (by omega)
     have w5:IntKind.i64.wrap ((m:Int)+1)=((m+1:Nat):Int):=zI (by omega)
     by_cases q4:(plc L m:Int)+((c:Int)-o)< (plc L' i:Int)
     ·simp (maxSteps:=1000000) [go_sem,q2,q3,em,w4,q4,w5]
      exact next (m+1) ⟨by omega,q3⟩ (h3:=by show L.length- (m+1)<L.length-m;omega)
     ·by_cases q5:(plc L m:Int)+((c:Int)-o)=(plc L' i:Int)
      ·have w6:IntKind.i64.wrap (plc L' i:Int)=(plc L' i:Int):=wrap64 (by omega) (by omega)
       simp (maxSteps:=1000000) [go_sem,q2,q3,em,q5,w6]
       refine Sem.Zx [] mixed ?_
       simp (maxSteps:=1000000) [go_sem,d0]
       have v1:cut (Zt (pl L)) m L.length=Zt ((pl L).drop m):=by simp[cut,Zt,qo,List.take_of_length_le]
       have v2:((pl L).drop m).length=L.length-m:=by rw[List.length_drop,qo]
       have hdr:L'.drop i=L.drop m:=by
        refine ziA h.eq h'.eq i2 m2 ?_
        have x1:plc L m=o+(plc L' i-c):=by omega
        have x2:plc L' i=c+(plc L' i-c):=by omega
        rw[x1,x2,←List.drop_drop,←List.drop_drop,h2]
        congr 1;omega
       have v3:L'.length-i=L.length-m:=by
        have:=congrArg List.length hdr
        rw[List.length_drop,List.length_drop]at this;exact this
       have v4:∀d,(plc L' (i+d):Int)=plc L (m+d)+((c:Int)-o):=fun d=>by
        rw[zdT,zdT,hdr];omega
       refine⟨m2,?_⟩
       rw[v1]
       refine loop (fun d:Nat=>d≤L.length-m) (fun d=>[(105,.p (.int .i64 d)),(16,.zW)]) (fun d=>[([11],[.os [41] 1 (Zt ((pl L').take (i+d))),.p (.int .i64 l'.length)])]) (fun d=>L.length-m-d) 0 (Nat.zero_le _) (fun d hd=>?_)
       by_cases u1:d<L.length-m
       ·have u2:elemAt (Zt ((pl L).drop m)) d=.int .i64 (plc L (m+d):Nat):=by
         rw[WD (by rw[v2];exact u1),List.getElem_drop,ZU]
        have u3:IntKind.i64.wrap ((plc L (m+d):Int)+((c:Int)-o))=(plc L' (i+d):Int):=by
         rw[v4]
         have:=vV hcl (k:=m+d) (by omega)
         exact wrap64 (by omega) (by omega)
        have u4:Zt ((pl L').take (i+d))++[.int .i64 (plc L' (i+d):Nat)]=Zt ((pl L').take (i+(d+1))):=by
         rw[←Nat.add_assoc,List.take_succ_eq_append_getElem (by rw[qo];omega),V5,ZU];rfl
        have u5:((pl L').take (i+d)).length=i+d:=by rw[List.length_take,qo];omega
        have u6:IntKind.i64.wrap ((d:Int)+1)=((d+1:Nat):Int):=zI (by omega)
        have u7:(d:Int)< ((L.length-m:Nat):Int):=by omega
        simp (maxSteps:=1000000) [go_sem,v2,u2,u3,u4,u5,u6,u7]
        refine⟨by omega,?_⟩
        exact x7 (d+1) [([41],[11,0]),([4],[4]),([7],[7]),([8],[8]),([11],[11])] u1 (by simp[go_sem,LeS,leV,leR,leA,leL]) (by show L.length-m- (d+1)<L.length-m-d;omega)
       ·obtain rfl:d=L.length-m:=by omega
        have u8:(pl L').take (i+(L.length-m))=pl L':=List.take_of_length_le (by rw[qo];omega)
        simp (maxSteps:=1000000) [go_sem,v2,u8]
        refine Sem.zf4 [] [([11],[.p (.sl 1 (Zt (pl L'))),.p (.int .i64 l'.length)])] ?_
        refine Sem.of [] mixed ?_
        simp (maxSteps:=1000000) [go_sem,hs']
        exact ret
      ·simp (maxSteps:=1000000) [go_sem,q2,q3,em,w4,q4,q5,t1,t2]
       refine⟨by omega,zo hnx ?_⟩
       simp (maxSteps:=1000000) [go_sem]
       exact x7 (i+1,m) [([41],[11,0]),([4],[4]),([7],[7]),([8],[8]),([11],[11])] ⟨by show k≤i+1;omega,q1,by show cnt (pl L) o≤m;omega,m2⟩ (by simp[go_sem,LeS,leV,leR,leA,leL]) (by show L'.length- (i+1)<L'.length-i;omega)
    ·simp (maxSteps:=1000000) [go_sem,q2,q3,t1,t2]
     refine⟨by omega,zo hnx ?_⟩
     simp (maxSteps:=1000000) [go_sem]
     exact x7 (i+1,m) [([41],[11,0]),([4],[4]),([7],[7]),([8],[8]),([11],[11])] ⟨by show k≤i+1;omega,q1,by show cnt (pl L) o≤m;omega,m2⟩ (by simp[go_sem,LeS,leV,leR,leA,leL]) (by show L'.length- (i+1)<L'.length-i;omega)
   ·simp (maxSteps:=1000000) [go_sem,q2,t1,t2]
    refine⟨by omega,zo hnx ?_⟩
    simp (maxSteps:=1000000) [go_sem]
    exact x7 (i+1,m) [([41],[11,0]),([4],[4]),([7],[7]),([8],[8]),([11],[11])] ⟨by show k≤i+1;omega,q1,by show cnt (pl L) o≤m;omega,m2⟩ (by simp[go_sem,LeS,leV,leR,leA,leL]) (by show L'.length- (i+1)<L'.length-i;omega)
  ·obtain rfl:i=L'.length:=by omega
   have t3:(pl L').take L'.length=pl L':=List.take_of_length_le (by rw[qo];omega)
   simp (maxSteps:=1000000) [go_sem,Zj,hs',t3]
   refine Sem.Zx [] mixed ?_
   simp (maxSteps:=1000000) [go_sem]
   refine Sem.zf4 [] [([11],[.p (.sl 1 (Zt (pl L'))),.p (.int .i64 l'.length)])] ?_
   refine Sem.of [] mixed ?_
   simp (maxSteps:=1000000) [go_sem]
   exact ret
end Go.Proofs.YtjefahhmkcfiiaaGreat
end
section
namespace Go.Proofs.YtjefahhmkcfiiaaGreat
open Go.AM
set_option maxHeartbeats 4000000
set_option maxRecDepth 10000
attribute [local irreducible] za
theorem zek {S:List Nat} {a:Int}(h:a≤0):cnt S a=0:=by
 unfold cnt
 exact List.countP_eq_zero.2 fun x _=>by simp only[decide_eq_true_eq];omega
theorem zkN [Gi] {L:List (List Int)}(h:ClL L)(a:Int):CR Tryz.prog 97 [] [.p (X1 L),.p (.int .i64 a)] [] (is (.p (.int .i64 (plc L (cnt (pl L) a):Nat)))):=by
 refine walk Tryz.func97 5 [] [3] [] ?_
 by_cases c1:a≤0
 ·rw[zek c1,Qh]
  simp (maxSteps:=1000000) [go_sem,Tryz.f97,c1]
  exact ret
 ·have hk:=uK (pl L) a
  rw[qo]at hk
  have h1:=WQ h a
  have h2:=zbg L (cnt (pl L) a:Nat)
  rw[zfL hk]at h2
  simp (maxSteps:=1000000) [go_sem,Tryz.f97,c1]
  refine kE 156 h1 ?_
  simp (maxSteps:=1000000) [go_sem]
  refine kE 155 h2 ?_
  simp (maxSteps:=1000000) [go_sem]
  exact ret
def kL:List Tok:=[[0],[0,1]]
attribute [go_sem] kL
def zlh(e:PV)(L:List (List Int)):AV→List (Tok×List AV)→Prop:=fun _ rs=>∃X,yP X L∧rs=txR e X L
def zqe(e:PV)(L:List (List Int)):AV→List (Tok×List AV)→Prop:=fun _ rs=>∃X,yP X L∧Qo (St.ofR rs) (idm txT) (idm txT)=txR e X L
theorem CR.zlh [Gi] {f:FuncId} {args:List AV} {rs:List (Tok×List AV)} {e:PV} {L:List (List Int)}(h:CR Tryz.prog f kL args rs (zqe e L)):CR Tryz.prog f kL args rs (zlh e L):=by
 refine CR.ren h 1000000 ?_
 rintro x rs' ⟨X,h1,h2⟩
 exact⟨idm txT,by decide,by decide,X,h1,h2⟩
theorem znN [Gi] {e:PV}(hT:Zc e) {x:Tx} {L L':List (List Int)}(h:yP x L)(hl:Ln L.flatten L) {l':List Int}(h':Ln l' L')(b o c:Nat)(ho:o≤L.flatten.length)(hc:c≤l'.length)(hbo:b≤o)(hbc:b≤c)
  (h1:L.flatten.take b=l'.take b) (h2:L.flatten.drop o=l'.drop c):
  CR Tryz.prog 96 kL [.lp [0] 0,.p (zg L.flatten),.p (zg l'),.p (wh b o c)] (txR e x L) (zlh e L'):=by
 refine CR.zlh (walk Tryz.func96 8 [] [2] [] ?_)
 have hn:=h.n
 have hlen:=h.len
 have hs:=hl.sum
 have hn1:=hl.n
 have hn2:=h'.n
 have h8:=h.ft
 have h9:=h.tl
 have g1:=zc6 x.g x.f x.t b o (cut l' b c) h.ft h.tl (by unfold cut;rw[List.length_take,List.length_drop];omega)
 have g2:=zic hT hl h' b o c (by omega) ho hc hbo hbc h1 h2
 obtain⟨z0,e0,rfl⟩:=jB hT
 simp (maxSteps:=1000000) [go_sem,Tryz.f96,wh]
 refine⟨⟨hbc,hc⟩,call KT g1 ?_⟩
 rintro _ _ ⟨G,f',t',rfl,k1,k2,k3,rfl,k4⟩
 simp (maxSteps:=1000000) [go_sem]
 refine kE 154 g2 ?_ (ha':=by simp[go_sem,wh])
 simp (maxSteps:=1000000) [go_sem]
 have hok:okS x.g x.f x.t b o=true:=by
  unfold okS
  have:=xQ x.g x.f x.t h8 h9
  rw[h.held]at this
  refine decide_eq_true ⟨by omega,by omega,by omega⟩
 rw[if_pos hok,h.held]at k4
 refine zi txT (.tup []) (by simp[txT]) (by simp[go_sem,zd,leT]) ⟨⟨G,f',t'⟩,⟨k1,k2,?_,?_,h'.cl⟩,?_⟩
 ·have q1:(cut l' (b:Nat) (c:Nat)).length≤l'.length:=by unfold cut;rw[List.length_take,List.length_drop];omega
  show((G.length:Nat):Int)≤_
  omega
 ·show held G f' t'=_
  rw[k4,h'.flat]
  unfold spliced
  simp only[Int.toNat_natCast]
  rw[h1,h2]
  unfold cut
  simp only[Int.toNat_natCast]
  have e1:l'.drop c=(l'.drop b).drop (c-b):=by rw[List.drop_drop];congr 1;omega
  rw[e1,List.append_assoc,List.take_append_drop,List.take_append_drop]
 ·simp (maxSteps:=1000000) [go_sem]
end Go.Proofs.YtjefahhmkcfiiaaGreat
end
section
namespace Go.Proofs.YtjefahhmkcfiiaaGreat
open Go.AM
set_option maxHeartbeats 4000000
set_option maxRecDepth 10000
attribute [local irreducible] za
def kI(b:Nat)(x y:List Int)(k:Nat):PV:=.agg [.int .i64 b,zg x,zg y,.int .i64 k]
def xq:PV:=.agg [.int .i64 0,.opq (.slice none 0 0),.opq (.slice none 0 0),.int .i64 0]
def okT(L:List (List Int))(f t:Int):Bool:=decide (0≤f∧f≤t∧t≤qd L∧(plc L (kf L f):Int)=f∧(plc L (kf L t):Int)=t)
def V3(l l':List Int)(L':List (List Int))(b o c t:Nat):PV:=
 kI (jo l l' b o c).1 (cut l (jo l l' b o c).1 (jo l l' b o c).2.1) (cut l' (jo l l' b o c).1 (jo l l' b o c).2.2) (plc L' (cnt (pl L') (qE l l' b t o c)))
def zmK(e:PV)(x:Tx)(L:List (List Int))(v:AV):AV→List (Tok×List AV)→Prop:=fun y rs=>y=v∧Qo (St.ofR rs) (idm txT) (idm txT)=txR e x L
theorem zlB [Gi] {f:FuncId} {args:List AV} {rs:List (Tok×List AV)} {e:PV} {x:Tx} {L:List (List Int)} {v:AV}(h:CR Tryz.prog f kL args rs (zmK e x L v))(hv:v.ren (inM (idm txT))=v:=by rfl):CR Tryz.prog f kL args rs (uO (txR e x L) v):=by
 refine CR.ren h 1000000 ?_
 rintro y rs' ⟨rfl,h2⟩
 exact⟨idm txT,by decide,by decide,h2,hv⟩
theorem zap [Gi](e:PV) {x:Tx} {L:List (List Int)}(h:yP x L)(f t:Int)(ins:List Int)(hb:okT L f t=false):
  CR Tryz.prog 45 kL [.lp [0] 0,.p (.int .i64 f),.p (.int .i64 t),.p (zg ins)] (txR e x L) (uO (txR e x L) (.tup [.p xq,.p (.int .i64 2)])):=by
 have hg:=h.n
 have hlen:=h.len
 have gf:=jy h.cl f
 have gt:=jy h.cl t
 have gl:=kW x.g x.f x.t h.ft h.tl (by omega)
 rw[hlen]at gl
 unfold okT at hb
 have hb:=of_decide_eq_false hb
 obtain⟨ef,hef⟩:∃ef:Nat,ef=plc L (kf L f):=⟨_,rfl⟩
 obtain⟨et,het⟩:∃et:Nat,et=plc L (kf L t):=⟨_,rfl⟩
 rw[←hef]at gf hb
 rw[←het]at gt hb
 refine zlB (walk Tryz.func45 15 [] [10] [] ?_)
 by_cases c0:f<0
 ·simp (maxSteps:=1000000) [go_sem,Tryz.f45,c0]
  exact zi txT (.tup [.p xq,.p (.int .i64 2)]) (by simp[txT]) (by simp[go_sem,zd,leA,leT,leP,xq]) ⟨rfl,by simp[go_sem]⟩
 ·by_cases c1:t<f
  ·simp (maxSteps:=1000000) [go_sem,Tryz.f45,c0,c1]
   exact zi txT (.tup [.p xq,.p (.int .i64 2)]) (by simp[txT]) (by simp[go_sem,zd,leA,leT,leP,xq]) ⟨rfl,by simp[go_sem]⟩
  ·simp (maxSteps:=1000000) [go_sem,Tryz.f45,c0,c1]
   refine call KT gl ?_
   rintro _ _ ⟨rfl,rfl⟩
   by_cases c2:(qd L:Int)<t
   ·simp (maxSteps:=1000000) [go_sem,c2]
    exact zi txT (.tup [.p xq,.p (.int .i64 2)]) (by simp[txT]) (by simp[go_sem,zd,leA,leT,leP,xq]) ⟨rfl,by simp[go_sem]⟩
   ·simp (maxSteps:=1000000) [go_sem,c2]
    refine zo gf ?_
    by_cases c3:(ef:Int)=f
    ·simp (maxSteps:=1000000) [go_sem,c3]
     refine zo gt ?_
     have c4:¬(et:Int)=t:=by omega
     simp (maxSteps:=1000000) [go_sem,c4]
     exact zi txT (.tup [.p xq,.p (.int .i64 2)]) (by simp[txT]) (by simp[go_sem,zd,leA,leT,leP,xq]) ⟨rfl,by simp[go_sem]⟩
    ·simp (maxSteps:=1000000) [go_sem,c3]
     exact zi txT (.tup [.p xq,.p (.int .i64 2)]) (by simp[txT]) (by simp[go_sem,zd,leA,leT,leP,xq]) ⟨rfl,by simp[go_sem]⟩
theorem Vd [Gi] {e:PV}(hT:Zc e) {x:Tx} {L:List (List Int)}(h:yP x L)(hl:Ln L.flatten L)(hn:L.flatten.length≤65536)(f t:Nat)(hft:f≤t)(ht:t≤L.flatten.length)(hf1:plc L (kf L f)=f)(ht1:plc L (kf L t)=t)
  (ins:List Int) (hi:ins.length≤65536) (hri:∀x∈ins,zB x) (hs:65536< (zD L.flatten f t ins).length):
  CR Tryz.prog 45 kL [.lp [0] 0,.p (.int .i64 f),.p (.int .i64 t),.p (zg ins)] (txR e x L) (uO (txR e x L) (.tup [.p xq,.p (.int .i64 3)])):=by
 refine zlB (walk Tryz.func45 15 [] [10] [] ?_)
 have hg:=h.n
 have hlen:=h.len
 have hsum:=hl.sum
 have gf:=jy h.cl f
 have gt:=jy h.cl t
 rw[hf1]at gf
 rw[ht1]at gt
 have gl:=kW x.g x.f x.t h.ft h.tl (by omega)
 have ga:=WC x.g x.f x.t h.ft h.tl h.n
 have q0:¬(f:Int)<0:=by omega
 have q1:¬(t:Int)<f:=by omega
 have q2:¬((x.g.length:Int)- (x.t-x.f))<t:=by omega
 have hsp:=zbu hT L.flatten hn hl.r f t hft ht ins hi hri
 have q4:(65536:Int)< (zD L.flatten f t ins).length:=by omega
 generalize zD L.flatten f t ins=N at hs hsp q4
 generalize qU L.flatten f=b at hsp
 generalize onL L.flatten t=o at hsp
 generalize (yM L.flatten f t ins).length=m at hsp
 simp (maxSteps:=1000000) [go_sem,Tryz.f45,q0,q1]
 refine call KT gl ?_
 rintro _ _ ⟨rfl,rfl⟩
 simp (maxSteps:=1000000) [go_sem,q2]
 refine zo gf ?_
 simp (maxSteps:=1000000) [go_sem]
 refine zo gt ?_
 simp (maxSteps:=1000000) [go_sem]
 refine call KT ga ?_
 rintro _ _ ⟨rfl,rfl⟩
 rw[h.held]
 simp (maxSteps:=1000000) [go_sem]
 refine zo hsp ?_
 simp (maxSteps:=1000000) [go_sem,wh,q4]
 exact zi txT (.tup [.p xq,.p (.int .i64 3)]) (by simp[txT]) (by simp[go_sem,zd,leA,leT,leP,xq]) ⟨rfl,by simp[go_sem]⟩
theorem y7 [Gi] {e:PV}(hT:Zc e) {x:Tx} {L:List (List Int)}(h:yP x L)(hl:Ln L.flatten L)(hn:L.flatten.length≤65536)(f t:Nat)(hft:f≤t)(ht:t≤L.flatten.length)(hf1:plc L (kf L f)=f)(ht1:plc L (kf L t)=t)
  (ins:List Int) (hi:ins.length≤65536) (hri:∀x∈ins,zB x) (hs:(zD L.flatten f t ins).length≤65536):
  CR Tryz.prog 45 kL [.lp [0] 0,.p (.int .i64 f),.p (.int .i64 t),.p (zg ins)] (txR e x L) (fun y rs=>zlh e (zL za (zD L.flatten f t ins)) y rs∧
   y=.tup [.p (V3 L.flatten (zD L.flatten f t ins) (zL za (zD L.flatten f t ins)) (qU L.flatten f) (onL L.flatten t) (qU L.flatten f+(yM L.flatten f t ins).length) t),.p (.int .i64 0)]):=by
 refine CR.ren (R:=fun y rs=>zqe e (zL za (zD L.flatten f t ins)) y rs∧
   y=.tup [.p (V3 L.flatten (zD L.flatten f t ins) (zL za (zD L.flatten f t ins)) (qU L.flatten f) (onL L.flatten t) (qU L.flatten f+(yM L.flatten f t ins).length) t),.p (.int .i64 0)]) ?_ 1000000 ?_
 ·refine walk Tryz.func45 15 [] [10] [] ?_
  have hg:=h.n
  have hlen:=h.len
  have hsum:=hl.sum
  have gf:=jy h.cl f
  have gt:=jy h.cl t
  rw[hf1]at gf
  rw[ht1]at gt
  have gl:=kW x.g x.f x.t h.ft h.tl (by omega)
  have ga:=WC x.g x.f x.t h.ft h.tl h.n
  have q0:¬(f:Int)<0:=by omega
  have q1:¬(t:Int)<f:=by omega
  have q2:¬((x.g.length:Int)- (x.t-x.f))<t:=by omega
  have hb:=xB L.flatten f
  have ho:=VA L.flatten ht
  have hmid:(yM L.flatten f t ins).length≤(zD L.flatten f t ins).length:=by
   unfold zD;simp only[List.length_append];omega
  have hsp:=zbu hT L.flatten hn hl.r f t hft ht ins hi hri
  have t1:L.flatten.take (qU L.flatten f)=(zD L.flatten f t ins).take (qU L.flatten f):=by
   unfold zD
   rw[List.take_append_of_le_length (by rw[List.length_take];omega),List.take_take,Nat.min_self]
  have t2:L.flatten.drop (onL L.flatten t)=(zD L.flatten f t ins).drop (qU L.flatten f+(yM L.flatten f t ins).length):=by
   unfold zD
   have e1:(L.flatten.take (qU L.flatten f)).length=qU L.flatten f:=by rw[List.length_take];omega
   rw[←List.append_assoc,List.drop_left' (by rw[List.length_append,e1])]
  have t3:qU L.flatten f+(yM L.flatten f t ins).length≤(zD L.flatten f t ins).length:=by
   unfold zD
   simp only[List.length_append,List.length_take];omega
  have hrn:∀y∈zD L.flatten f t ins,zB y:=by
   unfold zD
   refine Qi (QH hl.r _) (Qi ?_ (QA hl.r _))
   unfold yM
   refine Zr.rune _ ?_ (Qi ?_ (Qi hri ?_))
   ·simp only[List.length_append,cut,List.length_take,List.length_drop];omega
   ·exact QH (QA hl.r _) _
   ·exact QH (QA hl.r _) _
  generalize hN:zD L.flatten f t ins=N at hs hmid hsp t1 t2 t3 hrn⊢
  generalize hB:qU L.flatten f=b at hb hsp t1 t2 t3⊢
  generalize hO:onL L.flatten t=o at ho hsp t2⊢
  generalize hC:(yM L.flatten f t ins).length=m at hmid hsp t2 t3⊢
  obtain⟨L',hL'⟩:∃L',L'=zL za N:=⟨_,rfl⟩
  have hl':Ln N L':=⟨hL',by omega,hrn⟩
  rw[←hL']
  have hp:=znN hT h hl hl' b o (b+m) ho.2 t3 (by omega) (by omega) t1 t2
  have h98:=zlH L.flatten N (by omega) (by omega) b o (b+m) t ho.2 t3 (by omega) (by omega)
  have h97:=zkN hl'.cl (qE L.flatten N b t o (b+m):Nat)
  have h100:=zia L.flatten N (by omega) (by omega) b o (b+m) (by omega) (by omega) ho.2 t3
  have n1:=zc1 L.flatten N (min o (b+m)-b) b
  have n2:=zcK L.flatten N (jo L.flatten N b o (b+m)).1 o (b+m) (by unfold jo;simp only;omega) (by unfold jo;simp only;omega)
  have n3:b≤(jo L.flatten N b o (b+m)).1:=n1.1
  have n4:(jo L.flatten N b o (b+m)).2=QJ L.flatten N (jo L.flatten N b o (b+m)).1 o (b+m):=rfl
  rw[←n4]at n2
  unfold V3
  generalize jo L.flatten N b o (b+m)=nr at h100 n2 n3⊢
  obtain⟨u,v,w⟩:=nr
  simp only at h100 n2 n3⊢
  have h99:=zgp L.flatten N (by omega) (by omega) u v w n2.1 n2.2.2.1 (by omega) (by omega)
  generalize qE L.flatten N b t o (b+m)=af at h98 h97⊢
  generalize hfl:L.flatten=l at*
  simp (maxSteps:=1000000) [go_sem,Tryz.f45,q0,q1]
  refine call KT gl ?_
  rintro _ _ ⟨rfl,rfl⟩
  simp (maxSteps:=1000000) [go_sem,q2]
  refine zo gf ?_
  simp (maxSteps:=1000000) [go_sem]
  refine zo gt ?_
  simp (maxSteps:=1000000) [go_sem]
  refine call KT ga ?_
  rintro _ _ ⟨rfl,rfl⟩
  have hh:=h.held
  simp only[hfl]at hh
  rw[hh]
  simp (maxSteps:=1000000) [go_sem]
  refine zo hsp ?_
  have q4:¬(65536:Int)<N.length:=by omega
  simp (maxSteps:=1000000) [go_sem,wh,q4]
  refine call (idm txT) hp ?_ (ha':=by simp[go_sem,wh])
  rintro _ _ ⟨X,hX,rfl⟩
  simp (maxSteps:=1000000) [go_sem]
  refine kE 98 h98 ?_ (ha':=by simp[go_sem,wh])
  simp (maxSteps:=1000000) [go_sem]
  refine kE 97 h97 ?_
  simp (maxSteps:=1000000) [go_sem]
  refine zo h100 ?_ (ha':=by simp[go_sem,wh])
  simp (maxSteps:=1000000) [go_sem,wh]
  refine zo h99 ?_ (ha':=by simp[go_sem,wh])
  simp (maxSteps:=1000000) [go_sem,jW]
  exact zi txT (.tup [.p (kI u (cut l u v) (cut N u w) (plc L' (cnt (pl L') af))),.p (.int .i64 0)]) (by simp[txT]) (by simp[go_sem,zd,leA,leT,leP,kI]) ⟨⟨X,hX,by simp[go_sem]⟩,rfl⟩
 ·rintro y rs ⟨⟨X,x1,x2⟩,rfl⟩
  exact⟨idm txT,by decide,by decide,⟨X,x1,x2⟩,rfl⟩
end Go.Proofs.YtjefahhmkcfiiaaGreat
end
section
namespace Go.Proofs.YtjefahhmkcfiiaaGreat
open Go.AM
set_option maxHeartbeats 1000000
set_option maxRecDepth 10000
attribute [local irreducible] za
theorem Je {k:Int→Int} {x f:Int}(hx:0≤k x)(hf:k f=0):∀Z:List Int,∃W,∀O:List Int,qf k x (Z++f::O)=W++f::O
 | []=>⟨[x],fun O=>by rw[List.nil_append,qf,if_neg (by omega)];rfl⟩
 |z::Z=>by
  obtain⟨W,hW⟩:=Je hx hf Z
  by_cases c:k x≠0∧k x<k z
  ·exact⟨z::W,fun O=>by rw[List.cons_append,qf,if_pos c,hW O];rfl⟩
  ·exact⟨x::z::Z,fun O=>by rw[List.cons_append,qf,if_neg c];rfl⟩
theorem ziW {k:Int→Int} {x f:Int}(hx:0≤k x)(hf:k f=0)(Z:List Int):∃W,∀O:List Int,QK k (O++f::Z) x=O++f::W:=by
 obtain⟨W,hW⟩:=Je hx hf Z.reverse
 refine⟨W.reverse,fun O=>?_⟩
 have e:(O++f::Z).reverse=Z.reverse++f::O.reverse:=by simp
 unfold QK
 rw[e,hW]
 simp
theorem XK {k:Int→Int} {f:Int}(hk:∀x,0≤k x)(hf:k f=0):∀(Y Z:List Int),∃W,∀O:List Int,Y.foldl (QK k) (O++f::Z)=O++f::W
 | [],Z=>⟨Z,fun _=>rfl⟩
 |y::Y,Z=>by
  obtain⟨V,hV⟩:=ziW (hk y) hf Z
  obtain⟨W,hW⟩:=XK hk hf Y V
  exact⟨W,fun O=>by rw[List.foldl_cons,hV,hW]⟩
theorem zjw {k:Int→Int} {f:Int}(hf:k f=0)(O:List Int):QK k O f=O++[f]:=by
 unfold QK
 rw[XR (.inl hf)]
 simp
theorem zfC {k:Int→Int} {f:Int}(hk:∀x,0≤k x)(hf:k f=0)(Y:List Int):∃W,∀X:List Int,jK k (X++f::Y)=jK k X++f::W:=by
 obtain⟨W,hW⟩:=XK hk hf Y []
 refine⟨W,fun X=>?_⟩
 unfold jK
 rw[List.foldl_append,List.foldl_cons,zjw hf,hW]
theorem Vv {k:Int→Int}(o:List Int):0≤zY k o↔∃y∈o,k y=0:=by
 refine xE (P:=fun o=>0≤zY k o↔∃y∈o,k y=0) ?_ (fun o y ih=>?_) o.length o rfl
 ·simp[zY,vH]
 ·rw[Zg]
  by_cases c:k y=0
  ·rw[if_pos c]
   exact⟨fun _=>⟨y,by simp,c⟩,fun _=>by omega⟩
  ·rw[if_neg c,ih]
   constructor
   ·rintro⟨z,h1,h2⟩
    exact⟨z,by simp[h1],h2⟩
   ·rintro⟨z,h1,h2⟩
    rcases List.mem_append.1 h1 with h1|h1
    ·exact⟨z,h1,h2⟩
    ·rw[List.mem_singleton.1 h1]at h2;exact absurd h2 c
theorem zgm {k:Int→Int}(C D:List Int):zY k (C++D)=if 0≤zY k D then C.length+zY k D else zY k C:=by
 refine xE (P:=fun D=>zY k (C++D)=if 0≤zY k D then(C.length:Int)+zY k D else zY k C) ?_ (fun D y ih=>?_) D.length D rfl
 ·have:zY k []= -1:=rfl
  rw[this,List.append_nil,if_neg (by decide)]
 ·rw[←List.append_assoc,Zg,Zg,List.length_append]
  by_cases c:k y=0
  ·rw[if_pos c,if_pos c,if_pos (by omega)];omega
  ·rw[if_neg c,if_neg c];exact ih
theorem zi5 {k:Int→Int} {mk:Int→Int→Option Int} {D:List Int}(h:0≤zY k D)(C:List Int)(x:Int):QG k mk (C++D) x=C++QG k mk D x:=by
 have hl:=(wQ k D).2
 obtain⟨p,hp⟩:∃p:Nat,zY k D=p:=⟨(zY k D).toNat,by omega⟩
 have e1:zY k (C++D)=((C.length+p:Nat):Int):=by rw[zgm,if_pos h,hp];omega
 have hpl:p<D.length:=by omega
 have e2:uh k (C++D) ((C.length+p:Nat):Int) x=uh k D (p:Int) x:=by
  unfold uh
  have q1:(C++D).length-1=C.length+(D.length-1):=by rw[List.length_append];omega
  have q2:(C++D)[(C++D).length-1]?=D[D.length-1]?:=by
   rw[q1,List.getElem?_append_right (by omega)];congr 1;omega
  rw[q2]
  congr 1
  rw[decide_eq_decide,List.length_append]
  omega
 have e3:(C++D)[C.length+p]?=D[p]?:=by rw[List.getElem?_append_right (by omega)];congr 1;omega
 unfold QG
 rw[e1,hp,e2]
 simp only[Int.toNat_natCast]
 rw[e3]
 by_cases c:uh k D (p:Int) x=true
 ·rw[if_pos ⟨by omega,c⟩,if_pos ⟨by omega,c⟩]
  cases mk (D[p]?.getD 0) x with
  |none=>simp
  |some r=>
   simp only
   rw[List.set_append_right _ _ (by omega)];congr 2;omega
 ·rw[if_neg (fun q=>c q.2),if_neg (fun q=>c q.2)];simp
theorem zeQ {k:Int→Int} {mk:Int→Int→Option Int}(hm:∀a b c,mk a b=some c→k c=0) {D:List Int}(h:0≤zY k D)(x:Int):0≤zY k (QG k mk D x):=by
 have hl:=(wQ k D).2
 have hpush:0≤zY k (D++[x]):=by
  rw[Vv]at h⊢
  obtain⟨y,h1,h2⟩:=h
  exact⟨y,by simp[h1],h2⟩
 unfold QG
 split
 ·cases hz:mk (D[(zY k D).toNat]?.getD 0) x with
  |none=>exact hpush
  |some r=>
   simp only
   rw[Vv]
   exact⟨r,List.mem_set (by omega) _,hm _ _ _ hz⟩
 ·exact hpush
theorem zaX {k:Int→Int} {mk:Int→Int→Option Int}(hm:∀a b c,mk a b=some c→k c=0):∀(Y D C:List Int),0≤zY k D→Y.foldl (QG k mk) (C++D)=C++Y.foldl (QG k mk) D
 | [],_,_,_=>rfl
 |y::Y,D,C,h=>by
  rw[List.foldl_cons,List.foldl_cons,zi5 h,zaX hm Y _ C (zeQ hm h y)]
theorem zfg {k:Int→Int} {mk:Int→Int→Option Int}(hm:∀a b c,mk a b=some c→k c=0) {f:Int}(hf:k f=0)(hn:∀s,mk s f=none)(X Y:List Int):Zp k mk (X++f::Y)=Zp k mk X++Zp k mk (f::Y):=by
 have hs:∀O,QG k mk O f=O++[f]:=fun O=>by
  unfold QG
  split
  ·rw[hn]
  ·rfl
 unfold Zp
 rw[List.foldl_append,List.foldl_cons,List.foldl_cons,hs,hs]
 exact zaX hm Y [f] _ (by rw[Vv];exact⟨f,by simp,hf⟩)
theorem zmT {f:Int}(h:qcD f=0)(s:Int):mkD za s f=none:=by
 unfold qcD at h
 split at h
 ·exact absurd h (by decide)
 ·split at h
  ·exact absurd h (by decide)
  ·rename_i h2
   simp only[Bool.or_eq_true,not_or,Bool.not_eq_true]at h2
   obtain⟨h3,h4⟩:=h2
   have hj:z7 s f=none:=by
    unfold zcv at h4
    simp only[Bool.or_eq_false_iff,Bool.and_eq_false_iff,decide_eq_false_iff_not]at h4
    unfold z7
    rw[if_neg (by omega),if_neg (by omega)]
   unfold mkD
   rw[hj,Option.none_or,WS]
   cases hz:mkB (Ul za) ⟨s,f⟩with
   |none=>rfl
   |some r=>
    have:=zdK (Yh hz)
    simp only at this
    rw[h3]at this;cases this
theorem Wn {r:Int}(h:Qr r=true)(A B:List Int):zZ za (A++r::B)=zZ za A++zZ za (r::B):=by
 unfold Qr xM at h
 simp only[Bool.and_eq_true,decide_eq_true_eq]at h
 obtain⟨⟨⟨h1,h2⟩,h3⟩,h4⟩:=h
 have h0:=uE r
 obtain⟨f,tl,hf⟩:∃f tl,qj za 8 r=f::tl:=by
  cases h:qj za 8 r with
  |nil=>exact absurd h h0
  |cons x l=>exact⟨_,_,rfl⟩
 rw[hf]at h3 h4
 simp only[List.headD_cons]at h3 h4
 have e1:∀X,ZF za (X++r::B)=ZF za X++f::(tl++ZF za B):=fun X=>by
  unfold ZF
  rw[List.flatMap_append,List.flatMap_cons,hf];rfl
 obtain⟨W,hW⟩:=zfC (k:=kD za) (f:=f) zhb h3 (tl++ZF za B)
 have e2:∀X,ky za (X++r::B)=ky za X++f::W:=fun X=>by
  unfold ky
  rw[e1,hW]
 have e3:ky za (r::B)=f::W:=e2 []
 unfold zZ vO
 rw[e2,e3]
 exact zfg zlN.start h3 (zmT h4) _ _
end Go.Proofs.YtjefahhmkcfiiaaGreat
end
