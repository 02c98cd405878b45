/- A part of the proof of this seat's statements, by an abstract machine: what each operation does to values, and what the law's functions compute. Conditions: as each law says. -/
import Derived.Test.YtcgfdhdcihmeeaaGreatT01
import Derived.Laws.Build
import Derived.Laws.BytesString
section
namespace Go.AM
def cut {α:Type}(l:List α)(a b:Int):List α:=(l.drop a.toNat).take (b.toNat-a.toNat)
def xZ(P:Program)(T:TypeId)(x:AV)(lo hi mx:Option Int):PR:=
 match ty P T,x with
 |some ⟨.string,_,_,_⟩,.p (.str s)=>
  match mx with
  |none=>(0≤lo.getD 0∧lo.getD 0≤hi.getD s.length∧hi.getD s.length≤s.length,.p (.str (cut s (lo.getD 0) (hi.getD s.length))))
  |some _=>bad
 |some ⟨.slice e,_,_,_⟩,.p (.sl z es)=>sl e z es
 |some ⟨.slice e,_,_,_⟩,.os _ z es=>sl e z es
 |some ⟨.slice e,_,_,_⟩,.la t z o n=>
  match ty P e,mx with
  |some et,none=>(z=et.size∧0≤lo.getD 0∧lo.getD 0≤hi.getD n∧hi.getD n≤n,.la t z (o+(lo.getD 0).toNat*z) ((hi.getD n).toNat- (lo.getD 0).toNat))
  |_,_=>bad
 |_,_=>bad
where sl (e:TypeId) (z:Nat) (es:List PV):PR:=
 match ty P e,mx with
 |some et,none=>(z=et.size∧0≤lo.getD 0∧lo.getD 0≤hi.getD es.length∧hi.getD es.length≤es.length,.p (.sl z (cut es (lo.getD 0) (hi.getD es.length))))
 |some et,some m=>(z=et.size∧0≤lo.getD 0∧lo.getD 0≤hi.getD es.length∧hi.getD es.length≤es.length∧m=hi.getD es.length∧hi.isSome=true,
   .os [] z (cut es (lo.getD 0) (hi.getD es.length)))
 |_,_=>bad
def xu(b:Option Int)(v:Option Value):Prop:=
 match b,v with
 |none,none=>True
 |some n,some u=>∃k,u=.int k n
 |_,_=>False
theorem Z4 {P:Program} {w:World}(isS:Bool)(len cap:Nat)(lo hi mx:Option Int)(vl vh vm:Option Value)(hl:xu lo vl)(hh:xu hi vh)(hm:xu mx vm)
  (hmx:mx.isSome=true→hi.isSome=true) (h0:0≤lo.getD 0) (h1:lo.getD 0≤hi.getD len) (h2:hi.getD len≤mx.getD cap) (h3:mx.getD cap≤cap):
  (Instr.sliceBounds isS len cap vl vh vm).run P w=.ok ((lo.getD 0).toNat,(hi.getD len).toNat,(mx.getD cap).toNat) w:=by
 have sb:∀(k:IntKind) (n:Int) (y:Nat) (c:BoundsCode),0≤n→n≤y→(Instr.sliceBound (.int k n) y c).run P w=.ok n.toNat w:=by
  intro k n y c a b
  simp[Instr.sliceBound,asIntOf,a,b]
 cases mx with
 |none=>
  cases vm with
  |some u=>exact hm.elim
  |none=>
   cases hi with
   |none=>
    cases vh with
    |some u=>exact hh.elim
    |none=>
     cases lo with
     |none=>
      cases vl with
      |some u=>exact hl.elim
      |none=>simp[Instr.sliceBounds]
     |some l=>
      cases vl with
      |none=>exact hl.elim
      |some u=>
       obtain⟨k,rfl⟩:=hl
       simp only[Option.getD_some,Option.getD_none]at*
       simp[Instr.sliceBounds,sb k l len _ h0 h1]
   |some hh'=>
    cases vh with
    |none=>exact hh.elim
    |some u=>
     obtain⟨k,rfl⟩:=hh
     cases lo with
     |none=>
      cases vl with
      |some u=>exact hl.elim
      |none=>
       simp only[Option.getD_some,Option.getD_none]at*
       have:=sb k hh' cap (if isS=true then BoundsCode.sliceAcap else BoundsCode.sliceAlen) (by omega) (by omega)
       simp[Instr.sliceBounds,this]
     |some l=>
      cases vl with
      |none=>exact hl.elim
      |some u=>
       obtain⟨k',rfl⟩:=hl
       simp only[Option.getD_some,Option.getD_none]at*
       have e1:=sb k hh' cap (if isS=true then BoundsCode.sliceAcap else BoundsCode.sliceAlen) (by omega) (by omega)
       have e2:=sb k' l hh'.toNat .sliceB h0 (by omega)
       simp[Instr.sliceBounds,e1,e2]
 |some m=>
  cases vm with
  |none=>exact hm.elim
  |some u=>
   obtain⟨km,rfl⟩:=hm
   cases hi with
   |none=>simp at hmx
   |some hh'=>
    cases vh with
    |none=>exact hh.elim
    |some u=>
     obtain⟨k,rfl⟩:=hh
     simp only[Option.getD_some]at*
     have e0:=sb km m cap (if isS=true then BoundsCode.slice3Acap else BoundsCode.slice3Alen) (by omega) (by omega)
     have e1:=sb k hh' m.toNat .slice3B (by omega) (by omega)
     cases lo with
     |none=>
      cases vl with
      |some u=>exact hl.elim
      |none=>simp[Instr.sliceBounds,e0,e1]
     |some l=>
      cases vl with
      |none=>exact hl.elim
      |some u=>
       obtain⟨k',rfl⟩:=hl
       simp only[Option.getD_some]at*
       have e2:=sb k' l hh'.toNat .slice3C h0 (by omega)
       simp[Instr.sliceBounds,e0,e1,e2]
theorem qk.cut {fr:Nat→Nat} {w:World} {z b:Nat} {es:List PV} {o:Nat}(r:qk fr w z b es o)(l h:Nat)(hl:l≤es.length):qk fr w z b ((es.drop l).take h) (o+l*z):=by
 have e1:es=es.take l++es.drop l:=(List.take_append_drop l es).symm
 rw[e1]at r
 have r1:=r.left.2
 have hlen:(es.take l).length=l:=by simp;omega
 rw[hlen]at r1
 have e2:es.drop l=(es.drop l).take h++(es.drop l).drop h:=(List.take_append_drop h _).symm
 rw[e2]at r1
 exact r1.left.1
theorem zj.cut {fr:Nat→Nat} {w:World} {z:Nat} {es:List PV} {v:Value}(r:zj fr w (.sl z es) v) {l h:Nat}(hl:l≤h)(hh:h≤es.length) {base:Option Addr} {len cap m:Nat}
  (hv:v=.slice base len cap) (hm:h≤m) (hmc:m≤cap):zj fr w (.sl z ((es.drop l).take (h-l))) (.slice (if m=l then base else base.map (·.add (l*z))) (h-l) (m-l)):=by
 have hlen:((es.drop l).take (h-l)).length=h-l:=by simp;omega
 simp only[zj]at r⊢
 rcases r with ⟨rfl,a0,cap0,rfl⟩|⟨b,o,cap',e,hc,hf,he⟩
 ·injection hv with h1 h2 h3
  subst h1;subst h2;subst h3
  simp at hh;subst hh
  have:l=0:=by omega
  subst this
  exact .inl ⟨by simp,_,_,rfl⟩
 ·rw[e]at hv
  injection hv with h1 h2 h3
  subst h1;subst h2;subst h3
  right
  by_cases hml:m=l
  ·have hz:h-l=0:=by omega
   refine⟨b,o,m-l,by rw[if_pos hml,hlen],by rw[hlen];omega,?_,?_⟩
   ·rw[hlen,hz];omega
   ·rw[hz];simp[qk]
  ·refine⟨b,o+l*z,m-l,by rw[if_neg hml,hlen];simp[qf],by rw[hlen];omega,?_,?_⟩
   ·rw[hlen]
    have:=Nat.mul_le_mul_right z (show l+(h-l)≤es.length by omega)
    rw[Nat.add_mul]at this
    omega
   ·exact he.cut l (h-l) (by omega)
theorem j8 {fr:Nat→Nat} {w:World} {z:Nat} {es:List PV} {v:Value}(r:zj fr w (.sl z es) v):∃base cap,v=.slice base es.length cap∧es.length≤cap:=by
 simp only[zj]at r
 rcases r with ⟨rfl,a,cap,rfl⟩|⟨b,o,cap,e,hc,_⟩
 ·exact⟨a,cap,rfl,Nat.zero_le _⟩
 ·exact⟨_,cap,e,hc⟩
theorem Kh(l:List UInt8)(a b:Nat)(_:a≤b)(_:b≤l.length):(⟨l.toArray⟩:ByteArray).extract a b=⟨((l.drop a).take (b-a)).toArray⟩:=by
 apply ByteArray.ext
 simp only[ByteArray.data_extract]
 simp
theorem x9 {P:Program} {e:TypeId} {T:TypeId} {sz by_:Nat} {ze:Option (List PV)}(hT:ty P T=some ⟨.slice e,sz,by_,ze⟩) {z:Nat} {es:List PV} {lo hi mx:Option Int} {vl vh vm:Option Value}
  {g:Gh} {w:World} {v:Value} (h:(xZ.sl P lo hi mx e z es).1) (r:zj g.fr w (.sl z es) v)
  (hl:xu lo vl) (hh:xu hi vh) (hm:xu mx vm):
  ∃u,(Instr.sliceAt T v vl vh vm).run P w=.ok u w∧zb g w (xZ.sl P lo hi mx e z es).2 u:=by
 have hu:=zn w hT
 simp only[]at hu
 obtain⟨base,cap,rfl,hcap⟩:=j8 r
 unfold xZ.sl at h⊢
 cases het:ty P e with
 |none=>simp only[het]at h;exact h.elim
 |some et=>
  have hs:=qg w het
  simp only[het]at h⊢
  cases hmx:mx with
  |none=>
   subst hmx
   simp only[]at h⊢
   obtain⟨hz,h0,h1,h2⟩:=h
   subst hz
   have hb:=Z4 (P:=P) (w:=w) true es.length cap lo hi none vl vh vm hl hh hm (by simp) h0 h1 (by simp;omega) (by simp)
   have hm0:((none:Option Int).getD (cap:Int)).toNat=cap:=by simp
   rw[hm0]at hb
   refine⟨.slice (if cap=(lo.getD 0).toNat then base else base.map (·.add ((lo.getD 0).toNat*et.size))) ((hi.getD es.length).toNat- (lo.getD 0).toNat) (cap- (lo.getD 0).toNat),?_,?_⟩
   ·unfold Instr.sliceAt
    rw[Sem.run_bind,hu]
    simp only[Result.andThen_ok]
    unfold Instr.slice
    rw[Sem.run_bind,hu]
    simp only[Result.andThen_ok,Sem.run_bind,hb,hs,Sem.run_pure]
   ·simp only[zb]
    exact r.cut (by omega) (by omega) rfl (by omega) (by omega)
  |some m=>
   subst hmx
   simp only[]at h⊢
   obtain⟨hz,h0,h1,h2,h3,h4⟩:=h
   subst hz
   have hb:=Z4 (P:=P) (w:=w) true es.length cap lo hi (some m) vl vh vm hl hh hm (by simp[h4]) h0 h1 (by simp;omega) (by simp;omega)
   have hm0:((some m:Option Int).getD (cap:Int)).toNat=(hi.getD es.length).toNat:=by simp;omega
   rw[hm0]at hb
   refine⟨.slice (if(hi.getD es.length).toNat=(lo.getD 0).toNat then base else base.map (·.add ((lo.getD 0).toNat*et.size))) ((hi.getD es.length).toNat- (lo.getD 0).toNat) ((hi.getD es.length).toNat- (lo.getD 0).toNat),?_,?_⟩
   ·unfold Instr.sliceAt
    rw[Sem.run_bind,hu]
    simp only[Result.andThen_ok]
    unfold Instr.slice
    rw[Sem.run_bind,hu]
    simp only[Result.andThen_ok,Sem.run_bind,hb,hs,Sem.run_pure]
   ·simp only[zb]
    exact⟨r.cut (by omega) (by omega) rfl (by omega) (by omega),.inl ⟨_,_,rfl⟩⟩
theorem XW {P:Program} {T:TypeId} {x:AV} {lo hi mx:Option Int} {vl vh vm:Option Value} {g:Gh} {w:World} {v:Value}(h:(xZ P T x lo hi mx).1)(r:zb g w x v)
  (hl:xu lo vl) (hh:xu hi vh) (hm:xu mx vm):
  ∃u,(Instr.sliceAt T v vl vh vm).run P w=.ok u w∧zb g w (xZ P T x lo hi mx).2 u:=by
 unfold xZ at h⊢
 split at h
 ·rename_i sz by_ ze s hT
  have hu:=zn w hT
  simp only[]at hu
  cases hmx:mx with
  |some m=>subst hmx;exact h.elim
  |none=>
   subst hmx
   simp only[zb,zj]at h r⊢
   subst r
   obtain⟨h0,h1,h2⟩:=h
   have hsz:(⟨s.toArray⟩:ByteArray).size=s.length:=by simp[ByteArray.size]
   have hvm:vm=none:=by cases vm with|none=>rfl|some u=>exact hm.elim
   subst hvm
   have hb:=Z4 (P:=P) (w:=w) false s.length s.length lo hi none vl vh none hl hh trivial (by simp) h0 h1 (by simpa using h2) (by simp)
   refine⟨_,?_,rfl⟩
   unfold Instr.sliceAt
   rw[Sem.run_bind,hu]
   simp only[Result.andThen_ok]
   unfold Instr.slice
   rw[Sem.run_bind,hu]
   simp only[Result.andThen_ok,Sem.run_bind,hsz,hb,Option.isSome_none,Bool.false_eq_true,if_false,Sem.run_pure]
   rw[Kh _ _ _ (by omega) (by omega)]
   rfl
 ·rename_i e sz by_ ze z es hT
  simp only[zb]at r
  exact x9 hT h r hl hh hm
 ·rename_i e sz by_ ze t z es hT
  simp only[zb]at r
  exact x9 hT h r.1 hl hh hm
 ·rename_i e sz by_ ze t z o n hT
  have hu:=zn w hT
  simp only[]at hu
  cases het:ty P e with
  |none=>simp only[het]at h;exact h.elim
  |some et=>
   have hs:=qg w het
   cases hmx:mx with
   |some m=>subst hmx;simp only[het]at h;exact h.elim
   |none=>
    subst hmx
    simp only[het]at h⊢
    simp only[zb]at r⊢
    obtain⟨b,o',cap,hk,rfl,hcap,ho,hB⟩:=r
    obtain⟨hz,h0,h1,h2⟩:=h
    subst hz
    have hb:=Z4 (P:=P) (w:=w) true n cap lo hi none vl vh vm hl hh hm (by simp) h0 h1 (by simp;omega) (by simp)
    have hm0:((none:Option Int).getD (cap:Int)).toNat=cap:=by simp
    rw[hm0]at hb
    refine⟨_,?_,b,(if cap=(lo.getD 0).toNat then o' else o'+(lo.getD 0).toNat*et.size),cap- (lo.getD 0).toNat,hk,rfl,by omega,?_,?_⟩
    ·unfold Instr.sliceAt
     rw[Sem.run_bind,hu]
     simp only[Result.andThen_ok]
     unfold Instr.slice
     rw[Sem.run_bind,hu]
     simp only[Result.andThen_ok,Sem.run_bind,hb,hs,Sem.run_pure]
     congr 2
     by_cases e:cap=(lo.getD 0).toNat<;>simp[e,qf]
    ·by_cases e:cap=(lo.getD 0).toNat
     ·left;omega
     ·rw[if_neg e]
      rcases ho with ho|ho
      ·left;omega
      ·right;rw[ho]
    ·by_cases e:cap=(lo.getD 0).toNat
     ·rw[if_pos e,e,Nat.sub_self,Nat.zero_mul]
      exact hB.le (by omega)
     ·rw[if_neg e,Nat.add_assoc,←Nat.add_mul]
      have:(lo.getD 0).toNat+(cap- (lo.getD 0).toNat)=cap:=by omega
      rw[this]
      exact hB
 ·exact h.elim
end Go.AM
end
section
namespace Go.AM
def zhC:AV→Option PV
 |.p x=>some x
 |.os _ z es=>some (.sl z es)
 |_=>none
def za8:List AV→Option (List PV)
 | []=>some []
 |x::l=>match zhC x,za8 l with
  |some y,some ys=>some (y::ys)
  |_,_=>none
def toP:AV→Option PV
 |.p x=>some x
 |.os _ z es=>some (.sl z es)
 |.ag xs=>(za8 xs).map .agg
 |_=>none
theorem zfv {g:Gh} {w:World} {x:AV} {y:PV} {v:Value}(h:zhC x=some y)(r:zb g w x v):zj g.fr w y v:=by
 cases x with
 |p x=>simp only[zhC,Option.some.injEq]at h;subst h;simpa only[zb]using r
 |os t z es=>simp only[zhC,Option.some.injEq]at h;subst h;simp only[zb]at r;exact r.1
 |_=>cases h
theorem V1 {g:Gh} {w:World}:∀{xs:List AV} {ys:List PV} {vs:List Value},za8 xs=some ys→(∀u∈vs,u.oneCell'=true)→zm g w xs vs→zr g.fr w ys vs
 | [],ys,vs,h,_,r=>by simp only[za8,Option.some.injEq]at h;subst h;simp only[zm]at r;simp only[zr];exact r
 |x::xs,ys,vs,h,h1,r=>by
  simp only[za8]at h
  split at h
  ·rename_i y ys' e1 e2
   simp only[Option.some.injEq]at h;subst h
   simp only[zm]at r
   obtain⟨v,vs',rfl,r1,r2⟩:=r
   simp only[zr]
   exact⟨v,vs',rfl,h1 v (by simp),zfv e1 r1,V1 e2 (fun u hu=>h1 u (by simp[hu])) r2⟩
  ·cases h
theorem K6 {g:Gh} {w:World} {x:AV} {y:PV} {v:Value}(h:toP x=some y)(r:zb g w x v):zj g.fr w y v:=by
 cases x with
 |p x=>simp only[toP,Option.some.injEq]at h;subst h;simpa only[zb]using r
 |os t z es=>simp only[toP,Option.some.injEq]at h;subst h;simp only[zb]at r;exact r.1
 |ag xs=>
  simp only[toP,Option.map_eq_some_iff]at h
  obtain⟨ys,h1,rfl⟩:=h
  simp only[zb]at r
  obtain⟨vs,rfl,h2,r⟩:=r
  simp only[zj]
  exact⟨vs,rfl,V1 h1 h2 r⟩
 |_=>cases h
def kn(P:Program)(T:TypeId):Option (List (Nat×Nat)):=
 match ty P T with
 |some ⟨.struct fs,_,_,_⟩=>fs.toList.mapM fun fd=>(ty P fd.type).map fun ft=>(fd.offset,ft.size)
 |_=>none
def yY(place:Nat→Option (Nat×Nat))(cells:List PV):List (Nat×PV)→Prop×List PV
 | []=>(True,cells)
 |(i,x)::rest=>
  match place i with
  |none=>(False,cells)
  |some (off,size)=>
   let r:=yY place (cells.take off++x.cells++cells.drop (off+size)) rest
   ((x.cells.length=size∧off+size≤cells.length∧x.fits=true)∧r.1,r.2)
theorem Vj(off:Nat):∀(vs:List Value) (k:Nat) (arr:Array Value),off+k+vs.length≤arr.size→
  ((vs.zipIdx k).foldl (fun cs x=>cs.setIfInBounds (off+x.2) x.1) arr).toList=arr.toList.take (off+k)++vs++arr.toList.drop (off+k+vs.length)
 | [],k,arr,_=>by simp
 |v::vs,k,arr,h=>by
  simp only[List.length_cons]at h
  simp only[List.zipIdx_cons,List.foldl_cons]
  rw[Vj off vs (k+1) (arr.setIfInBounds (off+k) v) (by simp;omega)]
  have e:=list_seg_step arr.toList (off+k) v vs (by simp only[Array.length_toList];omega)
  simpa[Array.toList_setIfInBounds,Nat.add_assoc]using e
theorem xA {fr:Nat→Nat} {w:World} {place:Nat→Option (Nat×Nat)}:∀{parts:List (Nat×PV)} {vparts:List (Nat×Value)} {cells:List PV} {arr:Array Value},
  (yY place cells parts).1→zr fr w cells arr.toList→parts.map (·.1)=vparts.map (·.1)→(∀(i:Nat) (x:Nat×PV) (v:Nat×Value),parts[i]?=some x→vparts[i]?=some v→zj fr w x.2 v.2)→
  ∃arr',Instr.fill place arr vparts=some arr'∧zr fr w (yY place cells parts).2 arr'.toList
 | [],vparts,cells,arr,_,r,hm,_=>by
  cases vparts with
  |nil=>exact⟨arr,rfl,r⟩
  |cons v vs=>simp at hm
 |(i,x)::rest,vparts,cells,arr,h,r,hm,hv=>by
  cases vparts with
  |nil=>simp at hm
  |cons vp vrest=>
   obtain⟨j,v⟩:=vp
   simp only[List.map_cons,List.cons.injEq]at hm
   obtain⟨hij,hm⟩:=hm
   subst hij
   unfold yY at h⊢
   cases hp:place i with
   |none=>simp only[hp]at h
   |some os=>
    obtain⟨off,size⟩:=os
    simp only[hp]at h⊢
    obtain⟨⟨h1,h2,h3⟩,h4⟩:=h
    have hrv:zj fr w x v:=hv 0 (i,x) (i,v) rfl rfl
    have hc:=zj.cells h3 hrv
    have hlc:=zr.length hc
    have hla:=zr.length r
    simp only[Array.length_toList]at hlc hla
    have hfold:(v.cells.zipIdx.foldl (fun cs x=>cs.setIfInBounds (off+x.2) x.1) arr).toList=arr.toList.take off++v.cells.toList++arr.toList.drop (off+size):=by
     have:=Vj off v.cells.toList 0 arr (by simp;omega)
     simp only[Nat.add_zero,Array.length_toList]at this
     rw[←Array.foldl_toList,Array.toList_zipIdx,this,hlc,h1]
    have hr':zr fr w (cells.take off++x.cells++cells.drop (off+size)) (v.cells.zipIdx.foldl (fun cs x=>cs.setIfInBounds (off+x.2) x.1) arr).toList:=by
     rw[hfold];exact((r.take off).append hc).append (r.drop _)
    obtain⟨arr',e,hR⟩:=xA h4 hr' hm (fun k y u hy hu=>hv (k+1) y u (by simpa using hy) (by simpa using hu))
    refine⟨arr',?_,hR⟩
    unfold Instr.fill
    simp only[hp]
    rw[if_neg (by simp;omega)]
    exact e
def Zh(S:St):List (Nat×Operand)→Prop×Option (List (Nat×PV))
 | []=>(True,some [])
 |(i,x)::rest=>
  match toP (unG (S.ev x)).2,(Zh S rest).2 with
  |some y,some l=>((unG (S.ev x)).1∧(Zh S rest).1,some ((i,y)::l))
  |_,_=>(False,none)
theorem kK [Gi] {E:Ent} {S:St} {g:Gh} {a:Act} {w:World}(hS:SR E S g a w):∀{ps:List (Nat×Operand)} {l:List (Nat×PV)},(Zh S ps).1→(Zh S ps).2=some l→
  l.map (·.1)=(ps.map fun x=>(x.1,a.eval x.2)).map (·.1)∧∀(i:Nat) (x:Nat×PV) (v:Nat×Value),l[i]?=some x→(ps.map fun x=>(x.1,a.eval x.2))[i]?=some v→zj g.fr w x.2 v.2
 | [],l,h,e=>by simp only[Zh,Option.some.injEq]at e;subst e;simp
 |(i,x)::rest,l,h,e=>by
  unfold Zh at h e
  split at h
  ·rename_i y l' h1 h2
   simp only[h1,h2,Option.some.injEq]at e
   subst e
   obtain⟨ih1,ih2⟩:=kK hS h.2 h2
   refine⟨by simp[ih1],fun j z v hz hv=>?_⟩
   cases j with
   |zero=>
    simp at hz hv
    subst hz;subst hv
    exact K6 h1 (zo h.1 (hS.ev x))
   |succ j=>exact ih2 j z v (by simpa using hz) (by simpa using hv)
  ·exact h.elim
def RC(g:Gh)(w:World)(cs:List AV)(vs:List Value):Prop:=zm g w cs vs∧∀u∈vs,u.oneCell'=true
theorem zm.len {g:Gh} {w:World}:∀{cs:List AV} {vs:List Value},zm g w cs vs→vs.length=cs.length
 | [],vs,r=>by simp only[zm]at r;subst r;rfl
 |c::cs,vs,r=>by simp only[zm]at r;obtain⟨v,vs',rfl,_,r⟩:=r;simp[zm.len r]
theorem zm.take {g:Gh} {w:World}:∀{cs:List AV} {vs:List Value} (n:Nat),zm g w cs vs→zm g w (cs.take n) (vs.take n)
 | [],vs,n,r=>by simp only[zm]at r;subst r;simp[zm]
 |c::cs,vs,0,r=>by simp[zm]
 |c::cs,vs,n+1,r=>by
  simp only[zm]at r
  obtain⟨v,vs',rfl,h2,r⟩:=r
  simp only[List.take_succ_cons,zm]
  exact⟨v,_,rfl,h2,r.take n⟩
theorem zm.drop {g:Gh} {w:World}:∀{cs:List AV} {vs:List Value} (n:Nat),zm g w cs vs→zm g w (cs.drop n) (vs.drop n)
 | [],vs,n,r=>by simp only[zm]at r;subst r;simp[zm]
 |c::cs,vs,0,r=>by simpa using r
 |c::cs,vs,n+1,r=>by
  simp only[zm]at r
  obtain⟨v,vs',rfl,h2,r⟩:=r
  simpa using r.drop n
theorem zm.append {g:Gh} {w:World}:∀{cs ds:List AV} {vs us:List Value},zm g w cs vs→zm g w ds us→zm g w (cs++ds) (vs++us)
 | [],ds,vs,us,r,r'=>by simp only[zm]at r;subst r;simpa using r'
 |c::cs,ds,vs,us,r,r'=>by
  simp only[zm]at r
  obtain⟨v,vs',rfl,h2,r⟩:=r
  simp only[List.cons_append,zm]
  exact⟨v,_,rfl,h2,r.append r'⟩
theorem zr.J9 {g:Gh} {w:World}:∀{cs:List PV} {vs:List Value},zr g.fr w cs vs→RC g w (cs.map .p) vs
 | [],vs,r=>by simp only[zr]at r;subst r;exact⟨by simp[zm],by simp⟩
 |c::cs,vs,r=>by
  simp only[zr]at r
  obtain⟨v,vs',rfl,h1,h2,r⟩:=r
  obtain⟨h3,h4⟩:=zr.J9 r
  refine⟨?_,fun u hu=>?_⟩
  ·simp only[List.map_cons,zm];exact⟨v,vs',rfl,by simp only[zb];exact h2,h3⟩
  ·rcases List.mem_cons.1 hu with rfl|hu
   ·exact h1
   ·exact h4 u hu
theorem JZ {v:Value}(h:v.oneCell'=true):v.cells= #[v]:=by cases v<;>first|rfl|cases h
def yw:AV→Prop×Option (List AV)
 |.p x=>(x.fits=true,some (x.cells.map .p))
 |.os t z es=>(True,some [.os t z es])
 |.lp t o=>(True,some [.lp t o])
 |.la t z o n=>(True,some [.la t z o n])
 |.om t ks xs=>(True,some [.om t ks xs])
 |.ag cs=>(True,some cs)
 |_=>(False,none)
theorem Uf {g:Gh} {w:World} {x:AV} {cs:List AV} {v:Value}(h:(yw x).1)(e:(yw x).2=some cs)(r:zb g w x v):RC g w cs v.cells.toList:=by
 cases x with
 |p x=>simp only[yw,Option.some.injEq]at h e;subst e;simp only[zb]at r;exact(r.cells h).J9
 |os t z es=>
  simp only[yw,Option.some.injEq]at e;subst e
  have r':=r
  simp only[zb]at r'
  have h1:=zj.one (x:=.sl z es) rfl r'.1
  rw[JZ h1]
  exact⟨by simp only[zm];exact⟨_,[],rfl,r,rfl⟩,by simpa using h1⟩
 |lp t o=>
  simp only[yw,Option.some.injEq]at e;subst e
  have r':=r
  simp only[zb]at r';obtain⟨b,_,rfl⟩:=r'
  exact⟨by simp only[Value.cells,zm];exact⟨_,[],rfl,r,rfl⟩,by simp[Value.cells,Value.oneCell']⟩
 |la t z o n=>
  simp only[yw,Option.some.injEq]at e;subst e
  have r':=r
  simp only[zb]at r';obtain⟨b,o',cap,_,rfl,_⟩:=r'
  exact⟨by simp only[Value.cells,zm];exact⟨_,[],rfl,r,rfl⟩,by simp[Value.cells,Value.oneCell']⟩
 |om t ks xs=>
  simp only[yw,Option.some.injEq]at e;subst e
  have r':=r
  simp only[zb]at r';obtain⟨b,arr,c,rfl,_⟩:=r'
  exact⟨by simp only[Value.cells,zm];exact⟨_,[],rfl,r,rfl⟩,by simp[Value.cells,Value.oneCell']⟩
 |ag cs'=>
  simp only[yw,Option.some.injEq]at e;subst e
  simp only[zb]at r
  obtain⟨vs,rfl,h1,r⟩:=r
  exact⟨r,h1⟩
 |_=>simp only[yw]at h
def Qo(S:St):List (Nat×Operand)→Prop×Option (List (Nat×List AV))
 | []=>(True,some [])
 |(i,x)::rest=>
  match(yw (unG (S.ev x)).2).2,(Qo S rest).2 with
  |some y,some l=>((unG (S.ev x)).1∧(yw (unG (S.ev x)).2).1∧(Qo S rest).1,some ((i,y)::l))
  |_,_=>(False,none)
theorem xL [Gi] {E:Ent} {S:St} {g:Gh} {a:Act} {w:World}(hS:SR E S g a w):∀{ps:List (Nat×Operand)} {l:List (Nat×List AV)},(Qo S ps).1→(Qo S ps).2=some l→
  l.map (·.1)=(ps.map fun x=>(x.1,a.eval x.2)).map (·.1)∧∀(i:Nat) (x:Nat×List AV) (v:Nat×Value),l[i]?=some x→(ps.map fun x=>(x.1,a.eval x.2))[i]?=some v→RC g w x.2 v.2.cells.toList
 | [],l,h,e=>by simp only[Qo,Option.some.injEq]at e;subst e;simp
 |(i,x)::rest,l,h,e=>by
  unfold Qo at h e
  split at h
  ·rename_i y l' h1 h2
   simp only[h1,h2,Option.some.injEq]at e
   subst e
   obtain⟨ih1,ih2⟩:=xL hS h.2.2 h2
   refine⟨by simp[ih1],fun j z v hz hv=>?_⟩
   cases j with
   |zero=>
    simp at hz hv
    subst hz;subst hv
    exact Uf h.2.1 h1 (zo h.1 (hS.ev x))
   |succ j=>exact ih2 j z v (by simpa using hz) (by simpa using hv)
  ·exact h.elim
def wB(place:Nat→Option (Nat×Nat))(cells:List AV):List (Nat×List AV)→Prop×List AV
 | []=>(True,cells)
 |(i,x)::rest=>
  match place i with
  |none=>(False,cells)
  |some (off,size)=>
   let r:=wB place (cells.take off++x++cells.drop (off+size)) rest
   ((x.length=size∧off+size≤cells.length)∧r.1,r.2)
theorem wK {g:Gh} {w:World} {place:Nat→Option (Nat×Nat)}:∀{parts:List (Nat×List AV)} {vparts:List (Nat×Value)} {cells:List AV} {arr:Array Value},
  (wB place cells parts).1→RC g w cells arr.toList→parts.map (·.1)=vparts.map (·.1)→(∀(i:Nat) (x:Nat×List AV) (v:Nat×Value),parts[i]?=some x→vparts[i]?=some v→RC g w x.2 v.2.cells.toList)→
  ∃arr',Instr.fill place arr vparts=some arr'∧RC g w (wB place cells parts).2 arr'.toList
 | [],vparts,cells,arr,_,r,hm,_=>by
  cases vparts with
  |nil=>exact⟨arr,rfl,r⟩
  |cons v vs=>simp at hm
 |(i,x)::rest,vparts,cells,arr,h,r,hm,hv=>by
  cases vparts with
  |nil=>simp at hm
  |cons vp vrest=>
   obtain⟨j,v⟩:=vp
   simp only[List.map_cons,List.cons.injEq]at hm
   obtain⟨hij,hm⟩:=hm
   subst hij
   unfold wB at h⊢
   cases hp:place i with
   |none=>simp only[hp]at h
   |some os=>
    obtain⟨off,size⟩:=os
    simp only[hp]at h⊢
    obtain⟨⟨h1,h2⟩,h4⟩:=h
    have hc:=hv 0 (i,x) (i,v) rfl rfl
    simp only[]at hc
    have hlc:=hc.1.len
    have hla:=r.1.len
    simp only[Array.length_toList]at hlc hla
    have hfold:(v.cells.zipIdx.foldl (fun cs x=>cs.setIfInBounds (off+x.2) x.1) arr).toList=arr.toList.take off++v.cells.toList++arr.toList.drop (off+size):=by
     have:=Vj off v.cells.toList 0 arr (by simp;omega)
     simp only[Nat.add_zero,Array.length_toList]at this
     rw[←Array.foldl_toList,Array.toList_zipIdx,this,hlc,h1]
    have hr':RC g w (cells.take off++x++cells.drop (off+size)) (v.cells.zipIdx.foldl (fun cs x=>cs.setIfInBounds (off+x.2) x.1) arr).toList:=by
     rw[hfold]
     refine⟨((r.1.take off).append hc.1).append (r.1.drop _),fun u hu=>?_⟩
     rcases List.mem_append.1 hu with hu|hu
     ·rcases List.mem_append.1 hu with hu|hu
      ·exact r.2 u (List.mem_of_mem_take hu)
      ·exact hc.2 u hu
     ·exact r.2 u (List.mem_of_mem_drop hu)
    obtain⟨arr',e,hR⟩:=wK h4 hr' hm (fun k y u hy hu=>hv (k+1) y u (by simpa using hy) (by simpa using hu))
    refine⟨arr',?_,hR⟩
    unfold Instr.fill
    simp only[hp]
    rw[if_neg (by simp;omega)]
    exact e
def zkn:AV→Bool
 |.os _ _ _=>true
 |_=>false
def uF(S:St)(ps:List (Nat×Operand)):Prop×Option (List (Nat×PV)):=if ps.any fun x=>zkn (unG (S.ev x.2)).2 then(True,none)else Zh S ps
theorem Ua {S:St} {ps:List (Nat×Operand)} {c:Prop} {l:List (Nat×PV)}(h:uF S ps=(c,some l)):Zh S ps=(c,some l):=by
 unfold uF at h
 split at h
 ·cases h
 ·exact h
def VV(P:Program)(S:St)(T:TypeId)(parts:List (Nat×Operand)):PR:=
 match ty P T,uF S parts with
 |some ⟨.struct _,_,_,some z⟩,(c,some l)=>
  match kn P T with
  |some ps=>((c∧z.all PV.one=true)∧(yY (ps[·]?) z l).1,.p (.agg (yY (ps[·]?) z l).2))
  |none=>bad
 |some ⟨.array _ e,_,_,some z⟩,(c,some l)=>
  match ty P e with
  |some et=>((c∧z.all PV.one=true)∧(yY (fun i=>some (i*et.size,et.size)) z l).1,.p (.agg (yY (fun i=>some (i*et.size,et.size)) z l).2))
  |none=>bad
 |some ⟨.struct _,_,_,some z⟩,(_,none)=>
  match kn P T,Qo S parts with
  |some ps,(c,some l)=>((c∧z.all PV.one=true)∧(wB (ps[·]?) (z.map .p) l).1,.ag (wB (ps[·]?) (z.map .p) l).2)
  |_,_=>bad
 |_,_=>bad
theorem ko {P:Program} {w:World}:∀{fs:List Field} {l:List (Nat×Nat)},(fs.mapM fun fd=>(ty P fd.type).map fun ft=>(fd.offset,ft.size))=some l→
  (fs.mapM fun f=>do pure (f.offset,←sizeOf f.type):Sem (List (Nat×Nat))).run P w=.ok l w
 | [],l,h=>by simp at h;subst h;simp
 |f::fs,l,h=>by
  simp only[List.mapM_cons,bind,Option.bind_eq_some_iff,Option.map_eq_some_iff]at h
  obtain⟨a,⟨ft,h1,rfl⟩,l',h2,h3⟩:=h
  simp only[pure,Option.some.injEq]at h3
  subst h3
  have ih:=ko (w:=w) h2
  simp only[List.mapM_cons,Sem.run_bind,qg w h1,Result.andThen_ok,Sem.run_pure,ih]
theorem XI [Gi] {P:Program} {E:Ent} {S:St} {g:Gh} {a:Act} {w:World}(hS:SR E S g a w) {T:TypeId} {parts:Array (Nat×Operand)}(h:(VV P S T parts.toList).1):
  ∃u,(Instr.build T (parts.map fun x=>(x.1,a.eval x.2))).run P w=.ok u w∧zb g w (VV P S T parts.toList).2 u:=by
 unfold VV at h⊢
 split at h
 ·rename_i fs sz by_ z c l hT hp0
  have hp:=Ua hp0
  have hu:=zn w hT
  simp only[]at hu
  obtain⟨zv,hz1,hz2⟩:=QU hT rfl
  cases hpl:kn P T with
  |none=>simp only[hpl]at h;exact h.elim
  |some ps=>
   simp only[hpl]at h⊢
   obtain⟨⟨hc,hall⟩,hf⟩:=h
   have hpa:(Zh S parts.toList).1:=by rw[hp];exact hc
   have hpb:(Zh S parts.toList).2=some l:=by rw[hp]
   obtain⟨h1,h2⟩:=kK hS hpa hpb
   have hz:zr g.fr w z zv.cells.toList:=zr.of_map hz2 hall
   obtain⟨arr',e,hR⟩:=xA hf hz h1 h2
   refine⟨.agg arr',?_,by simp only[zb,zj];exact⟨_,rfl,hR⟩⟩
   unfold kn at hpl
   simp only[hT]at hpl
   have hm:=ko (w:=w) hpl
   have hm':(fs.mapM fun f=>do pure (f.offset,←sizeOf f.type):Sem (Array (Nat×Nat))).run P w=.ok ps.toArray w:=by
    rw[Array.mapM_eq_mapM_toList,Sem.run_map,hm];rfl
   unfold Instr.build
   simp only[Sem.run_bind,hz1,Result.andThen_ok,hu,hm',Array.toList_map]
   have e':Instr.fill (fun x:Nat=>ps.toArray[x]?) zv.cells (List.map (fun x=>(x.fst,a.eval x.snd)) parts.toList)=some arr':=by
    have:(fun x:Nat=>ps.toArray[x]?)=(fun x:Nat=>ps[x]?):=by funext x;simp
    rw[this];exact e
   rw[e']
   rfl
 ·rename_i len el sz by_ z c l hT hp0
  have hp:=Ua hp0
  have hu:=zn w hT
  simp only[]at hu
  obtain⟨zv,hz1,hz2⟩:=QU hT rfl
  cases het:ty P el with
  |none=>simp only[het]at h;exact h.elim
  |some et=>
   simp only[het]at h⊢
   obtain⟨⟨hc,hall⟩,hf⟩:=h
   have hpa:(Zh S parts.toList).1:=by rw[hp];exact hc
   have hpb:(Zh S parts.toList).2=some l:=by rw[hp]
   obtain⟨h1,h2⟩:=kK hS hpa hpb
   have hz:zr g.fr w z zv.cells.toList:=zr.of_map hz2 hall
   obtain⟨arr',e,hR⟩:=xA hf hz h1 h2
   refine⟨.agg arr',?_,by simp only[zb,zj];exact⟨_,rfl,hR⟩⟩
   unfold Instr.build
   simp only[Sem.run_bind,hz1,Result.andThen_ok,hu,qg w het,Array.toList_map]
   rw[e]
   rfl
 ·rename_i fs sz by_ z c hT hp
  have hu:=zn w hT
  simp only[]at hu
  obtain⟨zv,hz1,hz2⟩:=QU hT rfl
  cases hpl:kn P T with
  |none=>simp only[hpl]at h;exact h.elim
  |some ps=>
   rcases hpg:Qo S parts.toList with ⟨c',l'⟩
   cases l' with
   |none=>simp only[hpl,hpg]at h;exact h.elim
   |some l=>
    simp only[hpl,hpg]at h⊢
    obtain⟨⟨hc,hall⟩,hf⟩:=h
    have hpa:(Qo S parts.toList).1:=by rw[hpg];exact hc
    have hpb:(Qo S parts.toList).2=some l:=by rw[hpg]
    obtain⟨h1,h2⟩:=xL hS hpa hpb
    have hz:RC g w (z.map .p) zv.cells.toList:=zr.J9 (zr.of_map hz2 hall)
    obtain⟨arr',e,hR⟩:=wK hf hz h1 h2
    refine⟨.agg arr',?_,by simp only[zb];exact⟨_,rfl,hR.2,hR.1⟩⟩
    unfold kn at hpl
    simp only[hT]at hpl
    have hm:=ko (w:=w) hpl
    have hm':(fs.mapM fun f=>do pure (f.offset,←sizeOf f.type):Sem (Array (Nat×Nat))).run P w=.ok ps.toArray w:=by
     rw[Array.mapM_eq_mapM_toList,Sem.run_map,hm];rfl
    unfold Instr.build
    simp only[Sem.run_bind,hz1,Result.andThen_ok,hu,hm',Array.toList_map]
    have e':Instr.fill (fun x:Nat=>ps.toArray[x]?) zv.cells (List.map (fun x=>(x.fst,a.eval x.snd)) parts.toList)=some arr':=by
     have:(fun x:Nat=>ps.toArray[x]?)=(fun x:Nat=>ps[x]?):=by funext x;simp
     rw[this];exact e
    rw[e']
    rfl
 ·exact h.elim
end Go.AM
end
section
namespace Go.AM
def zgF:AV→Option Int
 |.p (.str s)=>some s.length
 |.p (.sl _ es)=>some es.length
 |.os _ _ es=>some es.length
 |.la _ _ _ n=>some n
 |.p (.opq (.slice none 0 0))=>some 0
 |_=>none
def vd:TypeDesc→Bool
 |.string=>true
 |_=>false
def wY:TypeDesc→Bool
 |.slice _=>true
 |_=>false
def VL:AV→Bool
 |.p (.str _)=>true
 |_=>false
def zhu(P:Program)(T:TypeId)(x:AV):PR:=
 match ty P T,zgF x with
 |some D,some n=>if vd D.desc || wY D.desc then
   (vd D.desc=VL x,.p (.int .i64 n))else bad
 |_,_=>bad
theorem zdG {g:Gh} {w:World} {x:AV} {n:Int} {v:Value}(h:zgF x=some n)(r:zb g w x v)(hs:VL x=false):
  ∃base len cap,v=.slice base len cap∧n=len:=by
 unfold zgF at h
 split at h<;>simp only[Option.some.injEq,reduceCtorEq]at h
 ·cases hs
 ·simp only[zb]at r
  obtain⟨base,cap,e,_⟩:=j8 r
  exact⟨base,_,cap,e,h.symm⟩
 ·simp only[zb]at r
  obtain⟨base,cap,e,_⟩:=j8 r.1
  exact⟨base,_,cap,e,h.symm⟩
 ·simp only[zb]at r
  obtain⟨b,o',cap,_,e,_⟩:=r
  exact⟨_,_,cap,e,h.symm⟩
 ·simp only[zb,zj]at r
  exact⟨none,0,0,r,h.symm⟩
theorem zei {P:Program} {T tt:TypeId} {x:AV} {g:Gh} {w:World} {v:Value} {ts:Array TypeId} {args:Array Value}(h0:ts[0]?=some T)(ha:args[0]?=some v)(h:(zhu P T x).1)(r:zb g w x v):
  ∃u,(Builtin.len_ ts tt args).run P w=.ok u w∧zb g w (zhu P T x).2 u:=by
 unfold zhu at h⊢
 cases hT:ty P T with
 |none=>simp only[hT]at h;exact h.elim
 |some D=>
  have hu:=zn w hT
  cases hl:zgF x with
  |none=>simp only[hT,hl]at h;exact h.elim
  |some n=>
   simp only[hT,hl]at h⊢
   split at h
   ·rename_i hd
    simp only[hd,if_true]
    refine⟨.int .i64 n,?_,by show zb g w (.p (.int .i64 n)) _;simp only[zb,zj]⟩
    by_cases hs:VL x=true
    ·have hx:∃s,x=.p (.str s):=by
      unfold VL at hs;split at hs
      ·exact⟨_,rfl⟩
      ·cases hs
     obtain⟨s,rfl⟩:=hx
     simp only[zgF,Option.some.injEq]at hl
     simp only[zb,zj]at r
     subst r;subst hl
     rw[hs]at h
     have hD:D.desc=.string:=by cases hq:D.desc<;>simp[hq,vd]at h;rfl
     rw[hD]at hu
     unfold Builtin.len_
     simp only[h0,ha]
     have hsz:(⟨s.toArray⟩:ByteArray).size=s.length:=by simp[ByteArray.size]
     simp only[Sem.run_bind,hu,Result.andThen_ok,Sem.run_pure,goInt,hsz]
    ·have hs':VL x=false:=by simpa using hs
     obtain⟨base,len,cap,rfl,rfl⟩:=zdG hl r hs'
     rw[hs']at h
     have hD:∃e,D.desc=.slice e:=by
      cases hq:D.desc<;>simp[hq,vd,wY]at hd h
      exact⟨_,rfl⟩
     obtain⟨e,hD⟩:=hD
     rw[hD]at hu
     unfold Builtin.len_
     simp only[h0,ha]
     simp[hu,goInt]
   ·exact h.elim
def vH(isMax:Bool)(x y:AV):PR:=
 match x,y with
 |.p (.int k a),.p (.int k' b)=>(k=k',.p (.int k (if isMax then max a b else min a b)))
 |_,_=>bad
theorem uo {P:Program} {isMax:Bool} {x y:AV} {g:Gh} {w:World} {u v:Value} {ts:Array TypeId} {tt:TypeId}(h:(vH isMax x y).1)(hx:zb g w x u)(hy:zb g w y v):
  ∃r,(if isMax then Builtin.max_ ts tt #[u,v]else Builtin.min_ ts tt #[u,v]).run P w=.ok r w∧zb g w (vH isMax x y).2 r:=by
 unfold vH at h⊢
 split at h
 ·rename_i k a k' b
  simp only[zb,zj]at hx hy
  subst hx;subst hy
  simp only[]at h;subst h
  cases isMax
  ·refine⟨_,?_,by simp only[zb,zj];rfl⟩
   simp[Builtin.min_,Builtin.min2]
   by_cases e:b<a
   ·rw[if_pos e];omega
   ·rw[if_neg e];omega
  ·refine⟨_,?_,by simp only[zb,zj];rfl⟩
   simp[Builtin.max_,Builtin.max2]
   by_cases e:a<b
   ·rw[if_pos e];omega
   ·rw[if_neg e];omega
 ·exact h.elim
def zbi(c x y:AV):PR:=
 match c with
 |.p (.bool b)=>
  match(unG x).2,(unG y).2 with
  |.p (.bool p),.p (.bool q)=>((b=true→(unG x).1)∧(b=false→(unG y).1),.p (.bool (cond b p q)))
  |.p (.bool p),_=>(b=true∧(unG x).1,.p (.bool p))
  |_,.p (.bool q)=>(b=false∧(unG y).1,.p (.bool q))
  |_,_=>bad
 |_=>bad
theorem zb1 {P:Program} {c x y:AV} {g:Gh} {w:World} {vc vx vy:Value}(h:(zbi c x y).1)(hc:zb g w c vc)(hx:zb g w x vx)(hy:zb g w y vy):
  ∃r,(do pure (Next.value (if←asBool vc then vx else vy)):Sem Next).run P w=.ok (.value r) w∧zb g w (zbi c x y).2 r:=by
 unfold zbi at h⊢
 split at h
 ·rename_i b
  split at h
  ·rename_i p q h1 h2
   simp only[zb,zj]at hc
   subst hc
   simp only[]at h
   cases b
   ·have:=zo (h.2 rfl) hy
    rw[h2]at this
    exact⟨vy,by simp[asBool],by simpa[zb,zj]using this⟩
   ·have:=zo (h.1 rfl) hx
    rw[h1]at this
    exact⟨vx,by simp[asBool],by simpa[zb,zj]using this⟩
  ·rename_i p h1 h2
   simp only[zb,zj]at hc
   subst hc
   obtain⟨rfl,h⟩:=h
   have:=zo h hx
   rw[h1]at this
   exact⟨vx,by simp[asBool],by simpa[zb,zj]using this⟩
  ·rename_i q h1 h2
   simp only[zb,zj]at hc
   subst hc
   obtain⟨rfl,h⟩:=h
   have:=zo h hy
   rw[h1]at this
   exact⟨vy,by simp[asBool],by simpa[zb,zj]using this⟩
  ·exact h.elim
 ·exact h.elim
def VX(x:AV):PR:=
 match x with
 |.lp t o=>(True,.lp t o)
 |.ip z e o=>(True,.ip z e o)
 |.p (.pt z e)=>(True,.ip z e 0)
 |.p (.opq (.func (.func f) a b))=>(True,.p (.opq (.func (.func f) a b)))
 |_=>bad
def unA(op:UnOp)(x:AV):PR:=
 match op,x with
 |.not,.p (.bool b)=>(True,.p (.bool (!b)))
 |.neg,.p (.int k n)=>(True,.p (.int k (k.wrap (0-n))))
 |.xor,.p (.int k n)=>(True,.p (wJ .xor k (if k.signed then -1 else k.max) n).2)
 |_,_=>bad
theorem zgU {P:Program} {op:UnOp} {x:AV} {g:Gh} {w:World} {v:Value}(h:(unA op x).1)(r:zb g w x v):
  ∃u,(Op.unary op v).run P w=.ok u w∧zb g w (unA op x).2 u:=by
 unfold unA at h⊢
 split at h
 ·simp only[zb,zj]at r;subst r;exact⟨_,rfl,by simp only[zb,zj]⟩
 ·simp only[zb,zj]at r;subst r;exact⟨_,rfl,by simp only[zb,zj]⟩
 ·rename_i k n
  simp only[zb,zj]at r;subst r
  refine⟨_,rfl,?_⟩
  simp only[zb,wJ,zj]
 ·exact h.elim
def XY:TypeDesc→Option IntKind
 |.int k=>some k
 |_=>none
def Q5:List PV→Option (List UInt8)
 | []=>some []
 |.int .u8 n::l=>(Q5 l).map (UInt8.ofNat n.toNat::·)
 |_=>none
def WD(P:Program)(S D:TypeDesc)(es:List PV):PR:=
 match S,Q5 es with
 |.slice e,some t=>match ty P e with
  |some E=>(E.desc=.int .u8∧es≠ []∧D=.string,.p (.str t))
  |none=>bad
 |_,_=>bad
theorem WR {fr:Nat→Nat} {w:World} {b:Nat}:∀{es:List PV} {t:List UInt8} {o:Nat},Q5 es=some t→qk fr w 1 b es o→
  ∃ns:List Int,ns.length=es.length∧(∀s:ByteArray,(ns.foldl (fun r n=>r.push (UInt8.ofNat n.toNat)) s).data.toList=s.data.toList++t)∧∀(j:Nat) (v:Value),(ns.map (Value.int .u8))[j]?=some v→w.cell? ⟨b,o+j,none⟩=some v
 | [],t,o,h,_=>by
  simp only[Q5,Option.some.injEq]at h;subst h
  exact⟨[],rfl,fun s=>by simp,fun j v hj=>by simp at hj⟩
 |e::es,t,o,h,r=>by
  cases e with
  |int k n=>
   cases k with
   |u8=>
    simp only[Q5,Option.map_eq_some_iff]at h
    obtain⟨t',h,rfl⟩:=h
    simp only[qk,zj]at r
    obtain⟨⟨v,rfl,_,h3⟩,h4⟩:=r
    obtain⟨ns,k1,k2,k3⟩:=WR h h4
    refine⟨n::ns,by simp[k1],fun s=>?_,fun j v hj=>?_⟩
    ·rw[List.foldl_cons,k2];simp
    ·cases j with
     |zero=>
      simp at hj;subst hj
      exact(h3 0 _ rfl).2
     |succ j=>
      have:=k3 j v (by simpa using hj)
      rwa[show o+1+j=o+(j+1)from by omega]at this
   |_=>simp[Q5]at h
  |_=>simp[Q5]at h
theorem Ui {P:Program} {s d:TypeId} {S D:Ty}(hS:ty P s=some S)(hD:ty P d=some D) {es:List PV} {g:Gh} {w:World} {v:Value}(h:(WD P S.desc D.desc es).1)(r:zj g.fr w (.sl 1 es) v):
  ∃u,(convert s d v).run P w=.ok u w∧zb g w (WD P S.desc D.desc es).2 u:=by
 unfold WD at h⊢
 split at h
 ·rename_i e t hs ht
  split at h
  ·rename_i E hE
   obtain⟨h1,h2,h3⟩:=h
   simp only[zj]at r
   rcases r with ⟨e0,_⟩|⟨b,o,cap,rfl,_,_,he⟩
   ·exact absurd e0 h2
   ·obtain⟨ns,k1,k2,k3⟩:=WR ht he
    have hs':P.underlying s=some S.desc:=(qR hS).choose_spec.2.1
    have hd':P.underlying d=some D.desc:=(qR hD).choose_spec.2.1
    have he':P.underlying e=some E.desc:=(qR hE).choose_spec.2.1
    rw[hs]at hs';rw[h3]at hd';rw[h1]at he'
    have hl:(loadCells ⟨b,o,none⟩ es.length).run P w=.ok (ns.map (Value.int .u8)).toArray w:=by
     have:=run_loadCells_list (P:=P) w ⟨b,o,none⟩ (ns.map (Value.int .u8)) (fun j v hj=>by rw[qf];exact k3 j v hj)
     simpa[k1]using this
    refine⟨_,(run_convert_bytes_string w s d e _ _ _ hs' he' hd').trans (run_bytesToString w _ _ _ ns hl),?_⟩
    simp only[zb,zj]
    congr 1
    have:=k2 ByteArray.empty
    apply ByteArray.ext
    apply Array.toList_inj.1
    simpa using this
  ·exact h.elim
 ·exact h.elim
def zbC(P:Program)(s d:TypeId)(x:AV):PR:=
 match ty P s,ty P d,x with
 |some _,some D,.p (.int _ n)=>match XY D.desc with
  |some k=>(True,.p (.int k (k.wrap n)))
  |none=>bad
 |some _,some D,.p (.str t)=>if vd D.desc then(True,.p (.str t))else bad
 |some S,some D,.p (.sl 1 es)=>WD P S.desc D.desc es
 |some S,some D,.os _ 1 es=>WD P S.desc D.desc es
 |_,_,_=>bad
theorem zaV {P:Program} {s d:TypeId} {x:AV} {g:Gh} {w:World} {v:Value}(h:(zbC P s d x).1)(r:zb g w x v):
  ∃u,(convert s d v).run P w=.ok u w∧zb g w (zbC P s d x).2 u:=by
 unfold zbC at h⊢
 split at h
 ·rename_i S D k0 n hS hD
  have hs:=zn w hS
  have hd:=zn w hD
  simp only[zb,zj]at r;subst r
  cases hk:XY D.desc with
  |none=>simp only[hk]at h;exact h.elim
  |some k=>
   simp only
   have hq:D.desc=.int k:=by cases hq:D.desc<;>simp[hq,XY]at hk;rw[hk]
   rw[hq]at hd
   refine⟨.int k (k.wrap n),?_,by simp only[zb,zj]⟩
   unfold convert
   rw[Sem.run_bind,hs,Result.andThen_ok,Sem.run_bind,hd,Result.andThen_ok]
   cases S.desc<;>rfl
 ·rename_i S D t hS hD
  have hs:=zn w hS
  have hd:=zn w hD
  simp only[zb,zj]at r;subst r
  split at h
  ·rename_i hk
   simp only[hk,if_true]
   have hq:D.desc=.string:=by cases hq:D.desc<;>simp[hq,vd]at hk;rfl
   rw[hq]at hd
   refine⟨_,?_,by simp only[zb,zj];rfl⟩
   unfold convert
   rw[Sem.run_bind,hs,Result.andThen_ok,Sem.run_bind,hd,Result.andThen_ok]
   cases S.desc<;>rfl
  ·exact h.elim
 ·rename_i S D es hS hD
  simp only[zb]at r
  exact Ui hS hD h r
 ·rename_i S D t es hS hD
  simp only[zb]at r
  exact Ui hS hD h r.1
 ·exact h.elim
end Go.AM
end
