/- A part of this seat's proofs, by an abstract machine. Conditions: each law's. -/
import Derived.Test.YtfjdbbpimklecaaGreatDoorV00
import Derived.Laws.Strings
import Derived.Laws.StructEq
import Derived.Laws.Pointers
namespace Go.AM
section
structure Ty where
 desc:TypeDesc
 size:Nat
 bytes:Nat
 zero:Option (List PV)
def jF:Value→PV
 |.int k n=>.int k n
 |.bool b=>.bool b
 |.string s=>.str s.data.toList
 |v=>.opq v
theorem zi.jF {fr:Nat→Nat} {w:World}(v:Value):zi fr w (jF v) v:=by
 cases v<;>simp[AM.jF,zi]
def ty(P:Program)(t:TypeId):Option Ty:=
 match P.info? t,P.underlying t with
 |some i,some d=>some ⟨d,i.size,i.bytes,i.zero.map fun v=>v.cells.toList.map jF⟩
 |_,_=>none
theorem qK {P:Program} {t:TypeId} {T:Ty}(h:ty P t=some T):
  ∃i,P.info? t=some i∧P.underlying t=some T.desc∧i.size=T.size∧i.bytes=T.bytes∧i.zero.map (fun v=>v.cells.toList.map jF)=T.zero:=by
 unfold ty at h
 split at h
 ·rename_i i d h1 h2;simp at h;subst h;exact⟨i,h1,h2,rfl,rfl,rfl⟩
 ·cases h
section
variable {P:Program} {t:TypeId} {T:Ty} (w:World)
theorem zo(h:ty P t=some T):(underlying t).run P w=.ok T.desc w:=by
 obtain⟨i,_,h2,_⟩:=qK h;exact run_underlying h2 w
theorem qc(h:ty P t=some T):(sizeOf t).run P w=.ok T.size w:=by
 obtain⟨i,h1,_,h3,_⟩:=qK h;simp[sizeOf,typeInfo,h1,h3]
theorem zcm(h:ty P t=some T):∃i,(∀w,(typeInfo t).run P w=.ok i w)∧i.bytes=T.bytes:=by
 obtain⟨i,h1,_,h3,h4,_⟩:=qK h;exact⟨i,fun w=>by simp[typeInfo,h1],h4⟩
theorem QG {cs:List PV}(h:ty P t=some T)(hz:T.zero=some cs):∃v,(∀w,(zeroValue t).run P w=.ok v w)∧v.cells.toList.map jF=cs:=by
 obtain⟨i,h1,_,h3,h4,h5⟩:=qK h
 rw[hz]at h5
 simp only[Option.map_eq_some_iff]at h5
 obtain⟨v,hv,hc⟩:=h5
 exact⟨v,fun w=>by simp[zeroValue,typeInfo,h1,hv],hc⟩
end
def zW:TypeDesc→Bool
 |.struct _=>true
 |.array _ _=>true
 |_=>false
theorem yB {P:Program} {t:TypeId} {T:Ty}(w:World)(h:ty P t=some T):(isAgg t).run P w=.ok (zW T.desc) w:=by
 unfold isAgg
 rw[Sem.run_bind,zo w h]
 cases T.desc<;>rfl
def St.ev(S:St):Operand→AV
 |.tmp t=>S.get t
 |.const v=>.p (jF v)
 |.func f=>.p (.opq (.func (.func f) #[] #[]))
 |.global _=>.zK
theorem SR.ev [Gi] {E:Ent} {S:St} {g:Gh} {a:Act} {w:World}(h:SR E S g a w)(x:Operand):za g w (S.ev x) (a.eval x):=by
 cases x with
 |tmp t=>exact h.slots t
 |const v=>simp only[St.ev,za,Act.eval];exact zi.jF v
 |func f=>simp only[St.ev,za,zi,Act.eval]
 |global g=>simp only[St.ev,za]
def unG:AV→Prop×AV
 |.gd c x=>(c=true,x)
 |x=>(True,x)
theorem zp {g:Gh} {w:World} {x:AV} {v:Value}(h:(unG x).1)(r:za g w x v):za g w (unG x).2 v:=by
 cases x<;>simp only[unG]at h⊢ <;>first|exact r|(simp only[za]at r;exact r.1 h)
abbrev PR:=Prop×AV
def bad:PR:=(False,.zK)
def xA(op:BinOp)(k:IntKind)(a b:Int):Prop×PV:=
 match op with
 |.add=>(True,.int k (k.wrap (a+b)))
 |.sub=>(True,.int k (k.wrap (a-b)))
 |.mul=>(True,.int k (k.wrap (a*b)))
 |.quo=>(b≠0,.int k (k.wrap (a.tdiv b)))
 |.rem=>(b≠0,.int k (a.tmod b))
 |.and=>(True,.int k (k.wrap (BitVec.ofInt k.bits a&&& BitVec.ofInt k.bits b).toNat))
 |.or=>(True,.int k (k.wrap (BitVec.ofInt k.bits a |||BitVec.ofInt k.bits b).toNat))
 |.xor=>(True,.int k (k.wrap (BitVec.ofInt k.bits a^^^BitVec.ofInt k.bits b).toNat))
 |.andNot=>(True,.int k (k.wrap (BitVec.ofInt k.bits a&&& ~~~ BitVec.ofInt k.bits b).toNat))
 |.eql=>(True,.bool (decide (a=b)))
 |.neq=>(True,.bool (!decide (a=b)))
 |.lss=>(True,.bool (decide (a<b)))
 |.leq=>(True,.bool (decide (a≤b)))
 |.gtr=>(True,.bool (decide (b<a)))
 |.geq=>(True,.bool (decide (b≤a)))
 |_=>(False,.bool false)
def uI(op:BinOp)(a b:List UInt8):Prop×PV:=
 match op with
 |.add=>(((a.length+b.length:Nat):Int)≤9223372036854775807,.str (a++b))
 |.eql=>(True,.bool (decide (a=b)))
 |.neq=>(True,.bool (!decide (a=b)))
 |.lss=>(True,.bool (Op.bytesLess a b))
 |.leq=>(True,.bool (Op.bytesLess a b || decide (a=b)))
 |.gtr=>(True,.bool !(Op.bytesLess a b || decide (a=b)))
 |.geq=>(True,.bool !(Op.bytesLess a b))
 |_=>(False,.bool false)
def uU:AV→Bool
 |.lp _ _=>true
 |.ip _ _ _=>true
 |.p (.pt _ _)=>true
 |_=>false
def kR:AV→Bool
 |.p (.opq (.pointer none))=>true
 |_=>false
def ptrEq(x y:AV):Option Bool:=
 if kR x then(if kR y then some true else if uU y then some false else none)
 else if uU x&&kR y then some false else none
def JR:TypeDesc→Bool
 |.pointer _=>true
 |_=>false
def Vv:TypeDesc→Bool
 |.bool=>true
 |_=>false
def Y5(op:BinOp)(k:IntKind)(a:Int)(k':IntKind)(b:Int):PR:=
 match op with
 |.shl=>(0≤b,.p (.int k (k.wrap (a*2^(min b.toNat k.bits)))))
 |.shr=>(0≤b,.p (.int k (a.fdiv (2^(min b.toNat k.bits)))))
 |op=>if k=k' then((xA op k a b).1,.p (xA op k a b).2)else bad
def XE(P:Program)(op:BinOp)(t:TypeId)(a b:Bool):PR:=
 match ty P t with
 |some T=>if Vv T.desc then
   (match op with
   |.eql=>(True,.p (.bool (a==b)))
   |.neq=>(True,.p (.bool (a !=b)))
   |_=>bad)else bad
 |none=>bad
def Yx(op:BinOp)(c:Option Bool):PR:=
 match c,op with
 |some c,.eql=>(True,.p (.bool c))
 |some c,.neq=>(True,.p (.bool (!c)))
 |_,_=>bad
def XC(P:Program)(op:BinOp)(t:TypeId)(x y:AV):PR:=
 match ty P t with
 |some T=>if JR T.desc then Yx op (ptrEq x y)else bad
 |none=>bad
def zdF(P:Program)(op:BinOp)(t:TypeId)(x y:AV):PR:=
 match x,y with
 |.p (.int k a),.p (.int k' b)=>Y5 op k a k' b
 |.p (.str a),.p (.str b)=>((uI op a b).1,.p (uI op a b).2)
 |.p (.bool a),.p (.bool b)=>XE P op t a b
 |x,y=>XC P op t x y
theorem Jx {P : Program} {fr : Nat → Nat} {w : World} (op : BinOp) (t : TypeId) (k : IntKind) (a b : Int) (h1 : op ≠ .shl) (h2 : op ≠ .shr) (h : (xA op k a b).1) :
    ∃ r, (binOp op t (.int k a) (.int k b)).run P w = .ok r w ∧ zi fr w (xA op k a b).2 r := by
  cases op <;> simp only [xA] at h ⊢ <;> first
    | exact absurd rfl h1
    | exact absurd rfl h2
    | exact h.elim
    | (refine ⟨_, ?_, by simp only [zi]; rfl⟩
       simp [binOp, Op.intArith, Op.intDiv, Op.intBits, Op.intCmp, h]; done)
    | (refine ⟨_, ?_, by simp only [zi]; rfl⟩
       simp [binOp, Op.intCmp]
       by_cases e : a = b <;> simp [e])
theorem JY {P : Program} {fr : Nat → Nat} {w : World} (op : BinOp) (t : TypeId) (a b : List UInt8) (h : (uI op a b).1) :
    ∃ r, (binOp op t (.string ⟨a.toArray⟩) (.string ⟨b.toArray⟩)).run P w = .ok r w ∧ zi fr w (uI op a b).2 r := by
  have hm : IntKind.i64.max = 9223372036854775807 := by decide
  have hsz : ∀ l : List UInt8, (⟨l.toArray⟩ : ByteArray).size = l.length := fun l => by simp [ByteArray.size]
  have hap : (⟨a.toArray⟩ : ByteArray) ++ ⟨b.toArray⟩ = ⟨(a ++ b).toArray⟩ := by
    apply ByteArray.ext; simp
  have hbeq : (a == b) = decide (a = b) := by by_cases e : a = b <;> simp [e]
  cases op <;> simp only [uI] at h ⊢ <;> first
    | exact h.elim
    | (refine ⟨_, ?_, by simp only [zi]; rfl⟩
       simp [binOp, Op.stringOp, hbeq]; done)
    | (refine ⟨_, ?_, by simp only [zi]; rfl⟩
       simp only [binOp, Op.stringOp, hsz, hm]
       rw [if_neg (by omega), hap]; rfl)
theorem QK {P:Program} {op:BinOp} {t:TypeId} {xo yo:Operand} {u v:Value} {w:World}(h1:u≠ .nilIface)(h2:∀cs,u≠ .agg cs):
  (eqGuard op t xo yo u v).run P w=.ok () w:=by
 cases op<;>first
  |rfl
  |(cases u<;>first|exact absurd rfl h1|exact absurd rfl (h2 _)|(cases v<;>rfl))
theorem Vw {g:Gh} {w:World} {x:AV} {v:Value}(h:uU x=true)(r:za g w x v):∃a,v=.pointer (some a):=by
 cases x with
 |lp t o=>simp only[za]at r;obtain⟨b,_,e⟩:=r;exact⟨_,e⟩
 |ip z e o=>simp only[za]at r;obtain⟨b,_,e,_⟩:=r;exact⟨_,e⟩
 |p x=>
  cases x with
  |pt z e=>simp only[za,zi]at r;obtain⟨b,_,e,_⟩:=r;exact⟨_,e⟩
  |_=>cases h
 |_=>cases h
theorem J5 {g:Gh} {w:World} {x:AV} {v:Value}(h:kR x=true)(r:za g w x v):v=.pointer none:=by
 unfold kR at h
 split at h
 ·simpa only[za,zi]using r
 ·cases h
section
variable {P:Program} {t:TypeId} (w:World)
theorem WE(h:P.underlying t=some .bool)(a b:Bool):
  (binOp .eql t (.bool a) (.bool b)).run P w=.ok (.bool (a==b)) w∧(binOp .neq t (.bool a) (.bool b)).run P w=.ok (.bool (a !=b)) w:=by
 have e:(Op.equal t (.bool a) (.bool b)).run P w=.ok (a==b) w:=run_equalIn_bool' w 9999 t a b h
 have e1:binOp .eql t (.bool a) (.bool b)=(do let c←Op.equal t (.bool a) (.bool b);pure (.bool c)):=rfl
 have e2:binOp .neq t (.bool a) (.bool b)=(do let c←Op.equal t (.bool a) (.bool b);pure (.bool (!c))):=rfl
 rw[e1,e2,Sem.run_bind,Sem.run_bind,e]
 exact⟨rfl,rfl⟩
theorem wT {el:TypeId}(h:P.underlying t=some (.pointer el))(x y:Option Addr)(hn:x=none∨y=none):
  (binOp .eql t (.pointer x) (.pointer y)).run P w=.ok (.bool (x.isNone&&y.isNone)) w∧(binOp .neq t (.pointer x) (.pointer y)).run P w=.ok (.bool (!(x.isNone&&y.isNone))) w:=by
 have e0:∀d,(Op.equalIn (d+1) t (.pointer x) (.pointer y)).run P w=.ok (x.isNone&&y.isNone) w:=by
  intro d
  cases x with
  |none=>cases y<;>simp[Op.equalIn,run_underlying h]
  |some a=>
   cases y with
   |none=>simp[Op.equalIn,run_underlying h]
   |some b=>simp at hn
 have e:(Op.equal t (.pointer x) (.pointer y)).run P w=.ok (x.isNone&&y.isNone) w:=e0 9999
 have e1:binOp .eql t (.pointer x) (.pointer y)=(do let c←Op.equal t (.pointer x) (.pointer y);pure (.bool c)):=by cases x<;>cases y<;>rfl
 have e2:binOp .neq t (.pointer x) (.pointer y)=(do let c←Op.equal t (.pointer x) (.pointer y);pure (.bool (!c))):=by cases x<;>cases y<;>rfl
 rw[e1,e2,Sem.run_bind,Sem.run_bind,e]
 exact⟨rfl,rfl⟩
end
theorem YW {P:Program} {g:Gh} {w:World}(op:BinOp)(t:TypeId)(k k':IntKind)(a b:Int)(h:(Y5 op k a k' b).1):
  ∃r,(binOp op t (.int k a) (.int k' b)).run P w=.ok r w∧za g w (Y5 op k a k' b).2 r:=by
 unfold Y5 at h⊢
 split at h
 ·refine⟨_,?_,by simp only[za,zi];rfl⟩
  have hb:¬b<0:=by simp only[]at h;omega
  simp[binOp,Op.shift,hb]
 ·refine⟨_,?_,by simp only[za,zi];rfl⟩
  have hb:¬b<0:=by simp only[]at h;omega
  simp[binOp,Op.shift,hb]
 ·rename_i h1 h2
  split at h
  ·rename_i hk
   subst hk
   obtain⟨r,hr,hR⟩:=Jx (fr:=g.fr) (w:=w) (P:=P) op t k a b h1 h2 h
   refine⟨r,hr,?_⟩
   simp only[if_true,za]
   exact hR
  ·exact h.elim
theorem Y8 {P:Program} {g:Gh} {w:World}(op:BinOp)(t:TypeId)(a b:Bool)(h:(XE P op t a b).1):
  ∃r,(binOp op t (.bool a) (.bool b)).run P w=.ok r w∧za g w (XE P op t a b).2 r:=by
 unfold XE at h⊢
 cases hT:ty P t with
 |none=>simp only[hT]at h;exact h.elim
 |some T=>
  simp only[hT]at h⊢
  by_cases hd:Vv T.desc=true
  ·simp only[hd,if_true]at h⊢
   have hdd:T.desc=.bool:=by cases hq:T.desc<;>simp[hq,Vv]at hd;rfl
   obtain⟨i,_,hu,_⟩:=qK hT
   rw[hdd]at hu
   cases op<;>first
    |exact h.elim
    |exact⟨_,(WE w hu a b).1,by simp only[za,zi]⟩
    |exact⟨_,(WE w hu a b).2,by simp only[za,zi]⟩
  ·simp only[hd]at h;exact h.elim
theorem YZ {P:Program} {g:Gh} {w:World} {t el:TypeId} {x y:AV} {u v:Value}(hu:P.underlying t=some (.pointer el))(hx:za g w x u)(hy:za g w y v)
  {c:Bool} (hc:ptrEq x y=some c):(u≠ .nilIface∧∀cs,u≠ .agg cs)∧(binOp .eql t u v).run P w=.ok (.bool c) w∧(binOp .neq t u v).run P w=.ok (.bool !c) w:=by
 unfold ptrEq at hc
 split at hc
 ·rename_i hxn
  have:=J5 hxn hx;subst this
  split at hc
  ·rename_i hyn
   have:=J5 hyn hy;subst this
   simp at hc;subst hc
   exact⟨⟨by simp,by simp⟩,wT w hu none none (.inl rfl)⟩
  ·split at hc
   ·rename_i hya
    obtain⟨a,rfl⟩:=Vw hya hy
    simp at hc;subst hc
    exact⟨⟨by simp,by simp⟩,wT w hu none (some a) (.inl rfl)⟩
   ·cases hc
 ·split at hc
  ·rename_i hxy
   simp only[Bool.and_eq_true]at hxy
   obtain⟨a,rfl⟩:=Vw hxy.1 hx
   have:=J5 hxy.2 hy;subst this
   simp at hc;subst hc
   exact⟨⟨by simp,by simp⟩,wT w hu (some a) none (.inr rfl)⟩
  ·cases hc
theorem Xa {P:Program} {g:Gh} {w:World} {op:BinOp} {t:TypeId} {x y:AV} {u v:Value}(h:(XC P op t x y).1)(hx:za g w x u)(hy:za g w y v):
  (u≠ .nilIface∧∀cs,u≠ .agg cs)∧∃r,(binOp op t u v).run P w=.ok r w∧za g w (XC P op t x y).2 r:=by
 unfold XC at h⊢
 cases hT:ty P t with
 |none=>simp only[hT]at h;exact h.elim
 |some T=>
  simp only[hT]at h⊢
  by_cases hd:JR T.desc=true
  ·simp only[hd,if_true]at h⊢
   have hdd:∃e,T.desc=.pointer e:=by cases hq:T.desc<;>simp[hq,JR]at hd;exact⟨_,rfl⟩
   obtain⟨e,hdd⟩:=hdd
   obtain⟨i,_,hu,_⟩:=qK hT
   rw[hdd]at hu
   cases hc:ptrEq x y with
   |none=>simp only[hc,Yx]at h;cases op<;>exact h.elim
   |some c=>
    simp only[hc]at h⊢
    obtain⟨h1,h2,h3⟩:=YZ (P:=P) hu hx hy hc
    refine⟨h1,?_⟩
    cases op<;>simp only[Yx]at h⊢ <;>first
     |exact h.elim
     |exact⟨_,h2,by simp only[za,zi]⟩
     |exact⟨_,h3,by simp only[za,zi]⟩
  ·simp only[hd]at h;exact h.elim
theorem zbe {P:Program} {op:BinOp} {t:TypeId} {x y:AV} {g:Gh} {w:World} {u v:Value}(xo yo:Operand)(h:(zdF P op t x y).1)
  (hx:za g w x u) (hy:za g w y v):
  ∃r,(do eqGuard op t xo yo u v;binOp op t u v:Sem Value).run P w=.ok r w∧za g w (zdF P op t x y).2 r:=by
 suffices H:(u≠ .nilIface∧∀cs,u≠ .agg cs)∧∃r,(binOp op t u v).run P w=.ok r w∧za g w (zdF P op t x y).2 r by
  obtain⟨⟨h1,h2⟩,r,hr,hR⟩:=H
  exact⟨r,by rw[Sem.run_bind,QK h1 h2];exact hr,hR⟩
 unfold zdF at h⊢
 split at h
 ·simp only[za,zi]at hx hy
  subst hx;subst hy
  exact⟨⟨by simp,by simp⟩,YW op t _ _ _ _ h⟩
 ·simp only[za,zi]at hx hy
  subst hx;subst hy
  refine⟨⟨by simp,by simp⟩,?_⟩
  obtain⟨r,hr,hR⟩:=JY (fr:=g.fr) (w:=w) (P:=P) op t _ _ h
  exact⟨r,hr,by simp only[za];exact hR⟩
 ·simp only[za,zi]at hx hy
  subst hx;subst hy
  exact⟨⟨by simp,by simp⟩,Y8 op t _ _ h⟩
 ·exact Xa h hx hy
def PV.cells:PV→List PV
 |.agg cs=>cs
 |x=>[x]
def PV.one:PV→Bool
 |.agg _=>false
 |.opq u=>u.oneCell'
 |_=>true
def PV.fits:PV→Bool
 |.opq u=>u.oneCell'
 |_=>true
theorem zi.one {fr:Nat→Nat} {w:World} {x:PV} {v:Value}(h:x.one=true)(r:zi fr w x v):v.oneCell'=true:=by
 cases x with
 |agg cs=>cases h
 |opq u=>simp only[zi]at r;subst r;exact h
 |sl z es=>simp only[zi]at r;rcases r with ⟨_,_,_,rfl⟩|⟨b,o,cap,rfl,_⟩<;>rfl
 |mp ks xs=>simp only[zi]at r;obtain⟨b,arr,c,rfl,_⟩:=r;rfl
 |pt z e=>simp only[zi]at r;obtain⟨b,o,rfl,_⟩:=r;rfl
 |_=>simp only[zi]at r;subst r;rfl
section
variable {fr:Nat→Nat} {w:World}
theorem zr.length:∀{cs:List PV} {vs:List Value},zr fr w cs vs→vs.length=cs.length
 | [],vs,r=>by simp only[zr]at r;subst r;rfl
 |c::cs,vs,r=>by simp only[zr]at r;obtain⟨v,vs',rfl,_,_,r⟩:=r;simp[zr.length r]
theorem zr.get:∀{cs:List PV} {vs:List Value},zr fr w cs vs→∀{i:Nat} {x:PV},cs[i]?=some x→∃v,vs[i]?=some v∧v.oneCell'=true∧zi fr w x v
 | [],vs,r,i,x,h=>by simp at h
 |c::cs,vs,r,i,x,h=>by
  simp only[zr]at r
  obtain⟨v,vs',rfl,h1,h2,r⟩:=r
  cases i with
  |zero=>simp at h;subst h;exact⟨v,by simp,h1,h2⟩
  |succ i=>simpa using zr.get r (i:=i) (x:=x) (by simpa using h)
theorem zr.take:∀{cs:List PV} {vs:List Value} (n:Nat),zr fr w cs vs→zr fr w (cs.take n) (vs.take n)
 | [],vs,n,r=>by simp only[zr]at r;subst r;simp[zr]
 |c::cs,vs,0,r=>by simp[zr]
 |c::cs,vs,n+1,r=>by
  simp only[zr]at r
  obtain⟨v,vs',rfl,h1,h2,r⟩:=r
  simp only[List.take_succ_cons,zr]
  exact⟨v,_,rfl,h1,h2,r.take n⟩
theorem zr.drop:∀{cs:List PV} {vs:List Value} (n:Nat),zr fr w cs vs→zr fr w (cs.drop n) (vs.drop n)
 | [],vs,n,r=>by simp only[zr]at r;subst r;simp[zr]
 |c::cs,vs,0,r=>by simpa using r
 |c::cs,vs,n+1,r=>by
  simp only[zr]at r
  obtain⟨v,vs',rfl,h1,h2,r⟩:=r
  simpa using r.drop n
theorem zr.append:∀{cs ds:List PV} {vs us:List Value},zr fr w cs vs→zr fr w ds us→zr fr w (cs++ds) (vs++us)
 | [],ds,vs,us,r,r'=>by simp only[zr]at r;subst r;simpa using r'
 |c::cs,ds,vs,us,r,r'=>by
  simp only[zr]at r
  obtain⟨v,vs',rfl,h1,h2,r⟩:=r
  simp only[List.cons_append,zr]
  exact⟨v,_,rfl,h1,h2,r.append r'⟩
theorem zr.of_map:∀{cs:List PV} {vs:List Value},vs.map jF=cs→cs.all PV.one=true→zr fr w cs vs
 |_,[],h,_=>by simp at h;subst h;simp[zr]
 |_,v::vs,h,h1=>by
  simp only[List.map_cons]at h
  subst h
  simp only[List.all_cons,Bool.and_eq_true]at h1
  simp only[zr]
  exact⟨v,vs,rfl,zi.one h1.1 (zi.jF v:zi fr w _ v),zi.jF v,zr.of_map rfl h1.2⟩
theorem zi.cells {x:PV} {v:Value}(h:x.fits=true)(r:zi fr w x v):zr fr w x.cells v.cells.toList:=by
 cases x with
 |agg cs=>simp only[zi]at r;obtain⟨vs,rfl,r⟩:=r;exact r
 |opq u=>
  simp only[zi]at r;subst r
  have hc:v.cells.toList=[v]:=by cases v<;>first|rfl|cases h
  rw[hc];simp only[PV.cells,zr];exact⟨v,[],rfl,h,by simp only[zi],rfl⟩
 |sl z es=>
  have h1:=zi.one (x:=.sl z es) rfl r
  have hc:v.cells.toList=[v]:=by cases v<;>first|rfl|cases h1
  rw[hc];simp only[PV.cells,zr];exact⟨v,[],rfl,h1,r,rfl⟩
 |mp ks xs=>
  have h1:=zi.one (x:=.mp ks xs) rfl r
  have hc:v.cells.toList=[v]:=by cases v<;>first|rfl|cases h1
  rw[hc];simp only[PV.cells,zr];exact⟨v,[],rfl,h1,r,rfl⟩
 |pt z e=>
  have h1:=zi.one (x:=.pt z e) rfl r
  have hc:v.cells.toList=[v]:=by cases v<;>first|rfl|cases h1
  rw[hc];simp only[PV.cells,zr];exact⟨v,[],rfl,h1,r,rfl⟩
 |int k n=>simp only[zi]at r;subst r;simp only[PV.cells,zr];exact⟨_,[],rfl,rfl,by simp only[zi],rfl⟩
 |bool k=>simp only[zi]at r;subst r;simp only[PV.cells,zr];exact⟨_,[],rfl,rfl,by simp only[zi],rfl⟩
 |str k=>simp only[zi]at r;subst r;simp only[PV.cells,zr];exact⟨_,[],rfl,rfl,by simp only[zi],rfl⟩
def wx(agg:Bool)(size:Nat)(cs:List PV)(off:Nat):PR:=
 if agg then(off+size≤cs.length,.p (.agg ((cs.drop off).take size)))
 else match cs[off]? with
  |some x=>(True,.p x)
  |none=>bad
theorem WI {P:Program} {g:Gh} {t:TypeId} {T:Ty}(hT:ty P t=some T) {cs:List PV} {vs:Array Value} {off:Nat}(h:(wx (zW T.desc) T.size cs off).1)
  (r:zr g.fr w cs vs.toList):∃v,(part t vs off).run P w=.ok v w∧za g w (wx (zW T.desc) T.size cs off).2 v:=by
 unfold wx at h⊢
 have hl:=zr.length r
 unfold part
 rw[Sem.run_bind,yB w hT]
 cases hA:zW T.desc with
 |true=>
  simp only[hA,if_true]at h⊢
  refine⟨.agg (vs.extract off (off+T.size)),?_,?_⟩
  ·simp[qc w hT]
  ·simp only[za,zi]
   refine⟨_,rfl,?_⟩
   have:(vs.extract off (off+T.size)).toList=(vs.toList.drop off).take T.size:=by
    simp
   rw[this]
   exact(r.drop off).take T.size
 |false=>
  simp only[hA]at h⊢
  cases hx:cs[off]? with
  |none=>simp only[hx]at h;exact h.elim
  |some x=>
   obtain⟨v,hv,h1,hr⟩:=r.get hx
   refine⟨v,?_,by simp only;exact hr⟩
   have:vs[off]?=some v:=by simpa using hv
   simp[this]
end
def Qu(P:Program)(T:TypeId)(x:AV)(f:Nat):PR:=
 match ty P T with
 |some ⟨.struct fs,_,_,_⟩=>
  match fs[f]? with
  |some fd=>
   match ty P fd.type with
   |some ft=>
    if ft.size=0 then bad else
    match x with
    |.lp t o=>(True,.lp t (o+fd.offset))
    |.ip z e o=>(True,.ip z e (o+fd.offset))
    |_=>bad
   |none=>bad
  |none=>bad
 |_=>bad
theorem addr_add(b o n:Nat):(⟨b,o,none⟩:Addr).add n=⟨b,o+n,none⟩:=by unfold Addr.add;split<;>simp_all
theorem uS {P:Program} {T:TypeId} {x:AV} {f:Nat} {g:Gh} {w:World} {v:Value}(h:(Qu P T x f).1)(r:za g w x v):
  ∃u,(Instr.fieldAt T v f).run P w=.ok u w∧za g w (Qu P T x f).2 u:=by
 unfold Qu at h⊢
 split at h
 ·rename_i fs sz by_ ze hT
  have hu:=zo w hT
  simp only[]at hu⊢
  cases hf:fs[f]? with
  |none=>simp only[hf]at h;exact h.elim
  |some fd=>
   simp only[hf]at h⊢
   cases hft:ty P fd.type with
   |none=>simp only[hft]at h;exact h.elim
   |some ft=>
    simp only[hft]at h⊢
    split at h
    ·exact h.elim
    ·rename_i hz
     simp only[hz,if_false]
     have hs:=qc w hft
     have step:∀b o,v=.pointer (some ⟨b,o,none⟩)→(Instr.fieldAt T v f).run P w=.ok (.pointer (some ⟨b,o+fd.offset,none⟩)) w:=by
      intro b o e
      subst e
      unfold Instr.fieldAt
      rw[Sem.run_bind,hu]
      simp[hf,Instr.sureAddr,fieldPlace,hs,hz,addr_add]
     split at h
     ·rename_i t o
      simp only[za]at r⊢
      obtain⟨b,hk,e⟩:=r
      exact⟨_,step b o e,b,hk,rfl⟩
     ·rename_i z e o
      simp only[za]at r⊢
      obtain⟨b,base,e',hf,he⟩:=r
      exact⟨_,step b _ e',b,base,by rw[Nat.add_assoc],hf,he⟩
     ·exact h.elim
 ·exact h.elim
def elemAt(es:List PV)(n:Nat):PV:=es.getD n default
def Qq(P:Program)(T:TypeId)(x i:AV):PR:=
 match ty P T,i with
 |some ⟨.slice e,_,_,_⟩,.p (.int _ n)=>
  match ty P e,x with
  |some et,.p (.sl z es)=>(z=et.size∧0≤n∧n<es.length,.ip z (elemAt es n.toNat) 0)
  |some et,.os _ z es=>(z=et.size∧0≤n∧n<es.length,.ip z (elemAt es n.toNat) 0)
  |some et,.la t z o m=>(z=et.size∧0≤n∧n<m,.lp t (o+n.toNat*z))
  |_,_=>bad
 |some ⟨.array len e,_,_,_⟩,.p (.int _ n)=>
  match ty P e,x with
  |some et,.lp t o=>(0≤n∧n<len,.lp t (o+n.toNat*et.size))
  |some et,.ip z e o=>(0≤n∧n<len,.ip z e (o+n.toNat*et.size))
  |_,_=>bad
 |_,_=>bad
theorem uM {P:Program} {T:TypeId} {x i:AV} {g:Gh} {w:World} {v iv:Value}(h:(Qq P T x i).1)(r:za g w x v)(ri:za g w i iv):
  ∃u,(Instr.indexAt T v iv).run P w=.ok u w∧za g w (Qq P T x i).2 u:=by
 unfold Qq at h⊢
 split at h
 ·rename_i e sz by_ ze k n hT
  have hu:=zo w hT
  simp only[za,zi]at ri hu⊢
  subst ri
  cases het:ty P e with
  |none=>simp only[het]at h;exact h.elim
  |some et=>
   simp only[het]at h⊢
   have hs:=qc w het
   have step:∀b o len cap,v=.slice (some ⟨b,o,none⟩) len cap→0≤n→n< (len:Int)→
     (Instr.indexAt T v (.int k n)).run P w=.ok (.pointer (some ⟨b,o+n.toNat*et.size,none⟩)) w:=by
    intro b o len cap e' h0 h1
    subst e'
    simp[Instr.indexAt,asIntOf,hu,hs,h0,h1,addr_add]
   have slice:∀z es,z=et.size∧0≤n∧n< (es.length:Int)→zi g.fr w (.sl z es) v→
     ∃u,(Instr.indexAt T v (.int k n)).run P w=.ok u w∧za g w (.ip z (elemAt es n.toNat) 0) u:=by
    rintro z es ⟨hz,h0,h1⟩ r
    subst hz
    simp only[zi]at r
    rcases r with ⟨rfl,_⟩|⟨b,o,cap,e',hc,hf,he⟩
    ·simp at h1;omega
    ·refine⟨_,step b o _ cap e' h0 h1,?_⟩
     have hn:n.toNat<es.length:=by omega
     have hg:es[n.toNat]?=some (elemAt es n.toNat):=by simp[elemAt,List.getElem?_eq_getElem hn]
     obtain⟨u,hu1,hu2,hu3⟩:=qo.get he hg
     simp only[za]
     refine⟨b,o+n.toNat*et.size,rfl,?_,?_⟩
     ·have:n.toNat*et.size+et.size≤es.length*et.size:=by
       have:=Nat.mul_le_mul_right et.size (show n.toNat+1≤es.length from hn)
       rw[Nat.add_mul]at this;omega
      omega
     ·simp only[qo,and_true]
      exact⟨u,hu1,hu2,hu3⟩
   split at h
   ·rename_i et' z es h'
    simp only[Option.some.injEq]at h';subst h'
    simp only[za]at r
    exact slice _ _ h r
   ·rename_i et' t z es h'
    simp only[Option.some.injEq]at h';subst h'
    simp only[za]at r
    exact slice _ _ h r.1
   ·rename_i et' t z o m h'
    simp only[Option.some.injEq]at h';subst h'
    simp only[za]at r⊢
    obtain⟨b,o',cap,hk,e',hc,ho,_⟩:=r
    obtain⟨hz,h0,h1⟩:=h
    subst hz
    have ho':o'=o:=ho.resolve_left (by omega)
    subst ho'
    exact⟨_,step b o' m cap e' h0 h1,b,hk,rfl⟩
   ·exact h.elim
 ·rename_i len e sz by_ ze k n hT
  have hu:=zo w hT
  simp only[za,zi]at ri hu⊢
  subst ri
  cases het:ty P e with
  |none=>simp only[het]at h;exact h.elim
  |some et=>
   simp only[het]at h⊢
   have hs:=qc w het
   have step:∀b o,v=.pointer (some ⟨b,o,none⟩)→0≤n→n< (len:Int)→
     (Instr.indexAt T v (.int k n)).run P w=.ok (.pointer (some ⟨b,o+n.toNat*et.size,none⟩)) w:=by
    intro b o e' h0 h1
    subst e'
    simp[Instr.indexAt,asIntOf,hu,hs,h0,h1,addr_add,Instr.sureAddr]
   split at h
   ·rename_i et' t o h'
    simp only[Option.some.injEq]at h';subst h'
    simp only[za]at r⊢
    obtain⟨b,hk,e'⟩:=r
    exact⟨_,step b o e' h.1 h.2,b,hk,rfl⟩
   ·rename_i et' z e1 o h'
    simp only[Option.some.injEq]at h';subst h'
    simp only[za]at r⊢
    obtain⟨b,base,e',hf,he⟩:=r
    exact⟨_,step b _ e' h.1 h.2,b,base,by rw[Nat.add_assoc],hf,he⟩
   ·exact h.elim
 ·exact h.elim
def xD:List AV→Option (List PV)
 | []=>some []
 |.p x::l=>(xD l).map (x::·)
 |_::_=>none
theorem x9:∀{l:List AV} {xs:List PV},xD l=some xs→l=xs.map .p
 | [],xs,h=>by simp[xD]at h;subst h;rfl
 |x::l,xs,h=>by
  unfold xD at h
  split at h
  ·rename_i h';cases h'
  ·rename_i y l' h'
   injection h' with h1 h2
   subst h1;subst h2
   simp only[Option.map_eq_some_iff]at h
   obtain⟨ys,h1,rfl⟩:=h
   rw[x9 h1];rfl
  ·cases h
def Yo(T:Ty)(z:Nat)(e:PV)(o:Nat):PR:=
 match e with
 |.agg cs=>if cs.length=z then wx (zW T.desc) T.size cs o else bad
 |e=>if zW T.desc=false∧o=0∧z=1 then(e.fits=true,.p e)else bad
def jx(P:Program)(S:St)(t:TypeId)(x:AV):PR:=
 match ty P t with
 |some T=>
  match x with
  |.lp r o=>
   match zw S.rs r with
   |some cs=>
    if zW T.desc then
     match xD ((cs.drop o).take T.size)with
     |some xs=>(xs.length=T.size,.p (.agg xs))
     |none=>(((cs.drop o).take T.size).length=T.size,.ag ((cs.drop o).take T.size))
    else match cs[o]? with
     |some y=>(True,y)
     |none=>bad
   |none=>bad
  |.ip z e o=>Yo T z e o
  |_=>bad
 |none=>bad
theorem wv {fr:Nat→Nat} {w:World}:∀{xs:List PV} {vs:List Value},xs.length=vs.length→
  (∀(j:Nat) (x:PV),xs[j]?=some x→∃v,vs[j]?=some v∧v.oneCell'=true∧zi fr w x v)→zr fr w xs vs
 | [],[],_,_=>by simp[zr]
 |x::xs,v::vs,hl,h=>by
  simp only[zr]
  obtain⟨u,hu,h1,hr⟩:=h 0 x (by simp)
  simp at hu;subst hu
  exact⟨v,vs,rfl,h1,hr,wv (by simpa using hl) (fun j y hj=>by simpa using h (j+1) y (by simpa using hj))⟩
theorem ZQ {P:Program} {t:TypeId} {T:Ty} {w:World}(hT:ty P t=some T)(hA:zW T.desc=true)(b o:Nat)(vs:List Value)(hl:vs.length=T.size)
  (h:∀(j:Nat) (v:Value),vs[j]?=some v→w.cell? ⟨b,o+j,none⟩=some v):(loadVar t ⟨b,o,none⟩).run P w=.ok (.agg vs.toArray) w:=by
 unfold loadVar
 rw[Sem.run_bind,yB w hT,hA]
 have:=run_loadCells_list (P:=P) w ⟨b,o,none⟩ vs (fun j v hj=>by rw[addr_add];exact h j v hj)
 rw[hl]at this
 simp[qc w hT,this]
theorem QZ {P:Program} {t:TypeId} {T:Ty} {w:World}(hT:ty P t=some T)(hA:zW T.desc=false)(b o:Nat)(v:Value)
  (h:w.cell? ⟨b,o,none⟩=some v):(loadVar t ⟨b,o,none⟩).run P w=.ok v w:=by
 unfold loadVar
 rw[Sem.run_bind,yB w hT,hA]
 simp[h]
theorem zT {w:World} {b o:Nat} {arr:Array Value} {T:TypeId}(h:w.heap[b]?=some (.cells arr T (0,0))):w.cell? ⟨b,o,none⟩=arr[o]?:=by
 simp[World.cell?,h]
theorem kl [Gi] {P : Program} {E : Ent} {S : St} {g : Gh} {a : Act} {w : World} (hS : SR E S g a w) {t : TypeId} {x : AV} {v : Value} (h : (jx P S t x).1) (r : za g w x v) :
    ∃ u, (Instr.loadAt t v).run P w = .ok u w ∧ za g w (jx P S t x).2 u := by
  unfold jx at h ⊢
  cases hT : ty P t with
  | none => simp only [hT] at h; exact h.elim
  | some T =>
    simp only [hT] at h ⊢
    split at h
    · rename_i rt o
      simp only [za] at r
      obtain ⟨b, hk, rfl⟩ := r
      obtain ⟨cs, hl, h0, arr, T', hb, hle, hc⟩ := hS.roots b rt hk
      simp only [hl] at h ⊢
      have hrun : ∀ u, (loadVar t ⟨b, o, none⟩).run P w = .ok u w → (Instr.loadAt t (.pointer (some ⟨b, o, none⟩))).run P w = .ok u w := by
        intro u hu; simp [Instr.loadAt, Instr.sureAddr, hu]
      cases hA : zW T.desc with
      | true =>
        simp only [hA, if_true] at h ⊢
        cases hx : xD ((cs.drop o).take T.size) with
        | none =>
          simp only [hx] at h ⊢
          have hsz : T.size ≤ cs.length - o := by simp at h; omega
          have hget : ∀ (j : Nat) (x : AV), ((cs.drop o).take T.size)[j]? = some x → j < T.size ∧ cs[o + j]? = some x := by
            intro j x hj
            have hjl : j < T.size := by
              have := (List.getElem?_eq_some_iff.1 hj).1; simp at this; omega
            refine ⟨hjl, ?_⟩
            rwa [List.getElem?_take, if_pos hjl, List.getElem?_drop] at hj
          refine ⟨_, hrun _ (ZQ hT hA b o ((arr.toList.drop o).take T.size) ?_ (fun j v hj => ?_)), ?_⟩
          · rcases Nat.eq_zero_or_pos T.size with hz | hz
            · simp [hz]
            · simp; omega
          · have hjl : j < T.size := by
              rcases Nat.lt_or_ge j T.size with h' | h'
              · exact h'
              · rw [List.getElem?_take, if_neg (by omega)] at hj; cases hj
            rw [List.getElem?_take, if_pos hjl, List.getElem?_drop] at hj
            rw [zT hb]; simpa using hj
          · have key : ∀ (ys : List AV) (vs : List Value), ys.length = vs.length → (∀ (j : Nat) (x : AV), ys[j]? = some x → ∃ v, vs[j]? = some v ∧ v.oneCell' = true ∧ za g w x v) → zm g w ys vs ∧ ∀ u ∈ vs, u.oneCell' = true := by
              intro ys
              induction ys with
              | nil => intro vs hl _; cases vs with
                | nil => exact ⟨by simp [zm], by simp⟩
                | cons v vs => simp at hl
              | cons y ys ih =>
                intro vs hl hh
                cases vs with
                | nil => simp at hl
                | cons v vs =>
                  obtain ⟨u, hu, h1, hr⟩ := hh 0 y rfl
                  simp at hu; subst hu
                  obtain ⟨i1, i2⟩ := ih vs (by simpa using hl) (fun j x hj => by simpa using hh (j + 1) x (by simpa using hj))
                  refine ⟨by simp only [zm]; exact ⟨v, vs, rfl, hr, i1⟩, fun u hu => ?_⟩
                  rcases List.mem_cons.1 hu with rfl | hu
                  · exact h1
                  · exact i2 u hu
            obtain ⟨i1, i2⟩ := key ((cs.drop o).take T.size) ((arr.toList.drop o).take T.size) (by
              rcases Nat.eq_zero_or_pos T.size with hz | hz
              · simp [hz]
              · simp; omega) (fun j x hj => by
              obtain ⟨hjl, hj⟩ := hget j x hj
              obtain ⟨v, hv, h1, hr⟩ := hc _ _ hj
              refine ⟨v, ?_, h1, hr⟩
              simp only [List.getElem?_take, hjl, if_true, List.getElem?_drop]
              simpa using hv)
            simp only [za]
            exact ⟨_, rfl, by simpa using i2, by simpa using i1⟩
        | some xs =>
          simp only [hx] at h ⊢
          have he := x9 hx
          have hlen : (cs.drop o).take T.size = xs.map AV.p := he
          have hsz : T.size ≤ cs.length - o := by
            have := congrArg List.length hlen
            simp at this; omega
          have hget : ∀ j x, xs[j]? = some x → cs[o + j]? = some (.p x) := by
            intro j x hj
            have hjl : j < T.size := by
              have := (List.getElem?_eq_some_iff.1 hj).1; omega
            have := congrArg (·[j]?) hlen
            simp only [List.getElem?_take, hjl, if_true, List.getElem?_drop, List.getElem?_map, hj, Option.map_some] at this
            exact this
          rcases Nat.eq_zero_or_pos T.size with hz | hz
          · have hx0 : xs = [] := List.length_eq_zero_iff.1 (by omega)
            refine ⟨_, hrun _ (ZQ hT hA b o [] (by simp [hz]) (by simp)), ?_⟩
            subst hx0
            simp only [za, zi]
            exact ⟨_, rfl, by simp [zr]⟩
          · refine ⟨_, hrun _ (ZQ hT hA b o ((arr.toList.drop o).take T.size) (by simp; omega) (fun j v hj => ?_)), ?_⟩
            · have hjl : j < T.size := by
                rcases Nat.lt_or_ge j T.size with h' | h'
                · exact h'
                · rw [List.getElem?_take, if_neg (by omega)] at hj; cases hj
              rw [List.getElem?_take, if_pos hjl, List.getElem?_drop] at hj
              rw [zT hb]; simpa using hj
            · simp only [za, zi]
              refine ⟨_, rfl, ?_⟩
              refine wv (by simp; omega) (fun j x hj => ?_)
              obtain ⟨v, hv, h1, hr⟩ := hc _ _ (hget j x hj)
              simp only [za] at hr
              have hjl : j < T.size := by
                have := (List.getElem?_eq_some_iff.1 hj).1; omega
              refine ⟨v, ?_, h1, hr⟩
              simp only [List.getElem?_take, hjl, if_true, List.getElem?_drop]
              simpa using hv
      | false =>
        simp only [hA] at h ⊢
        cases hy : cs[o]? with
        | none => simp [hy] at h; exact h.elim
        | some y =>
          obtain ⟨v, hv, h1, hr⟩ := hc o y hy
          exact ⟨v, hrun _ (QZ hT hA b o v (by rw [zT hb]; exact hv)), by simpa [hy] using hr⟩
    · rename_i z e o
      simp only [za] at r
      obtain ⟨b, base, rfl, hf, he⟩ := r
      simp only [qo, and_true] at he
      obtain ⟨u, hu1, hu2, hu3⟩ := he
      have hrun : ∀ u, (loadVar t ⟨b, base + o, none⟩).run P w = .ok u w → (Instr.loadAt t (.pointer (some ⟨b, base + o, none⟩))).run P w = .ok u w := by
        intro u hu; simp [Instr.loadAt, Instr.sureAddr, hu]
      unfold Yo at h ⊢
      split at h
      · rename_i cs
        simp only [zi] at hu1
        obtain ⟨vs, rfl, hL⟩ := hu1
        split at h
        · rename_i hz
          simp only [hz, if_true]
          have hlv := zr.length hL
          have hcell : ∀ j v, vs.toList[j]? = some v → w.cell? ⟨b, base + j, none⟩ = some v := fun j v hj => (hu3 j v (by simpa [Value.cells] using hj)).2
          unfold wx at h ⊢
          cases hA : zW T.desc with
          | true =>
            simp only [hA, if_true] at h ⊢
            refine ⟨_, hrun _ (ZQ hT hA b (base + o) ((vs.toList.drop o).take T.size) (by simp at hlv ⊢; omega) (fun j v hj => ?_)), ?_⟩
            · have hjl : j < T.size := by
                rcases Nat.lt_or_ge j T.size with h' | h'
                · exact h'
                · rw [List.getElem?_take, if_neg (by omega)] at hj; cases hj
              rw [List.getElem?_take, if_pos hjl, List.getElem?_drop] at hj
              rw [Nat.add_assoc]; exact hcell _ _ hj
            · simp only [za, zi]
              exact ⟨_, rfl, by simpa using (hL.drop o).take T.size⟩
          | false =>
            simp only [hA] at h ⊢
            cases hx : cs[o]? with
            | none => simp [hx] at h; exact h.elim
            | some x =>
              obtain ⟨v, hv, h1, hr⟩ := hL.get hx
              refine ⟨v, hrun _ (QZ hT hA b (base + o) v (hcell _ _ hv)), ?_⟩
              simpa [hx, za] using hr
        · exact h.elim
      · rename_i e' hne
        split at h
        · rename_i hc
          obtain ⟨hA, rfl, hz⟩ := hc
          simp only [hA, hz, if_true, and_true]
          have hone : u.cells = #[u] := by
            cases u <;> first
              | rfl
              | (exfalso; cases e with
                 | agg cs => exact hne cs rfl
                 | opq q => simp only [zi] at hu1; subst hu1; cases h
                 | sl z' es => simp only [zi] at hu1; rcases hu1 with ⟨_, _, _, h'⟩ | ⟨_, _, _, h', _⟩ <;> cases h'
                 | mp ks xs => simp only [zi] at hu1; obtain ⟨_, _, _, h', _⟩ := hu1; cases h'
                 | pt z' e' => simp only [zi] at hu1; obtain ⟨_, _, h', _⟩ := hu1; cases h'
                 | _ => simp only [zi] at hu1; cases hu1)
          refine ⟨u, hrun _ (QZ hT hA b (base + 0) u (hu3 0 u (by rw [hone]; rfl)).2), ?_⟩
          simp only [za]; exact hu1
        · exact h.elim
    · exact h.elim
def UW(P:Program)(T:TypeId)(x:AV)(f:Nat):PR:=
 match ty P T,x with
 |some ⟨.struct fs,_,_,_⟩,.p (.agg cs)=>
  match fs[f]? with
  |some fd=>match ty P fd.type with
   |some ft=>wx (zW ft.desc) ft.size cs fd.offset
   |none=>bad
  |none=>bad
 |_,_=>bad
theorem JV {P:Program} {T:TypeId} {x:AV} {f:Nat} {g:Gh} {w:World} {v:Value}(h:(UW P T x f).1)(r:za g w x v):
  ∃u,(Instr.field T v f).run P w=.ok u w∧za g w (UW P T x f).2 u:=by
 unfold UW at h⊢
 split at h
 ·rename_i fs sz by_ ze cs hT
  have hu:=zo w hT
  simp only[za,zi]at r hu
  obtain⟨vs,rfl,hL⟩:=r
  cases hf:fs[f]? with
  |none=>simp only[hf]at h;exact h.elim
  |some fd=>
   simp only[hf]at h⊢
   cases hft:ty P fd.type with
   |none=>simp only[hft]at h;exact h.elim
   |some ft=>
    simp only[hft]at h⊢
    obtain⟨u,h1,h2⟩:=WI (w:=w) (g:=g) hft h hL
    refine⟨u,?_,h2⟩
    unfold Instr.field
    rw[Sem.run_bind,hu]
    simp[hf,asAgg,h1]
 ·exact h.elim
def zB(s:List UInt8)(n:Nat):Int:=(s.getD n 0).toNat
def Uy(P:Program)(T:TypeId)(x i:AV):PR:=
 match ty P T,x,i with
 |some ⟨.string,_,_,_⟩,.p (.str s),.p (.int _ n)=>(0≤n∧n<s.length,.p (.int .u8 (zB s n.toNat)))
 |some ⟨.array len e,_,_,_⟩,.p (.agg cs),.p (.int _ n)=>
  match ty P e with
  |some et=>((0≤n∧n<len)∧(wx (zW et.desc) et.size cs (n.toNat*et.size)).1,(wx (zW et.desc) et.size cs (n.toNat*et.size)).2)
  |none=>bad
 |_,_,_=>bad
theorem JF {P:Program} {T:TypeId} {x i:AV} {g:Gh} {w:World} {v iv:Value}(h:(Uy P T x i).1)(r:za g w x v)(ri:za g w i iv):
  ∃u,(Instr.index T v iv).run P w=.ok u w∧za g w (Uy P T x i).2 u:=by
 unfold Uy at h⊢
 split at h
 ·rename_i sz by_ ze s k n hT
  have hu:=zo w hT
  simp only[za,zi]at r ri hu
  subst r;subst ri
  obtain⟨h0,h1⟩:=h
  have hn:n.toNat<s.length:=by omega
  have hg:(⟨s.toArray⟩:ByteArray)[n.toNat]?=some s[n.toNat]:=by
   rw[ByteArray.getElem?_lt' _ _ (by simpa[ByteArray.size]using hn)]
   rfl
  refine⟨.int .u8 (zB s n.toNat),?_,by simp only[za,zi]⟩
  unfold Instr.index
  simp only[Sem.run_bind,asIntOf,Sem.run_pure,Result.andThen_ok,hu,h0,if_true,hg]
  simp[zB,hn]
 ·rename_i len e sz by_ ze cs k n hT
  have hu:=zo w hT
  simp only[za,zi]at r ri hu
  subst ri
  obtain⟨vs,rfl,hL⟩:=r
  cases het:ty P e with
  |none=>simp only[het]at h;exact h.elim
  |some et=>
   simp only[het]at h⊢
   obtain⟨⟨h0,h1⟩,h2⟩:=h
   obtain⟨u,hu1,hu2⟩:=WI (w:=w) (g:=g) het h2 hL
   refine⟨u,?_,hu2⟩
   unfold Instr.index
   simp only[Sem.run_bind,asIntOf,Sem.run_pure,Result.andThen_ok,hu,h0,h1,and_self,if_true,qc w het,hu1]
 ·exact h.elim
def xu(x:AV)(i:Nat):PR:=
 match x with
 |.tup xs=>match xs[i]? with
  |some y=>(True,y)
  |none=>bad
 |_=>bad
theorem zm.get {g:Gh} {w:World}:∀{xs:List AV} {vs:List Value},zm g w xs vs→∀{i:Nat} {x:AV},xs[i]?=some x→∃v,vs[i]?=some v∧za g w x v
 | [],vs,r,i,x,h=>by simp at h
 |c::cs,vs,r,i,x,h=>by
  simp only[zm]at r
  obtain⟨v,vs',rfl,h1,r⟩:=r
  cases i with
  |zero=>simp at h;subst h;exact⟨v,by simp,h1⟩
  |succ i=>simpa using zm.get r (i:=i) (x:=x) (by simpa using h)
theorem UI {P:Program} {x:AV} {i:Nat} {g:Gh} {w:World} {v:Value}(h:(xu x i).1)(r:za g w x v):
  ∃u,(Instr.extract v i).run P w=.ok u w∧za g w (xu x i).2 u:=by
 unfold xu at h⊢
 split at h
 ·rename_i xs
  simp only[za]at r
  obtain⟨vs,rfl,r⟩:=r
  cases hx:xs[i]? with
  |none=>simp only[hx]at h;exact h.elim
  |some y=>
   obtain⟨u,hu,hr⟩:=r.get hx
   refine⟨u,?_,by simpa only[hx]using hr⟩
   have:vs[i]?=some u:=by simpa using hu
   simp[Instr.extract,this]
 ·exact h.elim
end
end Go.AM
