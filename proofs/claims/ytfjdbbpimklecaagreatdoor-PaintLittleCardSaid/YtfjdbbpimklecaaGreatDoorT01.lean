/- A part of this seat's proofs, by an abstract machine. Conditions: each law's. -/
import Derived.Test.YtfjdbbpimklecaaGreatDoorT00
import Derived.Laws.Strings
import Derived.Laws.StructEq
import Derived.Laws.Pointers
namespace Go.AM
section
structure Ty where
 desc:TypeDesc
 size:Nat
 bytes:Nat
 zero:Option (List PV)
def yp:Value→PV
 |.int k n=>.int k n
 |.bool b=>.bool b
 |.string s=>.str s.data.toList
 |v=>.opq v
theorem zl.yp {fr:Nat→Nat} {w:World}(v:Value):zl fr w (yp v) v:=by
 cases v<;>simp[AM.yp,zl]
def ty(P:Program)(t:TypeId):Option Ty:=
 match P.info? t,P.underlying t with
 |some i,some d=>some ⟨d,i.size,i.bytes,i.zero.map fun v=>v.cells.toList.map yp⟩
 |_,_=>none
theorem Zf {P:Program} {t:TypeId} {T:Ty}(h:ty P t=some T):
  ∃i,P.info? t=some i∧P.underlying t=some T.desc∧i.size=T.size∧i.bytes=T.bytes∧i.zero.map (fun v=>v.cells.toList.map yp)=T.zero:=by
 unfold ty at h
 split at h
 ·rename_i i d h1 h2;simp at h;subst h;exact⟨i,h1,h2,rfl,rfl,rfl⟩
 ·cases h
section
variable {P:Program} {t:TypeId} {T:Ty} (w:World)
theorem zr(h:ty P t=some T):(underlying t).run P w=.ok T.desc w:=by
 obtain⟨i,_,h2,_⟩:=Zf h;exact run_underlying h2 w
theorem qz(h:ty P t=some T):(sizeOf t).run P w=.ok T.size w:=by
 obtain⟨i,h1,_,h3,_⟩:=Zf h;simp[sizeOf,typeInfo,h1,h3]
theorem zbU(h:ty P t=some T):∃i,(∀w,(typeInfo t).run P w=.ok i w)∧i.bytes=T.bytes:=by
 obtain⟨i,h1,_,h3,h4,_⟩:=Zf h;exact⟨i,fun w=>by simp[typeInfo,h1],h4⟩
theorem jd {cs:List PV}(h:ty P t=some T)(hz:T.zero=some cs):∃v,(∀w,(zeroValue t).run P w=.ok v w)∧v.cells.toList.map yp=cs:=by
 obtain⟨i,h1,_,h3,h4,h5⟩:=Zf h
 rw[hz]at h5
 simp only[Option.map_eq_some_iff]at h5
 obtain⟨v,hv,hc⟩:=h5
 exact⟨v,fun w=>by simp[zeroValue,typeInfo,h1,hv],hc⟩
end
def qq:TypeDesc→Bool
 |.struct _=>true
 |.array _ _=>true
 |_=>false
theorem wI {P:Program} {t:TypeId} {T:Ty}(w:World)(h:ty P t=some T):(isAgg t).run P w=.ok (qq T.desc) w:=by
 unfold isAgg
 rw[Sem.run_bind,zr w h]
 cases T.desc<;>rfl
def St.ev(S:St):Operand→AV
 |.tmp t=>S.get t
 |.const v=>.p (yp v)
 |.func f=>.p (.opq (.func (.func f) #[] #[]))
 |.global _=>.zY
theorem SR.ev [Gi] {E:Ent} {S:St} {g:Gh} {a:Act} {w:World}(h:SR E S g a w)(x:Operand):zb g w (S.ev x) (a.eval x):=by
 cases x with
 |tmp t=>exact h.slots t
 |const v=>simp only[St.ev,zb,Act.eval];exact zl.yp v
 |func f=>simp only[St.ev,zb,zl,Act.eval]
 |global g=>simp only[St.ev,zb]
def unG:AV→Prop×AV
 |.gd c x=>(c=true,x)
 |x=>(True,x)
theorem zu {g:Gh} {w:World} {x:AV} {v:Value}(h:(unG x).1)(r:zb g w x v):zb g w (unG x).2 v:=by
 cases x<;>simp only[unG]at h⊢ <;>first|exact r|(simp only[zb]at r;exact r.1 h)
abbrev PR:=Prop×AV
def bad:PR:=(False,.zY)
def vO(op:BinOp)(k:IntKind)(a b:Int):Prop×PV:=
 match op with
 |.add=>(True,.int k (k.wrap (a+b)))
 |.sub=>(True,.int k (k.wrap (a-b)))
 |.mul=>(True,.int k (k.wrap (a*b)))
 |.quo=>(b≠0,.int k (k.wrap (a.tdiv b)))
 |.rem=>(b≠0,.int k (a.tmod b))
 |.and=>(True,.int k (k.wrap (BitVec.ofInt k.bits a&&& BitVec.ofInt k.bits b).toNat))
 |.or=>(True,.int k (k.wrap (BitVec.ofInt k.bits a |||BitVec.ofInt k.bits b).toNat))
 |.xor=>(True,.int k (k.wrap (BitVec.ofInt k.bits a^^^BitVec.ofInt k.bits b).toNat))
 |.andNot=>(True,.int k (k.wrap (BitVec.ofInt k.bits a&&& ~~~ BitVec.ofInt k.bits b).toNat))
 |.eql=>(True,.bool (decide (a=b)))
 |.neq=>(True,.bool (!decide (a=b)))
 |.lss=>(True,.bool (decide (a<b)))
 |.leq=>(True,.bool (decide (a≤b)))
 |.gtr=>(True,.bool (decide (b<a)))
 |.geq=>(True,.bool (decide (b≤a)))
 |_=>(False,.bool false)
def Ud(op:BinOp)(a b:List UInt8):Prop×PV:=
 match op with
 |.add=>(((a.length+b.length:Nat):Int)≤9223372036854775807,.str (a++b))
 |.eql=>(True,.bool (decide (a=b)))
 |.neq=>(True,.bool (!decide (a=b)))
 |.lss=>(True,.bool (Op.bytesLess a b))
 |.leq=>(True,.bool (Op.bytesLess a b || decide (a=b)))
 |.gtr=>(True,.bool !(Op.bytesLess a b || decide (a=b)))
 |.geq=>(True,.bool !(Op.bytesLess a b))
 |_=>(False,.bool false)
def Ux:AV→Bool
 |.lp _ _=>true
 |.ip _ _ _=>true
 |.p (.pt _ _)=>true
 |_=>false
def xG:AV→Bool
 |.p (.opq (.pointer none))=>true
 |_=>false
def ptrEq(x y:AV):Option Bool:=
 if xG x then(if xG y then some true else if Ux y then some false else none)
 else if Ux x&&xG y then some false else none
def zaZ:TypeDesc→Bool
 |.pointer _=>true
 |_=>false
def K1:TypeDesc→Bool
 |.bool=>true
 |_=>false
def zdW(op:BinOp)(k:IntKind)(a:Int)(k':IntKind)(b:Int):PR:=
 match op with
 |.shl=>(0≤b,.p (.int k (k.wrap (a*2^(min b.toNat k.bits)))))
 |.shr=>(0≤b,.p (.int k (a.fdiv (2^(min b.toNat k.bits)))))
 |op=>if k=k' then((vO op k a b).1,.p (vO op k a b).2)else bad
def zdl(P:Program)(op:BinOp)(t:TypeId)(a b:Bool):PR:=
 match ty P t with
 |some T=>if K1 T.desc then
   (match op with
   |.eql=>(True,.p (.bool (a==b)))
   |.neq=>(True,.p (.bool (a !=b)))
   |_=>bad)else bad
 |none=>bad
def zbH(op:BinOp)(c:Option Bool):PR:=
 match c,op with
 |some c,.eql=>(True,.p (.bool c))
 |some c,.neq=>(True,.p (.bool (!c)))
 |_,_=>bad
def zdu(P:Program)(op:BinOp)(t:TypeId)(x y:AV):PR:=
 match ty P t with
 |some T=>if zaZ T.desc then zbH op (ptrEq x y)else bad
 |none=>bad
def zih(P:Program)(op:BinOp)(t:TypeId)(x y:AV):PR:=
 match x,y with
 |.p (.int k a),.p (.int k' b)=>zdW op k a k' b
 |.p (.str a),.p (.str b)=>((Ud op a b).1,.p (Ud op a b).2)
 |.p (.bool a),.p (.bool b)=>zdl P op t a b
 |x,y=>zdu P op t x y
theorem zaQ {P : Program} {fr : Nat → Nat} {w : World} (op : BinOp) (t : TypeId) (k : IntKind) (a b : Int) (h1 : op ≠ .shl) (h2 : op ≠ .shr) (h : (vO op k a b).1) :
    ∃ r, (binOp op t (.int k a) (.int k b)).run P w = .ok r w ∧ zl fr w (vO op k a b).2 r := by
  cases op <;> simp only [vO] at h ⊢ <;> first
    | exact absurd rfl h1
    | exact absurd rfl h2
    | exact h.elim
    | (refine ⟨_, ?_, by simp only [zl]; rfl⟩
       simp [binOp, Op.intArith, Op.intDiv, Op.intBits, Op.intCmp, h]; done)
    | (refine ⟨_, ?_, by simp only [zl]; rfl⟩
       simp [binOp, Op.intCmp]
       by_cases e : a = b <;> simp [e])
theorem zbz {P : Program} {fr : Nat → Nat} {w : World} (op : BinOp) (t : TypeId) (a b : List UInt8) (h : (Ud op a b).1) :
    ∃ r, (binOp op t (.string ⟨a.toArray⟩) (.string ⟨b.toArray⟩)).run P w = .ok r w ∧ zl fr w (Ud op a b).2 r := by
  have hm : IntKind.i64.max = 9223372036854775807 := by decide
  have hsz : ∀ l : List UInt8, (⟨l.toArray⟩ : ByteArray).size = l.length := fun l => by simp [ByteArray.size]
  have hap : (⟨a.toArray⟩ : ByteArray) ++ ⟨b.toArray⟩ = ⟨(a ++ b).toArray⟩ := by
    apply ByteArray.ext; simp
  have hbeq : (a == b) = decide (a = b) := by by_cases e : a = b <;> simp [e]
  cases op <;> simp only [Ud] at h ⊢ <;> first
    | exact h.elim
    | (refine ⟨_, ?_, by simp only [zl]; rfl⟩
       simp [binOp, Op.stringOp, hbeq]; done)
    | (refine ⟨_, ?_, by simp only [zl]; rfl⟩
       simp only [binOp, Op.stringOp, hsz, hm]
       rw [if_neg (by omega), hap]; rfl)
theorem jL {P:Program} {op:BinOp} {t:TypeId} {xo yo:Operand} {u v:Value} {w:World}(h1:u≠ .nilIface)(h2:∀cs,u≠ .agg cs):
  (eqGuard op t xo yo u v).run P w=.ok () w:=by
 cases op<;>first
  |rfl
  |(cases u<;>first|exact absurd rfl h1|exact absurd rfl (h2 _)|(cases v<;>rfl))
theorem K9 {g:Gh} {w:World} {x:AV} {v:Value}(h:Ux x=true)(r:zb g w x v):∃a,v=.pointer (some a):=by
 cases x with
 |lp t o=>simp only[zb]at r;obtain⟨b,_,e⟩:=r;exact⟨_,e⟩
 |ip z e o=>simp only[zb]at r;obtain⟨b,_,e,_⟩:=r;exact⟨_,e⟩
 |p x=>
  cases x with
  |pt z e=>simp only[zb,zl]at r;obtain⟨b,_,e,_⟩:=r;exact⟨_,e⟩
  |_=>cases h
 |_=>cases h
theorem zaL {g:Gh} {w:World} {x:AV} {v:Value}(h:xG x=true)(r:zb g w x v):v=.pointer none:=by
 unfold xG at h
 split at h
 ·simpa only[zb,zl]using r
 ·cases h
section
variable {P:Program} {t:TypeId} (w:World)
theorem Ki(h:P.underlying t=some .bool)(a b:Bool):
  (binOp .eql t (.bool a) (.bool b)).run P w=.ok (.bool (a==b)) w∧(binOp .neq t (.bool a) (.bool b)).run P w=.ok (.bool (a !=b)) w:=by
 have e:(Op.equal t (.bool a) (.bool b)).run P w=.ok (a==b) w:=run_equalIn_bool' w 9999 t a b h
 have e1:binOp .eql t (.bool a) (.bool b)=(do let c←Op.equal t (.bool a) (.bool b);pure (.bool c)):=rfl
 have e2:binOp .neq t (.bool a) (.bool b)=(do let c←Op.equal t (.bool a) (.bool b);pure (.bool (!c))):=rfl
 rw[e1,e2,Sem.run_bind,Sem.run_bind,e]
 exact⟨rfl,rfl⟩
theorem WY {el:TypeId}(h:P.underlying t=some (.pointer el))(x y:Option Addr)(hn:x=none∨y=none):
  (binOp .eql t (.pointer x) (.pointer y)).run P w=.ok (.bool (x.isNone&&y.isNone)) w∧(binOp .neq t (.pointer x) (.pointer y)).run P w=.ok (.bool (!(x.isNone&&y.isNone))) w:=by
 have e0:∀d,(Op.equalIn (d+1) t (.pointer x) (.pointer y)).run P w=.ok (x.isNone&&y.isNone) w:=by
  intro d
  cases x with
  |none=>cases y<;>simp[Op.equalIn,run_underlying h]
  |some a=>
   cases y with
   |none=>simp[Op.equalIn,run_underlying h]
   |some b=>simp at hn
 have e:(Op.equal t (.pointer x) (.pointer y)).run P w=.ok (x.isNone&&y.isNone) w:=e0 9999
 have e1:binOp .eql t (.pointer x) (.pointer y)=(do let c←Op.equal t (.pointer x) (.pointer y);pure (.bool c)):=by cases x<;>cases y<;>rfl
 have e2:binOp .neq t (.pointer x) (.pointer y)=(do let c←Op.equal t (.pointer x) (.pointer y);pure (.bool (!c))):=by cases x<;>cases y<;>rfl
 rw[e1,e2,Sem.run_bind,Sem.run_bind,e]
 exact⟨rfl,rfl⟩
end
theorem zek {P:Program} {g:Gh} {w:World}(op:BinOp)(t:TypeId)(k k':IntKind)(a b:Int)(h:(zdW op k a k' b).1):
  ∃r,(binOp op t (.int k a) (.int k' b)).run P w=.ok r w∧zb g w (zdW op k a k' b).2 r:=by
 unfold zdW at h⊢
 split at h
 ·refine⟨_,?_,by simp only[zb,zl];rfl⟩
  have hb:¬b<0:=by simp only[]at h;omega
  simp[binOp,Op.shift,hb]
 ·refine⟨_,?_,by simp only[zb,zl];rfl⟩
  have hb:¬b<0:=by simp only[]at h;omega
  simp[binOp,Op.shift,hb]
 ·rename_i h1 h2
  split at h
  ·rename_i hk
   subst hk
   obtain⟨r,hr,hR⟩:=zaQ (fr:=g.fr) (w:=w) (P:=P) op t k a b h1 h2 h
   refine⟨r,hr,?_⟩
   simp only[if_true,zb]
   exact hR
  ·exact h.elim
theorem zd4 {P:Program} {g:Gh} {w:World}(op:BinOp)(t:TypeId)(a b:Bool)(h:(zdl P op t a b).1):
  ∃r,(binOp op t (.bool a) (.bool b)).run P w=.ok r w∧zb g w (zdl P op t a b).2 r:=by
 unfold zdl at h⊢
 cases hT:ty P t with
 |none=>simp only[hT]at h;exact h.elim
 |some T=>
  simp only[hT]at h⊢
  by_cases hd:K1 T.desc=true
  ·simp only[hd,if_true]at h⊢
   have hdd:T.desc=.bool:=by cases hq:T.desc<;>simp[hq,K1]at hd;rfl
   obtain⟨i,_,hu,_⟩:=Zf hT
   rw[hdd]at hu
   cases op<;>first
    |exact h.elim
    |exact⟨_,(Ki w hu a b).1,by simp only[zb,zl]⟩
    |exact⟨_,(Ki w hu a b).2,by simp only[zb,zl]⟩
  ·simp only[hd]at h;exact h.elim
theorem zdL {P:Program} {g:Gh} {w:World} {t el:TypeId} {x y:AV} {u v:Value}(hu:P.underlying t=some (.pointer el))(hx:zb g w x u)(hy:zb g w y v)
  {c:Bool} (hc:ptrEq x y=some c):(u≠ .nilIface∧∀cs,u≠ .agg cs)∧(binOp .eql t u v).run P w=.ok (.bool c) w∧(binOp .neq t u v).run P w=.ok (.bool !c) w:=by
 unfold ptrEq at hc
 split at hc
 ·rename_i hxn
  have:=zaL hxn hx;subst this
  split at hc
  ·rename_i hyn
   have:=zaL hyn hy;subst this
   simp at hc;subst hc
   exact⟨⟨by simp,by simp⟩,WY w hu none none (.inl rfl)⟩
  ·split at hc
   ·rename_i hya
    obtain⟨a,rfl⟩:=K9 hya hy
    simp at hc;subst hc
    exact⟨⟨by simp,by simp⟩,WY w hu none (some a) (.inl rfl)⟩
   ·cases hc
 ·split at hc
  ·rename_i hxy
   simp only[Bool.and_eq_true]at hxy
   obtain⟨a,rfl⟩:=K9 hxy.1 hx
   have:=zaL hxy.2 hy;subst this
   simp at hc;subst hc
   exact⟨⟨by simp,by simp⟩,WY w hu (some a) none (.inr rfl)⟩
  ·cases hc
theorem zcy {P:Program} {g:Gh} {w:World} {op:BinOp} {t:TypeId} {x y:AV} {u v:Value}(h:(zdu P op t x y).1)(hx:zb g w x u)(hy:zb g w y v):
  (u≠ .nilIface∧∀cs,u≠ .agg cs)∧∃r,(binOp op t u v).run P w=.ok r w∧zb g w (zdu P op t x y).2 r:=by
 unfold zdu at h⊢
 cases hT:ty P t with
 |none=>simp only[hT]at h;exact h.elim
 |some T=>
  simp only[hT]at h⊢
  by_cases hd:zaZ T.desc=true
  ·simp only[hd,if_true]at h⊢
   have hdd:∃e,T.desc=.pointer e:=by cases hq:T.desc<;>simp[hq,zaZ]at hd;exact⟨_,rfl⟩
   obtain⟨e,hdd⟩:=hdd
   obtain⟨i,_,hu,_⟩:=Zf hT
   rw[hdd]at hu
   cases hc:ptrEq x y with
   |none=>simp only[hc,zbH]at h;cases op<;>exact h.elim
   |some c=>
    simp only[hc]at h⊢
    obtain⟨h1,h2,h3⟩:=zdL (P:=P) hu hx hy hc
    refine⟨h1,?_⟩
    cases op<;>simp only[zbH]at h⊢ <;>first
     |exact h.elim
     |exact⟨_,h2,by simp only[zb,zl]⟩
     |exact⟨_,h3,by simp only[zb,zl]⟩
  ·simp only[hd]at h;exact h.elim
theorem zfd {P:Program} {op:BinOp} {t:TypeId} {x y:AV} {g:Gh} {w:World} {u v:Value}(xo yo:Operand)(h:(zih P op t x y).1)
  (hx:zb g w x u) (hy:zb g w y v):
  ∃r,(do eqGuard op t xo yo u v;binOp op t u v:Sem Value).run P w=.ok r w∧zb g w (zih P op t x y).2 r:=by
 suffices H:(u≠ .nilIface∧∀cs,u≠ .agg cs)∧∃r,(binOp op t u v).run P w=.ok r w∧zb g w (zih P op t x y).2 r by
  obtain⟨⟨h1,h2⟩,r,hr,hR⟩:=H
  exact⟨r,by rw[Sem.run_bind,jL h1 h2];exact hr,hR⟩
 unfold zih at h⊢
 split at h
 ·simp only[zb,zl]at hx hy
  subst hx;subst hy
  exact⟨⟨by simp,by simp⟩,zek op t _ _ _ _ h⟩
 ·simp only[zb,zl]at hx hy
  subst hx;subst hy
  refine⟨⟨by simp,by simp⟩,?_⟩
  obtain⟨r,hr,hR⟩:=zbz (fr:=g.fr) (w:=w) (P:=P) op t _ _ h
  exact⟨r,hr,by simp only[zb];exact hR⟩
 ·simp only[zb,zl]at hx hy
  subst hx;subst hy
  exact⟨⟨by simp,by simp⟩,zd4 op t _ _ h⟩
 ·exact zcy h hx hy
def PV.cells:PV→List PV
 |.agg cs=>cs
 |x=>[x]
def PV.one:PV→Bool
 |.agg _=>false
 |.opq u=>u.oneCell'
 |_=>true
def PV.fits:PV→Bool
 |.opq u=>u.oneCell'
 |_=>true
theorem zl.one {fr:Nat→Nat} {w:World} {x:PV} {v:Value}(h:x.one=true)(r:zl fr w x v):v.oneCell'=true:=by
 cases x with
 |agg cs=>cases h
 |opq u=>simp only[zl]at r;subst r;exact h
 |sl z es=>simp only[zl]at r;rcases r with ⟨_,_,_,rfl⟩|⟨b,o,cap,rfl,_⟩<;>rfl
 |mp ks xs=>simp only[zl]at r;obtain⟨b,arr,c,rfl,_⟩:=r;rfl
 |pt z e=>simp only[zl]at r;obtain⟨b,o,rfl,_⟩:=r;rfl
 |_=>simp only[zl]at r;subst r;rfl
section
variable {fr:Nat→Nat} {w:World}
theorem zw.length:∀{cs:List PV} {vs:List Value},zw fr w cs vs→vs.length=cs.length
 | [],vs,r=>by simp only[zw]at r;subst r;rfl
 |c::cs,vs,r=>by simp only[zw]at r;obtain⟨v,vs',rfl,_,_,r⟩:=r;simp[zw.length r]
theorem zw.get:∀{cs:List PV} {vs:List Value},zw fr w cs vs→∀{i:Nat} {x:PV},cs[i]?=some x→∃v,vs[i]?=some v∧v.oneCell'=true∧zl fr w x v
 | [],vs,r,i,x,h=>by simp at h
 |c::cs,vs,r,i,x,h=>by
  simp only[zw]at r
  obtain⟨v,vs',rfl,h1,h2,r⟩:=r
  cases i with
  |zero=>simp at h;subst h;exact⟨v,by simp,h1,h2⟩
  |succ i=>simpa using zw.get r (i:=i) (x:=x) (by simpa using h)
theorem zw.take:∀{cs:List PV} {vs:List Value} (n:Nat),zw fr w cs vs→zw fr w (cs.take n) (vs.take n)
 | [],vs,n,r=>by simp only[zw]at r;subst r;simp[zw]
 |c::cs,vs,0,r=>by simp[zw]
 |c::cs,vs,n+1,r=>by
  simp only[zw]at r
  obtain⟨v,vs',rfl,h1,h2,r⟩:=r
  simp only[List.take_succ_cons,zw]
  exact⟨v,_,rfl,h1,h2,r.take n⟩
theorem zw.drop:∀{cs:List PV} {vs:List Value} (n:Nat),zw fr w cs vs→zw fr w (cs.drop n) (vs.drop n)
 | [],vs,n,r=>by simp only[zw]at r;subst r;simp[zw]
 |c::cs,vs,0,r=>by simpa using r
 |c::cs,vs,n+1,r=>by
  simp only[zw]at r
  obtain⟨v,vs',rfl,h1,h2,r⟩:=r
  simpa using r.drop n
theorem zw.append:∀{cs ds:List PV} {vs us:List Value},zw fr w cs vs→zw fr w ds us→zw fr w (cs++ds) (vs++us)
 | [],ds,vs,us,r,r'=>by simp only[zw]at r;subst r;simpa using r'
 |c::cs,ds,vs,us,r,r'=>by
  simp only[zw]at r
  obtain⟨v,vs',rfl,h1,h2,r⟩:=r
  simp only[List.cons_append,zw]
  exact⟨v,_,rfl,h1,h2,r.append r'⟩
theorem zw.of_map:∀{cs:List PV} {vs:List Value},vs.map yp=cs→cs.all PV.one=true→zw fr w cs vs
 |_,[],h,_=>by simp at h;subst h;simp[zw]
 |_,v::vs,h,h1=>by
  simp only[List.map_cons]at h
  subst h
  simp only[List.all_cons,Bool.and_eq_true]at h1
  simp only[zw]
  exact⟨v,vs,rfl,zl.one h1.1 (zl.yp v:zl fr w _ v),zl.yp v,zw.of_map rfl h1.2⟩
theorem zl.cells {x:PV} {v:Value}(h:x.fits=true)(r:zl fr w x v):zw fr w x.cells v.cells.toList:=by
 cases x with
 |agg cs=>simp only[zl]at r;obtain⟨vs,rfl,r⟩:=r;exact r
 |opq u=>
  simp only[zl]at r;subst r
  have hc:v.cells.toList=[v]:=by cases v<;>first|rfl|cases h
  rw[hc];simp only[PV.cells,zw];exact⟨v,[],rfl,h,by simp only[zl],rfl⟩
 |sl z es=>
  have h1:=zl.one (x:=.sl z es) rfl r
  have hc:v.cells.toList=[v]:=by cases v<;>first|rfl|cases h1
  rw[hc];simp only[PV.cells,zw];exact⟨v,[],rfl,h1,r,rfl⟩
 |mp ks xs=>
  have h1:=zl.one (x:=.mp ks xs) rfl r
  have hc:v.cells.toList=[v]:=by cases v<;>first|rfl|cases h1
  rw[hc];simp only[PV.cells,zw];exact⟨v,[],rfl,h1,r,rfl⟩
 |pt z e=>
  have h1:=zl.one (x:=.pt z e) rfl r
  have hc:v.cells.toList=[v]:=by cases v<;>first|rfl|cases h1
  rw[hc];simp only[PV.cells,zw];exact⟨v,[],rfl,h1,r,rfl⟩
 |int k n=>simp only[zl]at r;subst r;simp only[PV.cells,zw];exact⟨_,[],rfl,rfl,by simp only[zl],rfl⟩
 |bool k=>simp only[zl]at r;subst r;simp only[PV.cells,zw];exact⟨_,[],rfl,rfl,by simp only[zl],rfl⟩
 |str k=>simp only[zl]at r;subst r;simp only[PV.cells,zw];exact⟨_,[],rfl,rfl,by simp only[zl],rfl⟩
def u7(agg:Bool)(size:Nat)(cs:List PV)(off:Nat):PR:=
 if agg then(off+size≤cs.length,.p (.agg ((cs.drop off).take size)))
 else match cs[off]? with
  |some x=>(True,.p x)
  |none=>bad
theorem Kb {P:Program} {g:Gh} {t:TypeId} {T:Ty}(hT:ty P t=some T) {cs:List PV} {vs:Array Value} {off:Nat}(h:(u7 (qq T.desc) T.size cs off).1)
  (r:zw g.fr w cs vs.toList):∃v,(part t vs off).run P w=.ok v w∧zb g w (u7 (qq T.desc) T.size cs off).2 v:=by
 unfold u7 at h⊢
 have hl:=zw.length r
 unfold part
 rw[Sem.run_bind,wI w hT]
 cases hA:qq T.desc with
 |true=>
  simp only[hA,if_true]at h⊢
  refine⟨.agg (vs.extract off (off+T.size)),?_,?_⟩
  ·simp[qz w hT]
  ·simp only[zb,zl]
   refine⟨_,rfl,?_⟩
   have:(vs.extract off (off+T.size)).toList=(vs.toList.drop off).take T.size:=by
    simp
   rw[this]
   exact(r.drop off).take T.size
 |false=>
  simp only[hA]at h⊢
  cases hx:cs[off]? with
  |none=>simp only[hx]at h;exact h.elim
  |some x=>
   obtain⟨v,hv,h1,hr⟩:=r.get hx
   refine⟨v,?_,by simp only;exact hr⟩
   have:vs[off]?=some v:=by simpa using hv
   simp[this]
end
def jg(P:Program)(T:TypeId)(x:AV)(f:Nat):PR:=
 match ty P T with
 |some ⟨.struct fs,_,_,_⟩=>
  match fs[f]? with
  |some fd=>
   match ty P fd.type with
   |some ft=>
    if ft.size=0 then bad else
    match x with
    |.lp t o=>(True,.lp t (o+fd.offset))
    |.ip z e o=>(True,.ip z e (o+fd.offset))
    |_=>bad
   |none=>bad
  |none=>bad
 |_=>bad
theorem qw(b o n:Nat):(⟨b,o,none⟩:Addr).add n=⟨b,o+n,none⟩:=by unfold Addr.add;split<;>simp_all
theorem Uu {P:Program} {T:TypeId} {x:AV} {f:Nat} {g:Gh} {w:World} {v:Value}(h:(jg P T x f).1)(r:zb g w x v):
  ∃u,(Instr.fieldAt T v f).run P w=.ok u w∧zb g w (jg P T x f).2 u:=by
 unfold jg at h⊢
 split at h
 ·rename_i fs sz by_ ze hT
  have hu:=zr w hT
  simp only[]at hu⊢
  cases hf:fs[f]? with
  |none=>simp only[hf]at h;exact h.elim
  |some fd=>
   simp only[hf]at h⊢
   cases hft:ty P fd.type with
   |none=>simp only[hft]at h;exact h.elim
   |some ft=>
    simp only[hft]at h⊢
    split at h
    ·exact h.elim
    ·rename_i hz
     simp only[hz,if_false]
     have hs:=qz w hft
     have step:∀b o,v=.pointer (some ⟨b,o,none⟩)→(Instr.fieldAt T v f).run P w=.ok (.pointer (some ⟨b,o+fd.offset,none⟩)) w:=by
      intro b o e
      subst e
      unfold Instr.fieldAt
      rw[Sem.run_bind,hu]
      simp[hf,Instr.sureAddr,fieldPlace,hs,hz,qw]
     split at h
     ·rename_i t o
      simp only[zb]at r⊢
      obtain⟨b,hk,e⟩:=r
      exact⟨_,step b o e,b,hk,rfl⟩
     ·rename_i z e o
      simp only[zb]at r⊢
      obtain⟨b,base,e',hf,he⟩:=r
      exact⟨_,step b _ e',b,base,by rw[Nat.add_assoc],hf,he⟩
     ·exact h.elim
 ·exact h.elim
def elemAt(es:List PV)(n:Nat):PV:=es.getD n default
def jr(P:Program)(T:TypeId)(x i:AV):PR:=
 match ty P T,i with
 |some ⟨.slice e,_,_,_⟩,.p (.int _ n)=>
  match ty P e,x with
  |some et,.p (.sl z es)=>(z=et.size∧0≤n∧n<es.length,.ip z (elemAt es n.toNat) 0)
  |some et,.os _ z es=>(z=et.size∧0≤n∧n<es.length,.ip z (elemAt es n.toNat) 0)
  |some et,.la t z o m=>(z=et.size∧0≤n∧n<m,.lp t (o+n.toNat*z))
  |_,_=>bad
 |some ⟨.array len e,_,_,_⟩,.p (.int _ n)=>
  match ty P e,x with
  |some et,.lp t o=>(0≤n∧n<len,.lp t (o+n.toNat*et.size))
  |some et,.ip z e o=>(0≤n∧n<len,.ip z e (o+n.toNat*et.size))
  |_,_=>bad
 |_,_=>bad
theorem UG {P:Program} {T:TypeId} {x i:AV} {g:Gh} {w:World} {v iv:Value}(h:(jr P T x i).1)(r:zb g w x v)(ri:zb g w i iv):
  ∃u,(Instr.indexAt T v iv).run P w=.ok u w∧zb g w (jr P T x i).2 u:=by
 unfold jr at h⊢
 split at h
 ·rename_i e sz by_ ze k n hT
  have hu:=zr w hT
  simp only[zb,zl]at ri hu⊢
  subst ri
  cases het:ty P e with
  |none=>simp only[het]at h;exact h.elim
  |some et=>
   simp only[het]at h⊢
   have hs:=qz w het
   have step:∀b o len cap,v=.slice (some ⟨b,o,none⟩) len cap→0≤n→n< (len:Int)→
     (Instr.indexAt T v (.int k n)).run P w=.ok (.pointer (some ⟨b,o+n.toNat*et.size,none⟩)) w:=by
    intro b o len cap e' h0 h1
    subst e'
    simp[Instr.indexAt,asIntOf,hu,hs,h0,h1,qw]
   have slice:∀z es,z=et.size∧0≤n∧n< (es.length:Int)→zl g.fr w (.sl z es) v→
     ∃u,(Instr.indexAt T v (.int k n)).run P w=.ok u w∧zb g w (.ip z (elemAt es n.toNat) 0) u:=by
    rintro z es ⟨hz,h0,h1⟩ r
    subst hz
    simp only[zl]at r
    rcases r with ⟨rfl,_⟩|⟨b,o,cap,e',hc,hf,he⟩
    ·simp at h1;omega
    ·refine⟨_,step b o _ cap e' h0 h1,?_⟩
     have hn:n.toNat<es.length:=by omega
     have hg:es[n.toNat]?=some (elemAt es n.toNat):=by simp[elemAt,List.getElem?_eq_getElem hn]
     obtain⟨u,hu1,hu2,hu3⟩:=qJ.get he hg
     simp only[zb]
     refine⟨b,o+n.toNat*et.size,rfl,?_,?_⟩
     ·have:n.toNat*et.size+et.size≤es.length*et.size:=by
       have:=Nat.mul_le_mul_right et.size (show n.toNat+1≤es.length from hn)
       rw[Nat.add_mul]at this;omega
      omega
     ·simp only[qJ,and_true]
      exact⟨u,hu1,hu2,hu3⟩
   split at h
   ·rename_i et' z es h'
    simp only[Option.some.injEq]at h';subst h'
    simp only[zb]at r
    exact slice _ _ h r
   ·rename_i et' t z es h'
    simp only[Option.some.injEq]at h';subst h'
    simp only[zb]at r
    exact slice _ _ h r.1
   ·rename_i et' t z o m h'
    simp only[Option.some.injEq]at h';subst h'
    simp only[zb]at r⊢
    obtain⟨b,o',cap,hk,e',hc,ho,_⟩:=r
    obtain⟨hz,h0,h1⟩:=h
    subst hz
    have ho':o'=o:=ho.resolve_left (by omega)
    subst ho'
    exact⟨_,step b o' m cap e' h0 h1,b,hk,rfl⟩
   ·exact h.elim
 ·rename_i len e sz by_ ze k n hT
  have hu:=zr w hT
  simp only[zb,zl]at ri hu⊢
  subst ri
  cases het:ty P e with
  |none=>simp only[het]at h;exact h.elim
  |some et=>
   simp only[het]at h⊢
   have hs:=qz w het
   have step:∀b o,v=.pointer (some ⟨b,o,none⟩)→0≤n→n< (len:Int)→
     (Instr.indexAt T v (.int k n)).run P w=.ok (.pointer (some ⟨b,o+n.toNat*et.size,none⟩)) w:=by
    intro b o e' h0 h1
    subst e'
    simp[Instr.indexAt,asIntOf,hu,hs,h0,h1,qw,Instr.sureAddr]
   split at h
   ·rename_i et' t o h'
    simp only[Option.some.injEq]at h';subst h'
    simp only[zb]at r⊢
    obtain⟨b,hk,e'⟩:=r
    exact⟨_,step b o e' h.1 h.2,b,hk,rfl⟩
   ·rename_i et' z e1 o h'
    simp only[Option.some.injEq]at h';subst h'
    simp only[zb]at r⊢
    obtain⟨b,base,e',hf,he⟩:=r
    exact⟨_,step b _ e' h.1 h.2,b,base,by rw[Nat.add_assoc],hf,he⟩
   ·exact h.elim
 ·exact h.elim
def KE:List AV→Option (List PV)
 | []=>some []
 |.p x::l=>(KE l).map (x::·)
 |_::_=>none
theorem uF:∀{l:List AV} {xs:List PV},KE l=some xs→l=xs.map .p
 | [],xs,h=>by simp[KE]at h;subst h;rfl
 |x::l,xs,h=>by
  unfold KE at h
  split at h
  ·rename_i h';cases h'
  ·rename_i y l' h'
   injection h' with h1 h2
   subst h1;subst h2
   simp only[Option.map_eq_some_iff]at h
   obtain⟨ys,h1,rfl⟩:=h
   rw[uF h1];rfl
  ·cases h
def zbX(T:Ty)(z:Nat)(e:PV)(o:Nat):PR:=
 match e with
 |.agg cs=>if cs.length=z then u7 (qq T.desc) T.size cs o else bad
 |e=>if qq T.desc=false∧o=0∧z=1 then(e.fits=true,.p e)else bad
def yc(P:Program)(S:St)(t:TypeId)(x:AV):PR:=
 match ty P t with
 |some T=>
  match x with
  |.lp r o=>
   match zn S.rs r with
   |some cs=>
    if qq T.desc then
     match KE ((cs.drop o).take T.size)with
     |some xs=>(xs.length=T.size,.p (.agg xs))
     |none=>(((cs.drop o).take T.size).length=T.size,.ag ((cs.drop o).take T.size))
    else match cs[o]? with
     |some y=>(True,y)
     |none=>bad
   |none=>bad
  |.ip z e o=>zbX T z e o
  |_=>bad
 |none=>bad
theorem Wc {fr:Nat→Nat} {w:World}:∀{xs:List PV} {vs:List Value},xs.length=vs.length→
  (∀(j:Nat) (x:PV),xs[j]?=some x→∃v,vs[j]?=some v∧v.oneCell'=true∧zl fr w x v)→zw fr w xs vs
 | [],[],_,_=>by simp[zw]
 |x::xs,v::vs,hl,h=>by
  simp only[zw]
  obtain⟨u,hu,h1,hr⟩:=h 0 x (by simp)
  simp at hu;subst hu
  exact⟨v,vs,rfl,h1,hr,Wc (by simpa using hl) (fun j y hj=>by simpa using h (j+1) y (by simpa using hj))⟩
theorem Qt {P:Program} {t:TypeId} {T:Ty} {w:World}(hT:ty P t=some T)(hA:qq T.desc=true)(b o:Nat)(vs:List Value)(hl:vs.length=T.size)
  (h:∀(j:Nat) (v:Value),vs[j]?=some v→w.cell? ⟨b,o+j,none⟩=some v):(loadVar t ⟨b,o,none⟩).run P w=.ok (.agg vs.toArray) w:=by
 unfold loadVar
 rw[Sem.run_bind,wI w hT,hA]
 have:=run_loadCells_list (P:=P) w ⟨b,o,none⟩ vs (fun j v hj=>by rw[qw];exact h j v hj)
 rw[hl]at this
 simp[qz w hT,this]
theorem j6 {P:Program} {t:TypeId} {T:Ty} {w:World}(hT:ty P t=some T)(hA:qq T.desc=false)(b o:Nat)(v:Value)
  (h:w.cell? ⟨b,o,none⟩=some v):(loadVar t ⟨b,o,none⟩).run P w=.ok v w:=by
 unfold loadVar
 rw[Sem.run_bind,wI w hT,hA]
 simp[h]
theorem z8 {w:World} {b o:Nat} {arr:Array Value} {T:TypeId}(h:w.heap[b]?=some (.cells arr T (0,0))):w.cell? ⟨b,o,none⟩=arr[o]?:=by
 simp[World.cell?,h]
theorem xd [Gi] {P : Program} {E : Ent} {S : St} {g : Gh} {a : Act} {w : World} (hS : SR E S g a w) {t : TypeId} {x : AV} {v : Value} (h : (yc P S t x).1) (r : zb g w x v) :
    ∃ u, (Instr.loadAt t v).run P w = .ok u w ∧ zb g w (yc P S t x).2 u := by
  unfold yc at h ⊢
  cases hT : ty P t with
  | none => simp only [hT] at h; exact h.elim
  | some T =>
    simp only [hT] at h ⊢
    split at h
    · rename_i rt o
      simp only [zb] at r
      obtain ⟨b, hk, rfl⟩ := r
      obtain ⟨cs, hl, h0, arr, T', hb, hle, hc⟩ := hS.roots b rt hk
      simp only [hl] at h ⊢
      have hrun : ∀ u, (loadVar t ⟨b, o, none⟩).run P w = .ok u w → (Instr.loadAt t (.pointer (some ⟨b, o, none⟩))).run P w = .ok u w := by
        intro u hu; simp [Instr.loadAt, Instr.sureAddr, hu]
      cases hA : qq T.desc with
      | true =>
        simp only [hA, if_true] at h ⊢
        cases hx : KE ((cs.drop o).take T.size) with
        | none =>
          simp only [hx] at h ⊢
          have hsz : T.size ≤ cs.length - o := by simp at h; omega
          have hget : ∀ (j : Nat) (x : AV), ((cs.drop o).take T.size)[j]? = some x → j < T.size ∧ cs[o + j]? = some x := by
            intro j x hj
            have hjl : j < T.size := by
              have := (List.getElem?_eq_some_iff.1 hj).1; simp at this; omega
            refine ⟨hjl, ?_⟩
            rwa [List.getElem?_take, if_pos hjl, List.getElem?_drop] at hj
          refine ⟨_, hrun _ (Qt hT hA b o ((arr.toList.drop o).take T.size) ?_ (fun j v hj => ?_)), ?_⟩
          · rcases Nat.eq_zero_or_pos T.size with hz | hz
            · simp [hz]
            · simp; omega
          · have hjl : j < T.size := by
              rcases Nat.lt_or_ge j T.size with h' | h'
              · exact h'
              · rw [List.getElem?_take, if_neg (by omega)] at hj; cases hj
            rw [List.getElem?_take, if_pos hjl, List.getElem?_drop] at hj
            rw [z8 hb]; simpa using hj
          · have key : ∀ (ys : List AV) (vs : List Value), ys.length = vs.length → (∀ (j : Nat) (x : AV), ys[j]? = some x → ∃ v, vs[j]? = some v ∧ v.oneCell' = true ∧ zb g w x v) → zo g w ys vs ∧ ∀ u ∈ vs, u.oneCell' = true := by
              intro ys
              induction ys with
              | nil => intro vs hl _; cases vs with
                | nil => exact ⟨by simp [zo], by simp⟩
                | cons v vs => simp at hl
              | cons y ys ih =>
                intro vs hl hh
                cases vs with
                | nil => simp at hl
                | cons v vs =>
                  obtain ⟨u, hu, h1, hr⟩ := hh 0 y rfl
                  simp at hu; subst hu
                  obtain ⟨i1, i2⟩ := ih vs (by simpa using hl) (fun j x hj => by simpa using hh (j + 1) x (by simpa using hj))
                  refine ⟨by simp only [zo]; exact ⟨v, vs, rfl, hr, i1⟩, fun u hu => ?_⟩
                  rcases List.mem_cons.1 hu with rfl | hu
                  · exact h1
                  · exact i2 u hu
            obtain ⟨i1, i2⟩ := key ((cs.drop o).take T.size) ((arr.toList.drop o).take T.size) (by
              rcases Nat.eq_zero_or_pos T.size with hz | hz
              · simp [hz]
              · simp; omega) (fun j x hj => by
              obtain ⟨hjl, hj⟩ := hget j x hj
              obtain ⟨v, hv, h1, hr⟩ := hc _ _ hj
              refine ⟨v, ?_, h1, hr⟩
              simp only [List.getElem?_take, hjl, if_true, List.getElem?_drop]
              simpa using hv)
            simp only [zb]
            exact ⟨_, rfl, by simpa using i2, by simpa using i1⟩
        | some xs =>
          simp only [hx] at h ⊢
          have he := uF hx
          have hlen : (cs.drop o).take T.size = xs.map AV.p := he
          have hsz : T.size ≤ cs.length - o := by
            have := congrArg List.length hlen
            simp at this; omega
          have hget : ∀ j x, xs[j]? = some x → cs[o + j]? = some (.p x) := by
            intro j x hj
            have hjl : j < T.size := by
              have := (List.getElem?_eq_some_iff.1 hj).1; omega
            have := congrArg (·[j]?) hlen
            simp only [List.getElem?_take, hjl, if_true, List.getElem?_drop, List.getElem?_map, hj, Option.map_some] at this
            exact this
          rcases Nat.eq_zero_or_pos T.size with hz | hz
          · have hx0 : xs = [] := List.length_eq_zero_iff.1 (by omega)
            refine ⟨_, hrun _ (Qt hT hA b o [] (by simp [hz]) (by simp)), ?_⟩
            subst hx0
            simp only [zb, zl]
            exact ⟨_, rfl, by simp [zw]⟩
          · refine ⟨_, hrun _ (Qt hT hA b o ((arr.toList.drop o).take T.size) (by simp; omega) (fun j v hj => ?_)), ?_⟩
            · have hjl : j < T.size := by
                rcases Nat.lt_or_ge j T.size with h' | h'
                · exact h'
                · rw [List.getElem?_take, if_neg (by omega)] at hj; cases hj
              rw [List.getElem?_take, if_pos hjl, List.getElem?_drop] at hj
              rw [z8 hb]; simpa using hj
            · simp only [zb, zl]
              refine ⟨_, rfl, ?_⟩
              refine Wc (by simp; omega) (fun j x hj => ?_)
              obtain ⟨v, hv, h1, hr⟩ := hc _ _ (hget j x hj)
              simp only [zb] at hr
              have hjl : j < T.size := by
                have := (List.getElem?_eq_some_iff.1 hj).1; omega
              refine ⟨v, ?_, h1, hr⟩
              simp only [List.getElem?_take, hjl, if_true, List.getElem?_drop]
              simpa using hv
      | false =>
        simp only [hA] at h ⊢
        cases hy : cs[o]? with
        | none => simp [hy] at h; exact h.elim
        | some y =>
          obtain ⟨v, hv, h1, hr⟩ := hc o y hy
          exact ⟨v, hrun _ (j6 hT hA b o v (by rw [z8 hb]; exact hv)), by simpa [hy] using hr⟩
    · rename_i z e o
      simp only [zb] at r
      obtain ⟨b, base, rfl, hf, he⟩ := r
      simp only [qJ, and_true] at he
      obtain ⟨u, hu1, hu2, hu3⟩ := he
      have hrun : ∀ u, (loadVar t ⟨b, base + o, none⟩).run P w = .ok u w → (Instr.loadAt t (.pointer (some ⟨b, base + o, none⟩))).run P w = .ok u w := by
        intro u hu; simp [Instr.loadAt, Instr.sureAddr, hu]
      unfold zbX at h ⊢
      split at h
      · rename_i cs
        simp only [zl] at hu1
        obtain ⟨vs, rfl, hL⟩ := hu1
        split at h
        · rename_i hz
          simp only [hz, if_true]
          have hlv := zw.length hL
          have hcell : ∀ j v, vs.toList[j]? = some v → w.cell? ⟨b, base + j, none⟩ = some v := fun j v hj => (hu3 j v (by simpa [Value.cells] using hj)).2
          unfold u7 at h ⊢
          cases hA : qq T.desc with
          | true =>
            simp only [hA, if_true] at h ⊢
            refine ⟨_, hrun _ (Qt hT hA b (base + o) ((vs.toList.drop o).take T.size) (by simp at hlv ⊢; omega) (fun j v hj => ?_)), ?_⟩
            · have hjl : j < T.size := by
                rcases Nat.lt_or_ge j T.size with h' | h'
                · exact h'
                · rw [List.getElem?_take, if_neg (by omega)] at hj; cases hj
              rw [List.getElem?_take, if_pos hjl, List.getElem?_drop] at hj
              rw [Nat.add_assoc]; exact hcell _ _ hj
            · simp only [zb, zl]
              exact ⟨_, rfl, by simpa using (hL.drop o).take T.size⟩
          | false =>
            simp only [hA] at h ⊢
            cases hx : cs[o]? with
            | none => simp [hx] at h; exact h.elim
            | some x =>
              obtain ⟨v, hv, h1, hr⟩ := hL.get hx
              refine ⟨v, hrun _ (j6 hT hA b (base + o) v (hcell _ _ hv)), ?_⟩
              simpa [hx, zb] using hr
        · exact h.elim
      · rename_i e' hne
        split at h
        · rename_i hc
          obtain ⟨hA, rfl, hz⟩ := hc
          simp only [hA, hz, if_true, and_true]
          have hone : u.cells = #[u] := by
            cases u <;> first
              | rfl
              | (exfalso; cases e with
                 | agg cs => exact hne cs rfl
                 | opq q => simp only [zl] at hu1; subst hu1; cases h
                 | sl z' es => simp only [zl] at hu1; rcases hu1 with ⟨_, _, _, h'⟩ | ⟨_, _, _, h', _⟩ <;> cases h'
                 | mp ks xs => simp only [zl] at hu1; obtain ⟨_, _, _, h', _⟩ := hu1; cases h'
                 | pt z' e' => simp only [zl] at hu1; obtain ⟨_, _, h', _⟩ := hu1; cases h'
                 | _ => simp only [zl] at hu1; cases hu1)
          refine ⟨u, hrun _ (j6 hT hA b (base + 0) u (hu3 0 u (by rw [hone]; rfl)).2), ?_⟩
          simp only [zb]; exact hu1
        · exact h.elim
    · exact h.elim
def Y5(P:Program)(T:TypeId)(x:AV)(f:Nat):PR:=
 match ty P T,x with
 |some ⟨.struct fs,_,_,_⟩,.p (.agg cs)=>
  match fs[f]? with
  |some fd=>match ty P fd.type with
   |some ft=>u7 (qq ft.desc) ft.size cs fd.offset
   |none=>bad
  |none=>bad
 |_,_=>bad
theorem zbC {P:Program} {T:TypeId} {x:AV} {f:Nat} {g:Gh} {w:World} {v:Value}(h:(Y5 P T x f).1)(r:zb g w x v):
  ∃u,(Instr.field T v f).run P w=.ok u w∧zb g w (Y5 P T x f).2 u:=by
 unfold Y5 at h⊢
 split at h
 ·rename_i fs sz by_ ze cs hT
  have hu:=zr w hT
  simp only[zb,zl]at r hu
  obtain⟨vs,rfl,hL⟩:=r
  cases hf:fs[f]? with
  |none=>simp only[hf]at h;exact h.elim
  |some fd=>
   simp only[hf]at h⊢
   cases hft:ty P fd.type with
   |none=>simp only[hft]at h;exact h.elim
   |some ft=>
    simp only[hft]at h⊢
    obtain⟨u,h1,h2⟩:=Kb (w:=w) (g:=g) hft h hL
    refine⟨u,?_,h2⟩
    unfold Instr.field
    rw[Sem.run_bind,hu]
    simp[hf,asAgg,h1]
 ·exact h.elim
def u4(s:List UInt8)(n:Nat):Int:=(s.getD n 0).toNat
def J7(P:Program)(T:TypeId)(x i:AV):PR:=
 match ty P T,x,i with
 |some ⟨.string,_,_,_⟩,.p (.str s),.p (.int _ n)=>(0≤n∧n<s.length,.p (.int .u8 (u4 s n.toNat)))
 |some ⟨.array len e,_,_,_⟩,.p (.agg cs),.p (.int _ n)=>
  match ty P e with
  |some et=>((0≤n∧n<len)∧(u7 (qq et.desc) et.size cs (n.toNat*et.size)).1,(u7 (qq et.desc) et.size cs (n.toNat*et.size)).2)
  |none=>bad
 |_,_,_=>bad
theorem zaC {P:Program} {T:TypeId} {x i:AV} {g:Gh} {w:World} {v iv:Value}(h:(J7 P T x i).1)(r:zb g w x v)(ri:zb g w i iv):
  ∃u,(Instr.index T v iv).run P w=.ok u w∧zb g w (J7 P T x i).2 u:=by
 unfold J7 at h⊢
 split at h
 ·rename_i sz by_ ze s k n hT
  have hu:=zr w hT
  simp only[zb,zl]at r ri hu
  subst r;subst ri
  obtain⟨h0,h1⟩:=h
  have hn:n.toNat<s.length:=by omega
  have hg:(⟨s.toArray⟩:ByteArray)[n.toNat]?=some s[n.toNat]:=by
   rw[ByteArray.getElem?_lt' _ _ (by simpa[ByteArray.size]using hn)]
   rfl
  refine⟨.int .u8 (u4 s n.toNat),?_,by simp only[zb,zl]⟩
  unfold Instr.index
  simp only[Sem.run_bind,asIntOf,Sem.run_pure,Result.andThen_ok,hu,h0,if_true,hg]
  simp[u4,hn]
 ·rename_i len e sz by_ ze cs k n hT
  have hu:=zr w hT
  simp only[zb,zl]at r ri hu
  subst ri
  obtain⟨vs,rfl,hL⟩:=r
  cases het:ty P e with
  |none=>simp only[het]at h;exact h.elim
  |some et=>
   simp only[het]at h⊢
   obtain⟨⟨h0,h1⟩,h2⟩:=h
   obtain⟨u,hu1,hu2⟩:=Kb (w:=w) (g:=g) het h2 hL
   refine⟨u,?_,hu2⟩
   unfold Instr.index
   simp only[Sem.run_bind,asIntOf,Sem.run_pure,Result.andThen_ok,hu,h0,h1,and_self,if_true,qz w het,hu1]
 ·exact h.elim
def vV(x:AV)(i:Nat):PR:=
 match x with
 |.tup xs=>match xs[i]? with
  |some y=>(True,y)
  |none=>bad
 |_=>bad
theorem zo.get {g:Gh} {w:World}:∀{xs:List AV} {vs:List Value},zo g w xs vs→∀{i:Nat} {x:AV},xs[i]?=some x→∃v,vs[i]?=some v∧zb g w x v
 | [],vs,r,i,x,h=>by simp at h
 |c::cs,vs,r,i,x,h=>by
  simp only[zo]at r
  obtain⟨v,vs',rfl,h1,r⟩:=r
  cases i with
  |zero=>simp at h;subst h;exact⟨v,by simp,h1⟩
  |succ i=>simpa using zo.get r (i:=i) (x:=x) (by simpa using h)
theorem Yb {P:Program} {x:AV} {i:Nat} {g:Gh} {w:World} {v:Value}(h:(vV x i).1)(r:zb g w x v):
  ∃u,(Instr.extract v i).run P w=.ok u w∧zb g w (vV x i).2 u:=by
 unfold vV at h⊢
 split at h
 ·rename_i xs
  simp only[zb]at r
  obtain⟨vs,rfl,r⟩:=r
  cases hx:xs[i]? with
  |none=>simp only[hx]at h;exact h.elim
  |some y=>
   obtain⟨u,hu,hr⟩:=r.get hx
   refine⟨u,?_,by simpa only[hx]using hr⟩
   have:vs[i]?=some u:=by simpa using hu
   simp[Instr.extract,this]
 ·exact h.elim
end
end Go.AM
