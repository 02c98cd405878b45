/- A part of the proof of this seat's statements, by an abstract machine: what each operation does to values, and what the law's functions compute. Conditions: as each law says. -/
import Derived.Test.YthbmelihnabkaaaGreatT38
section
namespace Go.Proofs.YthbmelihnabkaaaGreat
open Go.AM
set_option maxHeartbeats 1000000
set_option maxRecDepth 100000
def zo8(r:Int):Int:=
 if r=962 then 931 else if 97≤r∧r≤122 then r-32 else if r=230 then r-32 else if r=240 then r-32 else if r=248 then r-32 else if r=254 then r-32
 else if 945≤r∧r≤969 then r-32 else if 1072≤r∧r≤1103 then r-32 else if 1104≤r∧r≤1119 then r-80 else r
def zo7(r:Int):Int:=
 if r=930 then r else if 65≤r∧r≤90 then r+32 else if r=198 then r+32 else if r=208 then r+32 else if r=216 then r+32 else if r=222 then r+32
 else if 913≤r∧r≤937 then r+32 else if 1040≤r∧r≤1071 then r+32 else if 1024≤r∧r≤1039 then r+80 else r
theorem zpo {r:Int}(h:zD r):zD (zo8 r):=by
 unfold zD at*;unfold zo8;repeat' split
 all_goals omega
theorem zpk {r:Int}(h:zD r):zD (zo7 r):=by
 unfold zD at*;unfold zo7;repeat' split
 all_goals omega
theorem zpN(r:Int):zo8 (zo8 r)=zo8 r:=by
 have h:zo8 r=r∨(65≤zo8 r∧zo8 r≤90)∨zo8 r=198∨zo8 r=208∨zo8 r=216∨zo8 r=222∨(913≤zo8 r∧zo8 r≤937)∨(1024≤zo8 r∧zo8 r≤1071):=by
  unfold zo8;repeat' split
  all_goals omega
 rcases h with h|h
 ·rw[h,h]
 ·generalize zo8 r=s at h
  unfold zo8;repeat' split
  all_goals omega
theorem zpX(r:Int):zo7 (zo7 r)=zo7 r:=by
 have h:zo7 r=r∨(97≤zo7 r∧zo7 r≤122)∨zo7 r=230∨zo7 r=240∨zo7 r=248∨zo7 r=254∨(945≤zo7 r∧zo7 r≤969)∨(1072≤zo7 r∧zo7 r≤1119):=by
  unfold zo7;repeat' split
  all_goals omega
 rcases h with h|h
 ·rw[h,h]
 ·generalize zo7 r=s at h
  unfold zo7;repeat' split
  all_goals omega
theorem zpV(r:Int):zo8 (zo7 r)=zo8 r:=by
 by_cases h:zo7 r=r
 ·rw[h]
 ·have h1:(65≤r∧r≤90∧zo7 r=r+32)∨(r=198∧zo7 r=r+32)∨(r=208∧zo7 r=r+32)∨(r=216∧zo7 r=r+32)∨(r=222∧zo7 r=r+32)∨(913≤r∧r≤937∧r≠930∧zo7 r=r+32)∨(1040≤r∧r≤1071∧zo7 r=r+32)∨(1024≤r∧r≤1039∧zo7 r=r+80):=by
   revert h
   unfold zo7;repeat' split
   all_goals intro h
   all_goals omega
  have h2:zo8 r=r:=by unfold zo8;repeat' split;all_goals omega
  rw[h2]
  generalize zo7 r=s at h1
  unfold zo8;repeat' split
  all_goals omega
def zpI:List Int:=962::230::240::248::254::((List.range 26).map (fun n:Nat=>(n:Int)+97)++(List.range 25).map (fun n:Nat=>(n:Int)+945)++(List.range 48).map (fun n:Nat=>(n:Int)+1072))
def zpK:List Int:=198::208::216::222::((List.range 26).map (fun n:Nat=>(n:Int)+65)++(List.range 25).map (fun n:Nat=>(n:Int)+913)++(List.range 48).map (fun n:Nat=>(n:Int)+1024))
theorem zpi {a r:Int} {n:Nat}(h1:a≤r)(h2:r<a+n):r∈(List.range n).map (fun k:Nat=>(k:Int)+a):=by
 rw[List.mem_map]
 exact⟨(r-a).toNat,List.mem_range.2 (by omega),by omega⟩
theorem zqg(r:Int):zo8 r=r∨r∈zpI:=by
 by_cases h:zo8 r=r
 ·exact .inl h
 ·right
  have h1:r=962∨r=230∨r=240∨r=248∨r=254∨(97≤r∧r<97+(26:Nat))∨(945≤r∧r<945+(25:Nat))∨(1072≤r∧r<1072+(48:Nat)):=by
   revert h
   unfold zo8;repeat' split
   all_goals intro h
   all_goals omega
  unfold zpI
  simp only[List.mem_cons,List.mem_append]
  rcases h1 with h|h|h|h|h|h|h|h
  ·exact .inl h
  ·exact .inr (.inl h)
  ·exact .inr (.inr (.inl h))
  ·exact .inr (.inr (.inr (.inl h)))
  ·exact .inr (.inr (.inr (.inr (.inl h))))
  ·exact .inr (.inr (.inr (.inr (.inr (.inl (.inl (zpi h.1 h.2)))))))
  ·exact .inr (.inr (.inr (.inr (.inr (.inl (.inr (zpi h.1 h.2)))))))
  ·exact .inr (.inr (.inr (.inr (.inr (.inr (zpi h.1 h.2))))))
theorem zqi(r:Int):zo7 r=r∨r∈zpK:=by
 by_cases h:zo7 r=r
 ·exact .inl h
 ·right
  have h1:r=198∨r=208∨r=216∨r=222∨(65≤r∧r<65+(26:Nat))∨(913≤r∧r<913+(25:Nat))∨(1024≤r∧r<1024+(48:Nat)):=by
   revert h
   unfold zo7;repeat' split
   all_goals intro h
   all_goals omega
  unfold zpK
  simp only[List.mem_cons,List.mem_append]
  rcases h1 with h|h|h|h|h|h|h
  ·exact .inl h
  ·exact .inr (.inl h)
  ·exact .inr (.inr (.inl h))
  ·exact .inr (.inr (.inr (.inl h)))
  ·exact .inr (.inr (.inr (.inr (.inl (.inl (zpi h.1 h.2))))))
  ·exact .inr (.inr (.inr (.inr (.inl (.inr (zpi h.1 h.2))))))
  ·exact .inr (.inr (.inr (.inr (.inr (zpi h.1 h.2)))))
def zqh(f:Int→Int)(l:List Int):Bool:=l.all fun x=>!decide (z5 Q3 8 x=[x]) || (decide (z5 Q3 8 (f x)=[f x])&&decide (kD za (f x)=kD za x))
theorem zpY:zqh zo8 zpI=true:=by decide+kernel
theorem zp0:zqh zo7 zpK=true:=by decide+kernel
attribute [local irreducible] za
def zpM(f:Int→Int):Prop:=∀r,z5 za 8 r=[r]→z5 za 8 (f r)=[f r]∧kD za (f r)=kD za r
theorem zpP {f:Int→Int} {l:List Int}(h:zqh f l=true)(hi:∀r,f r=r∨r∈l):zpM f:=fun r hr=>by
 rcases hi r with e|e
 ·rw[e];exact⟨hr,rfl⟩
 ·have:=List.all_eq_true.1 h r e
  simp only[Bool.or_eq_true,Bool.and_eq_true,Bool.not_eq_true',decide_eq_true_eq,decide_eq_false_iff_not,uZ]at this
  rcases this with q|q
  ·exact absurd hr q
  ·exact q
theorem zpO:zpM zo8:=zpP zpY zqg
theorem zps:zpM zo7:=zpP zp0 zqi
theorem zpt {k:Int→Int} {f:Int→Int} {x:Int}(hx:k (f x)=k x):∀l,(∀y∈l,k (f y)=k y)→zV k (f x) (l.map f)=(zV k x l).map f
 | [],_=>rfl
 |y::l,h=>by
  have ih:=zpt hx l (fun z hz=>h z (List.mem_cons_of_mem _ hz))
  have hy:=h y List.mem_cons_self
  rw[List.map_cons,zV,zV,hx,hy]
  split
  ·rw[List.map_cons,ih]
  ·rfl
theorem zqr {p:List Int→Prop}(h0:p [])(h1:∀l x,p l→p (l++[x]))(l:List Int):p l:=by
 have h:∀(n:Nat) (l:List Int),l.length=n→p l:=by
  intro n
  induction n with
  |zero=>intro l hl;rw[List.length_eq_zero_iff.1 hl];exact h0
  |succ n ih=>
   intro l hl
   obtain⟨A,y,rfl⟩:=wK (A:=l) (by intro e;rw[e]at hl;simp at hl)
   rw[List.length_append,List.length_singleton]at hl
   exact h1 A y (ih A (by omega))
 exact h _ l rfl
theorem zqf {k:Int→Int} {f:Int→Int}(l:List Int):(∀y∈l,k (f y)=k y)→Q4 k (l.map f)=(Q4 k l).map f:=by
 refine zqr (p:=fun l=>(∀y∈l,k (f y)=k y)→Q4 k (l.map f)=(Q4 k l).map f) (fun _=>rfl) (fun l x ih h=>?_) l
 rw[List.map_append,List.map_cons,List.map_nil,Un,Un,ih (fun y hy=>h y (List.mem_append_left _ hy)),Qc,Qc,←List.map_reverse,
  zpt (h x (by simp)) _ (fun y hy=>h y (List.mem_append_left _ (zb9 l (List.mem_reverse.1 hy)))),List.map_reverse]
theorem zqo {k:Int→Int}(l:List Int):xw k l→Q4 k l=l:=by
 refine zqr (p:=fun l=>xw k l→Q4 k l=l) (fun _=>rfl) (fun l x ih h=>?_) l
 rw[Un,ih h.init,Y9 h]
theorem zpL {full:Int→List Int}:∀l:List Int,(∀x∈l,full x=[x])→l.flatMap full=l
 | [],_=>rfl
 |x::l,h=>by rw[List.flatMap_cons,h x List.mem_cons_self,zpL l (fun y hy=>h y (List.mem_cons_of_mem _ hy))];rfl
theorem zqa(l:List Int):∀x∈jM za l,z5 za 8 x=[x]:=fun x hx=>by
 have:=zb9 _ hx
 obtain⟨y,_,hy⟩:=List.mem_flatMap.1 this
 exact zfc y x hy
theorem zqk {f:Int→Int}(hf:zpM f)(l:List Int):jM za ((jM za l).map f)=(jM za l).map f:=by
 have hw:=zqa l
 have ho:xw (kD za) (jM za l):=zjp _ _
 generalize jM za l=d at hw ho
 have h1:Zs za (d.map f)=d.map f:=zpL _ (fun x hx=>by
  obtain⟨y,hy,rfl⟩:=List.mem_map.1 hx
  exact(hf y (hw y hy)).1)
 unfold jM
 rw[h1,zqf d (fun y hy=>(hf y (hw y hy)).2),zqo d ho]
def zpa(f:Int→Int)(l:List Int):List Int:=qv za ((jM za l).map f)
theorem zp2(l:List Int):jM za (qv za l)=jM za l:=Xk zjF l
theorem zpx {f g:Int→Int}(hf:zpM f)(hg:∀r,g (f r)=g r)(l:List Int):zpa g (zpa f l)=zpa g l:=by
 unfold zpa
 rw[zp2,zqk hf,List.map_map]
 congr 1
 exact List.map_congr_left fun r _=>hg r
theorem zqq {f:Int→Int} {a b:List Int}(h:jM za a=jM za b):zpa f a=zpa f b:=by unfold zpa;rw[h]
end Go.Proofs.YthbmelihnabkaaaGreat
end
