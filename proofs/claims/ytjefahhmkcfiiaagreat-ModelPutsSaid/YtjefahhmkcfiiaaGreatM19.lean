/- A part of the proof of this seat's statements, by an abstract machine: what each operation does to values, and what the law's functions compute. Conditions: as each law says. -/
import Derived.Test.YtjefahhmkcfiiaaGreatChecked
import Derived.Test.YtjefahhmkcfiiaaGreatM18
import Derived.Eval
section
namespace Go.Proofs.YtjefahhmkcfiiaaGreat
open Go.AM
theorem mixed:Tryz.prog.follows .mixedOrders=true:=Tryz.checked.mixed
@[go_sem] theorem ty3 : ty Tryz.prog 3 = some ⟨.int .i64, 1, 8, some [.int .i64 0]⟩ := by kernel_rfl
@[go_sem] theorem ty4 : ty Tryz.prog 4 = some ⟨.bool, 1, 1, some [.bool false]⟩ := by kernel_rfl
@[go_sem] theorem ty5 : ty Tryz.prog 5 = some ⟨.int .u8, 1, 1, some [.int .u8 0]⟩ := by kernel_rfl
@[go_sem] theorem ty9 : ty Tryz.prog 9 = some ⟨.string, 1, 16, some [.str []]⟩ := by kernel_rfl
@[go_sem] theorem ty21 : ty Tryz.prog 21 = some ⟨.int .i32, 1, 4, some [.int .i32 0]⟩ := by kernel_rfl
@[go_sem] theorem ty22 : ty Tryz.prog 22 = some ⟨.slice 21, 1, 24, some [.opq (.slice none 0 0)]⟩ := by kernel_rfl
@[go_sem] theorem ty23 : ty Tryz.prog 23 = some ⟨.slice 37, 1, 24, some [.opq (.slice none 0 0)]⟩ := by kernel_rfl
@[go_sem] theorem ty25 : ty Tryz.prog 25 = some ⟨.slice 157, 1, 24, some [.opq (.slice none 0 0)]⟩ := by kernel_rfl
@[go_sem] theorem ty27 : ty Tryz.prog 27 = some ⟨.pointer 107, 1, 8, some [.opq (.pointer none)]⟩ := by kernel_rfl
@[go_sem] theorem ty29 : ty Tryz.prog 29 = some ⟨.slice 22, 1, 24, some [.opq (.slice none 0 0)]⟩ := by kernel_rfl
@[go_sem] theorem ty31 : ty Tryz.prog 31 = some ⟨Tryz.t30.desc, 2, 32, some [.opq (.slice none 0 0), .int .i64 0]⟩ := by kernel_rfl
@[go_sem] theorem ty34 : ty Tryz.prog 34 = some ⟨Tryz.t33.desc, 2, 32, some [.opq (.slice none 0 0), .int .i64 0]⟩ := by kernel_rfl
@[go_sem] theorem ty37 : ty Tryz.prog 37 = some ⟨Tryz.t36.desc, 3, 40, some [.int .i64 0, .int .i64 0, .opq (.slice none 0 0)]⟩ := by kernel_rfl
@[go_sem] theorem ty97 : ty Tryz.prog 97 = some ⟨.slice 3, 1, 24, some [.opq (.slice none 0 0)]⟩ := by kernel_rfl
@[go_sem] theorem ty99 : ty Tryz.prog 99 = some ⟨.pointer 218, 1, 8, some [.opq (.pointer none)]⟩ := by kernel_rfl
@[go_sem] theorem ty101 : ty Tryz.prog 101 = some ⟨.pointer 232, 1, 8, some [.opq (.pointer none)]⟩ := by kernel_rfl
@[go_sem] theorem ty103 : ty Tryz.prog 103 = some ⟨.map 114 21, 1, 8, some [.opq (.map none)]⟩ := by kernel_rfl
@[go_sem] theorem ty104 : ty Tryz.prog 104 = some ⟨.map 21 4, 1, 8, some [.opq (.map none)]⟩ := by kernel_rfl
@[go_sem] theorem ty105 : ty Tryz.prog 105 = some ⟨.pointer 182, 1, 8, some [.opq (.pointer none)]⟩ := by kernel_rfl
@[go_sem] theorem ty107 : ty Tryz.prog 107 = some ⟨Tryz.t106.desc, 7, 56, some [.opq (.pointer none), .opq (.pointer none), .opq (.pointer none), .opq (.pointer none), .opq (.pointer none), .opq (.map none), .opq (.map none)]⟩ := by kernel_rfl
@[go_sem] theorem ty108 : ty Tryz.prog 108 = some ⟨.slice 116, 1, 24, some [.opq (.slice none 0 0)]⟩ := by kernel_rfl
@[go_sem] theorem ty109 : ty Tryz.prog 109 = some ⟨.slice 112, 1, 24, some [.opq (.slice none 0 0)]⟩ := by kernel_rfl
@[go_sem] theorem ty112 : ty Tryz.prog 112 = some ⟨Tryz.t111.desc, 4, 32, some [.int .i64 0, .int .i64 0, .int .i64 0, .int .i64 0]⟩ := by kernel_rfl
@[go_sem] theorem ty114 : ty Tryz.prog 114 = some ⟨Tryz.t113.desc, 2, 8, some [.int .i32 0, .int .i32 0]⟩ := by kernel_rfl
@[go_sem] theorem ty116 : ty Tryz.prog 116 = some ⟨Tryz.t115.desc, 4, 24, some [.int .i64 0, .int .i64 0, .int .i32 0, .int .i32 0]⟩ := by kernel_rfl
@[go_sem] theorem ty157 : ty Tryz.prog 157 = some ⟨Tryz.t156.desc, 5, 40, some [.int .i64 0, .int .i64 0, .int .i64 0, .int .i64 0, .int .i64 0]⟩ := by kernel_rfl
@[go_sem] theorem ty158 : ty Tryz.prog 158 = some ⟨.slice 160, 1, 24, some [.opq (.slice none 0 0)]⟩ := by kernel_rfl
@[go_sem] theorem ty160 : ty Tryz.prog 160 = some ⟨Tryz.t159.desc, 3, 24, some [.int .i64 0, .int .i64 0, .int .i64 0]⟩ := by kernel_rfl
@[go_sem] theorem ty162 : ty Tryz.prog 162 = some ⟨.array 4 3, 4, 32, some [.int .i64 0, .int .i64 0, .int .i64 0, .int .i64 0]⟩ := by kernel_rfl
@[go_sem] theorem ty163 : ty Tryz.prog 163 = some ⟨.array 4 109, 4, 96, some [.opq (.slice none 0 0), .opq (.slice none 0 0), .opq (.slice none 0 0), .opq (.slice none 0 0)]⟩ := by kernel_rfl
@[go_sem] theorem ty164 : ty Tryz.prog 164 = some ⟨.slice 174, 1, 24, some [.opq (.slice none 0 0)]⟩ := by kernel_rfl
@[go_sem] theorem ty166 : ty Tryz.prog 166 = some ⟨.slice 109, 1, 24, some [.opq (.slice none 0 0)]⟩ := by kernel_rfl
@[go_sem] theorem ty167 : ty Tryz.prog 167 = some ⟨.array 4 4, 4, 4, some [.bool false, .bool false, .bool false, .bool false]⟩ := by kernel_rfl
@[go_sem] theorem ty172 : ty Tryz.prog 172 = some ⟨Tryz.t171.desc, 4, 4, some [.bool false, .bool false, .bool false, .bool false]⟩ := by kernel_rfl
@[go_sem] theorem ty174 : ty Tryz.prog 174 = some ⟨Tryz.t173.desc, 6, 24, some [.int .i64 0, .int .i64 0, .bool false, .bool false, .bool false, .bool false]⟩ := by kernel_rfl
@[go_sem] theorem ty180 : ty Tryz.prog 180 = some ⟨.slice 191, 1, 24, some [.opq (.slice none 0 0)]⟩ := by kernel_rfl
@[go_sem] theorem ty182 : ty Tryz.prog 182 = some ⟨Tryz.t181.desc, 3, 56, some [.int .i64 0, .opq (.slice none 0 0), .opq (.slice none 0 0)]⟩ := by kernel_rfl
@[go_sem] theorem ty184 : ty Tryz.prog 184 = some ⟨.map 191 3, 1, 8, some [.opq (.map none)]⟩ := by kernel_rfl
@[go_sem] theorem ty185 : ty Tryz.prog 185 = some ⟨.map 114 3, 1, 8, some [.opq (.map none)]⟩ := by kernel_rfl
@[go_sem] theorem ty187 : ty Tryz.prog 187 = some ⟨Tryz.t186.desc, 3, 24, some [.opq (.pointer none), .opq (.map none), .opq (.map none)]⟩ := by kernel_rfl
@[go_sem] theorem ty191 : ty Tryz.prog 191 = some ⟨.array 128 114, 256, 1024, some (reps 128 [.int .i32 0, .int .i32 0])⟩ := by kernel_rfl
@[go_sem] theorem ty216 : ty Tryz.prog 216 = some ⟨.slice 225, 1, 24, some [.opq (.slice none 0 0)]⟩ := by kernel_rfl
@[go_sem] theorem ty218 : ty Tryz.prog 218 = some ⟨Tryz.t217.desc, 3, 56, some [.int .i64 0, .opq (.slice none 0 0), .opq (.slice none 0 0)]⟩ := by kernel_rfl
@[go_sem] theorem ty220 : ty Tryz.prog 220 = some ⟨.map 225 3, 1, 8, some [.opq (.map none)]⟩ := by kernel_rfl
@[go_sem] theorem ty221 : ty Tryz.prog 221 = some ⟨.map 3 3, 1, 8, some [.opq (.map none)]⟩ := by kernel_rfl
@[go_sem] theorem ty223 : ty Tryz.prog 223 = some ⟨Tryz.t222.desc, 3, 24, some [.opq (.pointer none), .opq (.map none), .opq (.map none)]⟩ := by kernel_rfl
@[go_sem] theorem ty225 : ty Tryz.prog 225 = some ⟨.array 128 3, 128, 1024, some (reps 128 [.int .i64 0])⟩ := by kernel_rfl
@[go_sem] theorem ty227 : ty Tryz.prog 227 = some ⟨.map 3 4, 1, 8, some [.opq (.map none)]⟩ := by kernel_rfl
@[go_sem] theorem ty230 : ty Tryz.prog 230 = some ⟨.slice 241, 1, 24, some [.opq (.slice none 0 0)]⟩ := by kernel_rfl
@[go_sem] theorem ty232 : ty Tryz.prog 232 = some ⟨Tryz.t231.desc, 3, 56, some [.int .i64 0, .opq (.slice none 0 0), .opq (.slice none 0 0)]⟩ := by kernel_rfl
@[go_sem] theorem ty234 : ty Tryz.prog 234 = some ⟨.map 241 3, 1, 8, some [.opq (.map none)]⟩ := by kernel_rfl
@[go_sem] theorem ty235 : ty Tryz.prog 235 = some ⟨.map 172 3, 1, 8, some [.opq (.map none)]⟩ := by kernel_rfl
@[go_sem] theorem ty237 : ty Tryz.prog 237 = some ⟨Tryz.t236.desc, 3, 24, some [.opq (.pointer none), .opq (.map none), .opq (.map none)]⟩ := by kernel_rfl
@[go_sem] theorem ty241 : ty Tryz.prog 241 = some ⟨.array 128 172, 512, 512, some (reps 128 [.bool false, .bool false, .bool false, .bool false])⟩ := by kernel_rfl
@[go_sem] theorem ty245 : ty Tryz.prog 245 = some ⟨.int .u64, 1, 8, some [.int .u64 0]⟩ := by kernel_rfl
@[go_sem] theorem ty247 : ty Tryz.prog 247 = some ⟨Tryz.t246.desc, 5, 40, some [.bool false, .int .i64 0, .int .i64 0, .int .i64 0, .bool false]⟩ := by kernel_rfl
@[go_sem] theorem ty252 : ty Tryz.prog 252 = some ⟨Tryz.t251.desc, 2, 32, some [.opq (.pointer none), .opq (.slice none 0 0)]⟩ := by kernel_rfl
@[go_sem] theorem ty273 : ty Tryz.prog 273 = some ⟨.int .u64, 1, 8, some [.int .u64 0]⟩ := by kernel_rfl
@[go_sem] theorem ty290 : ty Tryz.prog 290 = some ⟨.array 3 21, 3, 12, some [.int .i32 0, .int .i32 0, .int .i32 0]⟩ := by kernel_rfl
@[go_sem] theorem zp21 : zeroP Tryz.prog 21 = some (.int .i32 0) := by kernel_rfl
@[go_sem] theorem zp4 : zeroP Tryz.prog 4 = some (.bool false) := by kernel_rfl
@[go_sem] theorem zp3 : zeroP Tryz.prog 3 = some (.int .i64 0) := by kernel_rfl
@[go_sem] theorem ck114 : kindsOf Tryz.prog 114 = some [.i .i32, .i .i32] := by kernel_rfl
@[go_sem] theorem ck167 : kindsOf Tryz.prog 167 = some [.b, .b, .b, .b] := by kernel_rfl
@[go_sem] theorem kk3 : kindsK Tryz.prog 3 = some (false, [.i .i64]) := by kernel_rfl
@[go_sem] theorem kk21 : kindsK Tryz.prog 21 = some (false, [.i .i32]) := by kernel_rfl
@[go_sem] theorem kk114 : kindsK Tryz.prog 114 = some (true, [.i .i32, .i .i32]) := by kernel_rfl
@[go_sem] theorem kk172 : kindsK Tryz.prog 172 = some (true, [.b, .b, .b, .b]) := by kernel_rfl
@[go_sem] theorem kk191 : kindsK Tryz.prog 191 = some (true, reps 128 [.i .i32, .i .i32]) := kindsK_arr ty191 (by kernel_rfl) (by kernel_rfl) ty114 (by decide)
@[go_sem] theorem kk225 : kindsK Tryz.prog 225 = some (true, reps 128 [.i .i64]) := kindsK_arr ty225 (by kernel_rfl) (by kernel_rfl) ty3 (by decide)
@[go_sem] theorem kk241 : kindsK Tryz.prog 241 = some (true, reps 128 [.b, .b, .b, .b]) := kindsK_arr ty241 (by kernel_rfl) (by kernel_rfl) ty172 (by decide)
attribute [go_sem] Tryz.t7 Tryz.t13 Tryz.t18 Tryz.t30 Tryz.t33 Tryz.t36 Tryz.t63 Tryz.t77 Tryz.t79 Tryz.t106 Tryz.t111 Tryz.t113 Tryz.t115 Tryz.t131 Tryz.t134 Tryz.t140 Tryz.t156 Tryz.t159 Tryz.t171 Tryz.t173 Tryz.t181 Tryz.t186 Tryz.t204 Tryz.t217 Tryz.t222 Tryz.t231 Tryz.t236 Tryz.t246 Tryz.t251 Tryz.t298 Tryz.t301 Tryz.t309
end Go.Proofs.YtjefahhmkcfiiaaGreat
end
section
namespace Go.AM
theorem CallK.mono [Gi] {P:Program} {S:St} {f:FuncId} {args:List Operand} {dst:Option Nat} {K K':St→Prop}(hk:∀S,K S→K' S)(h:CallK P S f args dst K):CallK P S f args dst K':=by
 obtain⟨m,pin,R,h1,h2,h3,h4⟩:=h
 exact⟨m,pin,R,h1,h2,h3,fun x rs' hr=>hk _ (h4 x rs' hr)⟩
theorem CallC.mono [Gi] {P:Program} {S:St} {f:FuncId} {cs:List AV} {args:List Operand} {dst:Option Nat} {K K':St→Prop}(hk:∀S,K S→K' S)(h:CallC P S f cs args dst K):CallC P S f cs args dst K':=by
 obtain⟨m,pin,R,h1,h2,h3,h4⟩:=h
 exact⟨m,pin,R,h1,h2,h3,fun x rs' hr=>hk _ (h4 x rs' hr)⟩
theorem callA_mono [Gi] {P:Program} {S:St} {o:Oper} {K K':St→Prop}(hk:∀S,K S→K' S)(h:callA P S o K):callA P S o K':=by
 unfold callA at h⊢
 split at h
 ·split at h
  ·split at h
   ·exact⟨h.1,h.2.mono hk⟩
   ·split at h
    ·exact⟨h.1,h.2.mono hk⟩
    ·exact h.elim
  ·exact h.elim
 ·split at h
  ·exact⟨h.1,fun e=>hk _ (h.2.1 e),fun i hi=>hk _ (h.2.2 i hi)⟩
  ·exact h.elim
 ·exact h.elim
theorem effK_mono [Gi] {P:Program} {S:St} {o:Oper} {K K':St→Prop}(hk:∀S,K S→K' S)(h:effK P S o K):effK P S o K':=by
 unfold effK at h⊢
 split at h
 ·exact⟨h.1,hk _ h.2⟩
 ·exact callA_mono hk h
theorem stepA_mono [Gi] {P:Program} {S:St} {o:Oper} {c:Option Bool} {K K':St→Prop}(hk:∀S,K S→K' S)(h:stepA P S o c K):stepA P S o c K':=by
 unfold stepA at h⊢
 split at h
 ·split at h
  ·exact⟨h.1,hk _ h.2⟩
  ·exact⟨h.1,hk _ h.2⟩
 ·split at h
  ·exact effK_mono hk h
  ·exact⟨fun e=>effK_mono hk (h.1 e),fun e=>⟨(h.2 e).1,hk _ (h.2 e).2⟩⟩
theorem opsA_mono [Gi] {P:Program} {ops:Array Oper}:∀{l:List Oper} {S:St} {K K':St→Prop},(∀S,K S→K' S)→opsA P ops l S K→opsA P ops l S K'
 | [],S,K,K',hk,h=>hk _ h
 |o::l,S,K,K',hk,h=>by
  unfold opsA at h⊢
  split at h
  ·exact stepA_mono (fun S' h'=>opsA_mono hk h') h
  ·exact h.elim
theorem opsD_mono [Gi] {P:Program} {ops:Array Oper}:∀{l:List Oper} {S:St} {K K':St→Prop},(∀S,K S→K' S)→opsD P ops l S K→opsD P ops l S K'
 | [],S,K,K',hk,h=>hk _ h
 |o::l,S,K,K',hk,h=>by
  unfold opsD at h⊢
  split
  ·rename_i hh
   rw[if_pos hh]at h
   split at h
   ·obtain⟨x,h1,h2,h3⟩:=h
    exact⟨x,h1,h2,opsD_mono hk h3⟩
   ·exact h.elim
  ·rename_i hh
   rw[if_neg hh]at h
   exact opsA_mono hk h
mutual
theorem opsT_mono [Gi] {P:Program} {ops:Array Oper} {K K':St→Prop}(hk:∀S,K S→K' S):∀(t:OT) {S:St},opsT P ops K t S→opsT P ops K' t S
 |.mk [],S,h=>by simp only[opsT]at h⊢;exact hk _ h
 |.mk (x::l),S,h=>by simp only[opsT]at h⊢;exact opsTL_mono hk (x::l) h
 |.now i c t,S,h=>by
  simp only[opsT]at h⊢
  unfold nowO at h⊢
  split
  ·rename_i o ho
   simp only[ho]at h
   unfold nowK at h⊢
   split
   ·rename_i r hr
    simp only[hr]at h
    exact⟨h.1,h.2.1,opsT_mono hk t h.2.2⟩
   ·rename_i hr
    simp only[hr]at h
  ·rename_i ho
   simp only[ho]at h
theorem opsTL_mono [Gi] {P:Program} {ops:Array Oper} {K K':St→Prop}(hk:∀S,K S→K' S):∀(l:List (Nat×OT)) {S:St},opsTL P ops K l S→opsTL P ops K' l S
 | [],S,_=>by simp only[opsTL]
 |(i,t)::l,S,h=>by
  simp only[opsTL]at h⊢
  refine⟨?_,opsTL_mono hk l h.2⟩
  have h1:=h.1
  cases ho:ops[i]? with
  |none=>rw[ho]at h1;exact h1.elim
  |some o=>
   rw[ho]at h1
   simp only at h1⊢
   cases hg:guardA ops S o with
   |none=>rw[hg]at h1;exact h1.2.elim
   |some c=>rw[hg]at h1;exact⟨h1.1,stepA_mono (fun S' h'=>opsT_mono hk t h') h1.2⟩
end
theorem wpA_mono [Gi] {P:Program} {D:List Nat}:∀(c:Code) {Q Q':Exit→St→Prop} {S:St},(∀e S,Q e S→Q' e S)→wpA P D c Q S→wpA P D c Q' S
 |.skip,Q,Q',S,hq,h=>by simp only[wpA]at h⊢;exact hq _ _ h
 |.region id ops draw,Q,Q',S,hq,h=>by
  simp only[wpA]at h⊢
  split
  ·rename_i hc;rw[if_pos hc]at h;exact treeA_mono (fun S h=>hq _ _ h) h
  rename_i hl0
  rw[if_neg hl0]at h
  split
  ·rename_i hc;rw[if_pos hc]at h;exact lateA_mono (fun S h=>hq _ _ h) h
  ·rename_i hl
   rw[if_neg hl]at h
   split
   ·rename_i hc;rw[if_pos hc]at h;exact opsD_mono (fun S h=>hq _ _ h) h
   ·rename_i hc;rw[if_neg hc]at h;exact opsA_mono (fun S h=>hq _ _ h) h
 |.seq x y,Q,Q',S,hq,h=>by
  simp only[wpA]at h⊢
  refine wpA_mono x (fun e S' h'=>?_) h
  cases e with
  |normal=>exact wpA_mono y hq h'
  |_=>exact hq _ _ h'
 |.cond c x y,Q,Q',S,hq,h=>by
  simp only[wpA]at h⊢
  split at h
  ·exact⟨fun e=>wpA_mono x hq (h.1 e),fun e=>wpA_mono y hq (h.2 e)⟩
  ·exact h.elim
 |.block id c,Q,Q',S,hq,h=>by
  simp only[wpA]at h⊢
  refine wpA_mono c (fun e S' h'=>?_) h
  cases e with
  |exit i=>
   simp only[]at h'⊢
   split
   ·rename_i hi;rw[if_pos hi]at h';exact hq _ _ h'
   ·rename_i hi;rw[if_neg hi]at h';exact hq _ _ h'
  |_=>exact hq _ _ h'
 |.loop c,Q,Q',S,hq,h=>by
  simp only[wpA]at h⊢
  obtain⟨ι,st,m,h0,hr⟩:=h
  refine⟨ι,st,m,h0,fun i=>wpA_mono c (fun e S' h'=>?_) (hr i)⟩
  cases e with
  |normal=>exact h'
  |_=>exact hq _ _ h'
 |.exit id,Q,Q',S,hq,h=>by simp only[wpA]at h⊢;exact hq _ _ h
 |.ret,Q,Q',S,hq,h=>by simp only[wpA]at h⊢;exact hq _ _ h
 |.rangeFunc ..,Q,Q',S,hq,h=>by simp only[wpA]at h
 |.scope _,Q,Q',S,hq,h=>by simp only[wpA]at h
 |.label _,Q,Q',S,hq,h=>by simp only[wpA]at h
 |.goto _,Q,Q',S,hq,h=>by simp only[wpA]at h
 |.refuse _,Q,Q',S,hq,h=>by simp only[wpA]at h
def JoinK {ι:Type}(st:ι→St)(Q:Exit→St→Prop):Exit→St→Prop:=fun e S=>match e with|.normal=>∃i,S=st i|e=>Q e S
@[go_sem] theorem JoinK_exit {ι : Type} {st : ι → St} {Q : Exit → St → Prop} {S : St} {k : Nat} : JoinK st Q (.exit k) S = Q (.exit k) S := rfl
@[go_sem] theorem JoinK_ret {ι : Type} {st : ι → St} {Q : Exit → St → Prop} {S : St} : JoinK st Q .ret S = Q .ret S := rfl
theorem leL_refl:∀l:List AV,leL l l
 | []=>trivial
 |x::l=>⟨leA_refl x,leL_refl l⟩
attribute [go_sem] has
end Go.AM
end
