/-
  The facts of this seat's types, for the abstract machine. Printed by a program (gen.py).
-/
import Derived.Test.YtklhmamefbehjaaChecked
import Derived.Test.YtklhmamefbehjaaAmR
import Derived.Eval
namespace Go.Proofs.Ytklhmamefbehjaa
open Go.AM
theorem mixed : Try.prog.follows .mixedOrders = true := Try.checked.mixed
@[go_sem] theorem ty1 : ty Try.prog 1 = some ⟨Try.t1.desc, 1, 8, some [.opq .nilFunc]⟩ := by kernel_rfl
@[go_sem] theorem ty2 : ty Try.prog 2 = some ⟨.int .i64, 1, 8, some [.int .i64 0]⟩ := by kernel_rfl
@[go_sem] theorem ty3 : ty Try.prog 3 = some ⟨.int .i64, 1, 8, some [.int .i64 0]⟩ := by kernel_rfl
@[go_sem] theorem ty4 : ty Try.prog 4 = some ⟨.bool, 1, 1, some [.bool false]⟩ := by kernel_rfl
@[go_sem] theorem ty5 : ty Try.prog 5 = some ⟨.int .u8, 1, 1, some [.int .u8 0]⟩ := by kernel_rfl
@[go_sem] theorem ty6 : ty Try.prog 6 = some ⟨.int .u8, 1, 1, some [.int .u8 0]⟩ := by kernel_rfl
@[go_sem] theorem ty7 : ty Try.prog 7 = some ⟨Try.t7.desc, 4, 24, some [.int .i64 0, .int .i64 0, .bool false, .int .u8 0]⟩ := by kernel_rfl
@[go_sem] theorem ty8 : ty Try.prog 8 = some ⟨Try.t7.desc, 4, 24, some [.int .i64 0, .int .i64 0, .bool false, .int .u8 0]⟩ := by kernel_rfl
@[go_sem] theorem ty9 : ty Try.prog 9 = some ⟨.string, 1, 16, some [.str []]⟩ := by kernel_rfl
@[go_sem] theorem ty10 : ty Try.prog 10 = some ⟨.string, 1, 16, some [.str []]⟩ := by kernel_rfl
@[go_sem] theorem ty11 : ty Try.prog 11 = some ⟨.string, 1, 16, some [.str []]⟩ := by kernel_rfl
@[go_sem] theorem ty12 : ty Try.prog 12 = some ⟨.int .u64, 1, 8, some [.int .u64 0]⟩ := by kernel_rfl
@[go_sem] theorem ty13 : ty Try.prog 13 = some ⟨Try.t13.desc, 2, 24, some [.str [], .int .u64 0]⟩ := by kernel_rfl
@[go_sem] theorem ty14 : ty Try.prog 14 = some ⟨Try.t13.desc, 2, 24, some [.str [], .int .u64 0]⟩ := by kernel_rfl
@[go_sem] theorem ty15 : ty Try.prog 15 = some ⟨.pointer 46, 1, 8, some [.opq (.pointer none)]⟩ := by kernel_rfl
@[go_sem] theorem ty16 : ty Try.prog 16 = some ⟨.pointer 49, 1, 8, some [.opq (.pointer none)]⟩ := by kernel_rfl
@[go_sem] theorem ty17 : ty Try.prog 17 = some ⟨.pointer 58, 1, 8, some [.opq (.pointer none)]⟩ := by kernel_rfl
@[go_sem] theorem ty18 : ty Try.prog 18 = some ⟨Try.t18.desc, 1, 8, some [.opq (.pointer none)]⟩ := by kernel_rfl
@[go_sem] theorem ty19 : ty Try.prog 19 = some ⟨Try.t18.desc, 1, 8, some [.opq (.pointer none)]⟩ := by kernel_rfl
@[go_sem] theorem ty20 : ty Try.prog 20 = some ⟨Try.t20.desc, 1, 16, some [.opq .nilIface]⟩ := by kernel_rfl
@[go_sem] theorem ty21 : ty Try.prog 21 = some ⟨.int .i32, 1, 4, some [.int .i32 0]⟩ := by kernel_rfl
@[go_sem] theorem ty22 : ty Try.prog 22 = some ⟨.slice 3, 1, 24, some [.opq (.slice none 0 0)]⟩ := by kernel_rfl
@[go_sem] theorem ty23 : ty Try.prog 23 = some ⟨.slice 27, 1, 24, some [.opq (.slice none 0 0)]⟩ := by kernel_rfl
@[go_sem] theorem ty24 : ty Try.prog 24 = some ⟨.pointer 42, 1, 8, some [.opq (.pointer none)]⟩ := by kernel_rfl
@[go_sem] theorem ty25 : ty Try.prog 25 = some ⟨Try.t25.desc, 1, 8, some [.opq .nilFunc]⟩ := by kernel_rfl
@[go_sem] theorem ty26 : ty Try.prog 26 = some ⟨Try.t26.desc, 3, 40, some [.int .i64 0, .int .i64 0, .opq (.slice none 0 0)]⟩ := by kernel_rfl
@[go_sem] theorem ty27 : ty Try.prog 27 = some ⟨Try.t26.desc, 3, 40, some [.int .i64 0, .int .i64 0, .opq (.slice none 0 0)]⟩ := by kernel_rfl
@[go_sem] theorem ty29 : ty Try.prog 29 = some ⟨Try.t29.desc, 1, 8, some [.opq .nilFunc]⟩ := by kernel_rfl
@[go_sem] theorem ty30 : ty Try.prog 30 = some ⟨Try.t30.desc, 1, 8, some [.opq .nilFunc]⟩ := by kernel_rfl
@[go_sem] theorem ty31 : ty Try.prog 31 = some ⟨Try.t31.desc, 1, 8, some [.opq .nilFunc]⟩ := by kernel_rfl
@[go_sem] theorem ty32 : ty Try.prog 32 = some ⟨Try.t32.desc, 1, 8, some [.opq .nilFunc]⟩ := by kernel_rfl
@[go_sem] theorem ty33 : ty Try.prog 33 = some ⟨Try.t33.desc, 1, 8, some [.opq .nilFunc]⟩ := by kernel_rfl
@[go_sem] theorem ty34 : ty Try.prog 34 = some ⟨Try.t34.desc, 1, 8, some [.opq .nilFunc]⟩ := by kernel_rfl
@[go_sem] theorem ty35 : ty Try.prog 35 = some ⟨Try.t35.desc, 1, 8, some [.opq .nilFunc]⟩ := by kernel_rfl
@[go_sem] theorem ty37 : ty Try.prog 37 = some ⟨Try.t37.desc, 1, 8, some [.opq .nilFunc]⟩ := by kernel_rfl
@[go_sem] theorem ty38 : ty Try.prog 38 = some ⟨Try.t38.desc, 1, 8, some [.opq .nilFunc]⟩ := by kernel_rfl
@[go_sem] theorem ty39 : ty Try.prog 39 = some ⟨Try.t39.desc, 1, 8, some [.opq .nilFunc]⟩ := by kernel_rfl
@[go_sem] theorem ty40 : ty Try.prog 40 = some ⟨Try.t40.desc, 1, 8, some [.opq .nilFunc]⟩ := by kernel_rfl
@[go_sem] theorem ty41 : ty Try.prog 41 = some ⟨Try.t41.desc, 3, 40, some [.opq (.slice none 0 0), .int .i64 0, .int .i64 0]⟩ := by kernel_rfl
@[go_sem] theorem ty42 : ty Try.prog 42 = some ⟨Try.t41.desc, 3, 40, some [.opq (.slice none 0 0), .int .i64 0, .int .i64 0]⟩ := by kernel_rfl
@[go_sem] theorem ty43 : ty Try.prog 43 = some ⟨Try.t43.desc, 1, 8, some [.opq .nilFunc]⟩ := by kernel_rfl
@[go_sem] theorem ty44 : ty Try.prog 44 = some ⟨Try.t44.desc, 1, 8, some [.opq .nilFunc]⟩ := by kernel_rfl
@[go_sem] theorem ty45 : ty Try.prog 45 = some ⟨Try.t45.desc, 4, 40, some [.opq (.pointer none), .opq (.pointer none), .opq (.pointer none), .str []]⟩ := by kernel_rfl
@[go_sem] theorem ty46 : ty Try.prog 46 = some ⟨Try.t45.desc, 4, 40, some [.opq (.pointer none), .opq (.pointer none), .opq (.pointer none), .str []]⟩ := by kernel_rfl
@[go_sem] theorem ty47 : ty Try.prog 47 = some ⟨.array 0 16, 0, 0, some []⟩ := by kernel_rfl
@[go_sem] theorem ty48 : ty Try.prog 48 = some ⟨Try.t48.desc, 0, 0, some []⟩ := by kernel_rfl
@[go_sem] theorem ty49 : ty Try.prog 49 = some ⟨Try.t48.desc, 0, 0, some []⟩ := by kernel_rfl
@[go_sem] theorem ty50 : ty Try.prog 50 = some ⟨.int .u32, 1, 4, some [.int .u32 0]⟩ := by kernel_rfl
@[go_sem] theorem ty51 : ty Try.prog 51 = some ⟨.int .u8, 1, 1, some [.int .u8 0]⟩ := by kernel_rfl
@[go_sem] theorem ty52 : ty Try.prog 52 = some ⟨.int .u8, 1, 1, some [.int .u8 0]⟩ := by kernel_rfl
@[go_sem] theorem ty53 : ty Try.prog 53 = some ⟨Try.t53.desc, 1, 8, some [.opq .nilFunc]⟩ := by kernel_rfl
@[go_sem] theorem ty54 : ty Try.prog 54 = some ⟨.pointer 5, 1, 8, some [.opq (.pointer none)]⟩ := by kernel_rfl
@[go_sem] theorem ty55 : ty Try.prog 55 = some ⟨.int .i32, 1, 4, some [.int .i32 0]⟩ := by kernel_rfl
@[go_sem] theorem ty56 : ty Try.prog 56 = some ⟨.int .i32, 1, 4, some [.int .i32 0]⟩ := by kernel_rfl
@[go_sem] theorem ty57 : ty Try.prog 57 = some ⟨Try.t57.desc, 11, 48, some [.int .u64 0, .int .u64 0, .int .u32 0, .int .u8 0, .int .u8 0, .int .u8 0, .int .u8 0, .opq .nilFunc, .opq (.pointer none), .int .i32 0, .int .i32 0]⟩ := by kernel_rfl
@[go_sem] theorem ty58 : ty Try.prog 58 = some ⟨Try.t57.desc, 11, 48, some [.int .u64 0, .int .u64 0, .int .u32 0, .int .u8 0, .int .u8 0, .int .u8 0, .int .u8 0, .opq .nilFunc, .opq (.pointer none), .int .i32 0, .int .i32 0]⟩ := by kernel_rfl
@[go_sem] theorem ty59 : ty Try.prog 59 = some ⟨.unsafePointer, 1, 8, some [.opq (.pointer none)]⟩ := by kernel_rfl
attribute [go_sem] Try.t7 Try.t13 Try.t18 Try.t26 Try.t41 Try.t45 Try.t48 Try.t57
end Go.Proofs.Ytklhmamefbehjaa
