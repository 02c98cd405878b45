/-
  The facts of this seat's types, for the abstract machine. Printed by a program (gen.py).
-/
import Derived.Test.YtlmejofikpnbpaaDoorChecked
import Derived.Test.YtlmejofikpnbpaaDoorAmR
import Derived.Eval
namespace Go.Proofs.YtlmejofikpnbpaaDoor
open Go.AM
theorem mixed : Tryd.prog.follows .mixedOrders = true := Tryd.checked.mixed
@[go_sem] theorem ty1 : ty Tryd.prog 1 = some ⟨Tryd.t1.desc, 1, 8, some [.opq .nilFunc]⟩ := by kernel_rfl
@[go_sem] theorem ty2 : ty Tryd.prog 2 = some ⟨.int .i64, 1, 8, some [.int .i64 0]⟩ := by kernel_rfl
@[go_sem] theorem ty3 : ty Tryd.prog 3 = some ⟨.int .i64, 1, 8, some [.int .i64 0]⟩ := by kernel_rfl
@[go_sem] theorem ty4 : ty Tryd.prog 4 = some ⟨.bool, 1, 1, some [.bool false]⟩ := by kernel_rfl
@[go_sem] theorem ty5 : ty Tryd.prog 5 = some ⟨.int .u8, 1, 1, some [.int .u8 0]⟩ := by kernel_rfl
@[go_sem] theorem ty6 : ty Tryd.prog 6 = some ⟨.int .u8, 1, 1, some [.int .u8 0]⟩ := by kernel_rfl
@[go_sem] theorem ty7 : ty Tryd.prog 7 = some ⟨Tryd.t7.desc, 4, 24, some [.int .i64 0, .int .i64 0, .bool false, .int .u8 0]⟩ := by kernel_rfl
@[go_sem] theorem ty8 : ty Tryd.prog 8 = some ⟨Tryd.t7.desc, 4, 24, some [.int .i64 0, .int .i64 0, .bool false, .int .u8 0]⟩ := by kernel_rfl
@[go_sem] theorem ty9 : ty Tryd.prog 9 = some ⟨.string, 1, 16, some [.str []]⟩ := by kernel_rfl
@[go_sem] theorem ty10 : ty Tryd.prog 10 = some ⟨.string, 1, 16, some [.str []]⟩ := by kernel_rfl
@[go_sem] theorem ty11 : ty Tryd.prog 11 = some ⟨.string, 1, 16, some [.str []]⟩ := by kernel_rfl
@[go_sem] theorem ty12 : ty Tryd.prog 12 = some ⟨.int .u64, 1, 8, some [.int .u64 0]⟩ := by kernel_rfl
@[go_sem] theorem ty13 : ty Tryd.prog 13 = some ⟨Tryd.t13.desc, 2, 24, some [.str [], .int .u64 0]⟩ := by kernel_rfl
@[go_sem] theorem ty14 : ty Tryd.prog 14 = some ⟨Tryd.t13.desc, 2, 24, some [.str [], .int .u64 0]⟩ := by kernel_rfl
@[go_sem] theorem ty15 : ty Tryd.prog 15 = some ⟨.pointer 121, 1, 8, some [.opq (.pointer none)]⟩ := by kernel_rfl
@[go_sem] theorem ty16 : ty Tryd.prog 16 = some ⟨.pointer 124, 1, 8, some [.opq (.pointer none)]⟩ := by kernel_rfl
@[go_sem] theorem ty17 : ty Tryd.prog 17 = some ⟨.pointer 132, 1, 8, some [.opq (.pointer none)]⟩ := by kernel_rfl
@[go_sem] theorem ty18 : ty Tryd.prog 18 = some ⟨Tryd.t18.desc, 1, 8, some [.opq (.pointer none)]⟩ := by kernel_rfl
@[go_sem] theorem ty19 : ty Tryd.prog 19 = some ⟨Tryd.t18.desc, 1, 8, some [.opq (.pointer none)]⟩ := by kernel_rfl
@[go_sem] theorem ty20 : ty Tryd.prog 20 = some ⟨Tryd.t20.desc, 1, 16, some [.opq .nilIface]⟩ := by kernel_rfl
@[go_sem] theorem ty21 : ty Tryd.prog 21 = some ⟨.int .i32, 1, 4, some [.int .i32 0]⟩ := by kernel_rfl
@[go_sem] theorem ty22 : ty Tryd.prog 22 = some ⟨.slice 33, 1, 24, some [.opq (.slice none 0 0)]⟩ := by kernel_rfl
@[go_sem] theorem ty23 : ty Tryd.prog 23 = some ⟨.int .i64, 1, 8, some [.int .i64 0]⟩ := by kernel_rfl
@[go_sem] theorem ty25 : ty Tryd.prog 25 = some ⟨Tryd.t25.desc, 1, 8, some [.opq .nilFunc]⟩ := by kernel_rfl
@[go_sem] theorem ty27 : ty Tryd.prog 27 = some ⟨Tryd.t27.desc, 1, 8, some [.opq .nilFunc]⟩ := by kernel_rfl
@[go_sem] theorem ty28 : ty Tryd.prog 28 = some ⟨Tryd.t28.desc, 1, 8, some [.opq .nilFunc]⟩ := by kernel_rfl
@[go_sem] theorem ty29 : ty Tryd.prog 29 = some ⟨Tryd.t29.desc, 1, 8, some [.opq .nilFunc]⟩ := by kernel_rfl
@[go_sem] theorem ty30 : ty Tryd.prog 30 = some ⟨Tryd.t30.desc, 1, 8, some [.opq .nilFunc]⟩ := by kernel_rfl
@[go_sem] theorem ty31 : ty Tryd.prog 31 = some ⟨Tryd.t31.desc, 1, 8, some [.opq .nilFunc]⟩ := by kernel_rfl
@[go_sem] theorem ty32 : ty Tryd.prog 32 = some ⟨Tryd.t32.desc, 4, 32, some [.int .i64 0, .int .u8 0, .int .i64 0, .int .i64 0]⟩ := by kernel_rfl
@[go_sem] theorem ty33 : ty Tryd.prog 33 = some ⟨Tryd.t32.desc, 4, 32, some [.int .i64 0, .int .u8 0, .int .i64 0, .int .i64 0]⟩ := by kernel_rfl
@[go_sem] theorem ty35 : ty Tryd.prog 35 = some ⟨Tryd.t35.desc, 1, 8, some [.opq .nilFunc]⟩ := by kernel_rfl
@[go_sem] theorem ty37 : ty Tryd.prog 37 = some ⟨Tryd.t37.desc, 1, 8, some [.opq .nilFunc]⟩ := by kernel_rfl
@[go_sem] theorem ty38 : ty Tryd.prog 38 = some ⟨Tryd.t38.desc, 1, 8, some [.opq .nilFunc]⟩ := by kernel_rfl
@[go_sem] theorem ty39 : ty Tryd.prog 39 = some ⟨Tryd.t39.desc, 1, 8, some [.opq .nilFunc]⟩ := by kernel_rfl
@[go_sem] theorem ty40 : ty Tryd.prog 40 = some ⟨Tryd.t40.desc, 1, 8, some [.opq .nilFunc]⟩ := by kernel_rfl
@[go_sem] theorem ty41 : ty Tryd.prog 41 = some ⟨.slice 5, 1, 24, some [.opq (.slice none 0 0)]⟩ := by kernel_rfl
@[go_sem] theorem ty42 : ty Tryd.prog 42 = some ⟨Tryd.t42.desc, 1, 8, some [.opq .nilFunc]⟩ := by kernel_rfl
@[go_sem] theorem ty43 : ty Tryd.prog 43 = some ⟨Tryd.t43.desc, 1, 8, some [.opq .nilFunc]⟩ := by kernel_rfl
@[go_sem] theorem ty44 : ty Tryd.prog 44 = some ⟨Tryd.t43.desc, 1, 8, some [.opq .nilFunc]⟩ := by kernel_rfl
@[go_sem] theorem ty45 : ty Tryd.prog 45 = some ⟨Tryd.t45.desc, 1, 8, some [.opq .nilFunc]⟩ := by kernel_rfl
@[go_sem] theorem ty46 : ty Tryd.prog 46 = some ⟨Tryd.t46.desc, 1, 8, some [.opq .nilFunc]⟩ := by kernel_rfl
@[go_sem] theorem ty48 : ty Tryd.prog 48 = some ⟨Tryd.t48.desc, 1, 8, some [.opq .nilFunc]⟩ := by kernel_rfl
@[go_sem] theorem ty49 : ty Tryd.prog 49 = some ⟨.slice 9, 1, 24, some [.opq (.slice none 0 0)]⟩ := by kernel_rfl
@[go_sem] theorem ty50 : ty Tryd.prog 50 = some ⟨Tryd.t50.desc, 1, 8, some [.opq .nilFunc]⟩ := by kernel_rfl
@[go_sem] theorem ty51 : ty Tryd.prog 51 = some ⟨.pointer 53, 1, 8, some [.opq (.pointer none)]⟩ := by kernel_rfl
@[go_sem] theorem ty52 : ty Tryd.prog 52 = some ⟨Tryd.t52.desc, 2, 32, some [.opq (.pointer none), .opq (.slice none 0 0)]⟩ := by kernel_rfl
@[go_sem] theorem ty53 : ty Tryd.prog 53 = some ⟨Tryd.t52.desc, 2, 32, some [.opq (.pointer none), .opq (.slice none 0 0)]⟩ := by kernel_rfl
@[go_sem] theorem ty54 : ty Tryd.prog 54 = some ⟨Tryd.t54.desc, 3, 40, some [.opq (.pointer none), .opq (.slice none 0 0), .int .i64 0]⟩ := by kernel_rfl
@[go_sem] theorem ty55 : ty Tryd.prog 55 = some ⟨Tryd.t54.desc, 3, 40, some [.opq (.pointer none), .opq (.slice none 0 0), .int .i64 0]⟩ := by kernel_rfl
@[go_sem] theorem ty56 : ty Tryd.prog 56 = some ⟨Tryd.t56.desc, 1, 8, some [.opq .nilFunc]⟩ := by kernel_rfl
@[go_sem] theorem ty57 : ty Tryd.prog 57 = some ⟨Tryd.t57.desc, 1, 8, some [.opq .nilFunc]⟩ := by kernel_rfl
@[go_sem] theorem ty58 : ty Tryd.prog 58 = some ⟨Tryd.t58.desc, 1, 8, some [.opq .nilFunc]⟩ := by kernel_rfl
@[go_sem] theorem ty59 : ty Tryd.prog 59 = some ⟨Tryd.t59.desc, 1, 8, some [.opq .nilFunc]⟩ := by kernel_rfl
@[go_sem] theorem ty61 : ty Tryd.prog 61 = some ⟨Tryd.t61.desc, 1, 8, some [.opq .nilFunc]⟩ := by kernel_rfl
@[go_sem] theorem ty63 : ty Tryd.prog 63 = some ⟨Tryd.t63.desc, 1, 8, some [.opq .nilFunc]⟩ := by kernel_rfl
@[go_sem] theorem ty64 : ty Tryd.prog 64 = some ⟨Tryd.t64.desc, 1, 8, some [.opq .nilFunc]⟩ := by kernel_rfl
@[go_sem] theorem ty65 : ty Tryd.prog 65 = some ⟨Tryd.t65.desc, 1, 8, some [.opq .nilFunc]⟩ := by kernel_rfl
@[go_sem] theorem ty66 : ty Tryd.prog 66 = some ⟨Tryd.t66.desc, 1, 8, some [.opq .nilFunc]⟩ := by kernel_rfl
@[go_sem] theorem ty67 : ty Tryd.prog 67 = some ⟨.pointer 55, 1, 8, some [.opq (.pointer none)]⟩ := by kernel_rfl
@[go_sem] theorem ty68 : ty Tryd.prog 68 = some ⟨Tryd.t68.desc, 1, 16, some [.opq .nilIface]⟩ := by kernel_rfl
@[go_sem] theorem ty69 : ty Tryd.prog 69 = some ⟨Tryd.t68.desc, 1, 16, some [.opq .nilIface]⟩ := by kernel_rfl
@[go_sem] theorem ty71 : ty Tryd.prog 71 = some ⟨Tryd.t71.desc, 1, 8, some [.opq .nilFunc]⟩ := by kernel_rfl
@[go_sem] theorem ty72 : ty Tryd.prog 72 = some ⟨Tryd.t72.desc, 1, 8, some [.opq .nilFunc]⟩ := by kernel_rfl
@[go_sem] theorem ty73 : ty Tryd.prog 73 = some ⟨.int .u64, 1, 8, some [.int .u64 0]⟩ := by kernel_rfl
@[go_sem] theorem ty74 : ty Tryd.prog 74 = some ⟨.pointer 5, 1, 8, some [.opq (.pointer none)]⟩ := by kernel_rfl
@[go_sem] theorem ty76 : ty Tryd.prog 76 = some ⟨Tryd.t76.desc, 1, 8, some [.opq .nilFunc]⟩ := by kernel_rfl
@[go_sem] theorem ty77 : ty Tryd.prog 77 = some ⟨Tryd.t77.desc, 1, 8, some [.opq .nilFunc]⟩ := by kernel_rfl
@[go_sem] theorem ty78 : ty Tryd.prog 78 = some ⟨Tryd.t78.desc, 1, 8, some [.opq .nilFunc]⟩ := by kernel_rfl
@[go_sem] theorem ty79 : ty Tryd.prog 79 = some ⟨Tryd.t79.desc, 1, 8, some [.opq .nilFunc]⟩ := by kernel_rfl
@[go_sem] theorem ty80 : ty Tryd.prog 80 = some ⟨.unsafePointer, 1, 8, some [.opq (.pointer none)]⟩ := by kernel_rfl
@[go_sem] theorem ty81 : ty Tryd.prog 81 = some ⟨Tryd.t81.desc, 1, 8, some [.opq .nilFunc]⟩ := by kernel_rfl
@[go_sem] theorem ty82 : ty Tryd.prog 82 = some ⟨Tryd.t82.desc, 1, 8, some [.opq .nilFunc]⟩ := by kernel_rfl
@[go_sem] theorem ty84 : ty Tryd.prog 84 = some ⟨Tryd.t84.desc, 2, 2, some [.int .u8 0, .int .u8 0]⟩ := by kernel_rfl
@[go_sem] theorem ty85 : ty Tryd.prog 85 = some ⟨Tryd.t84.desc, 2, 2, some [.int .u8 0, .int .u8 0]⟩ := by kernel_rfl
@[go_sem] theorem ty86 : ty Tryd.prog 86 = some ⟨.array 16 85, 32, 32, some [.int .u8 0, .int .u8 0, .int .u8 0, .int .u8 0, .int .u8 0, .int .u8 0, .int .u8 0, .int .u8 0, .int .u8 0, .int .u8 0, .int .u8 0, .int .u8 0, .int .u8 0, .int .u8 0, .int .u8 0, .int .u8 0, .int .u8 0, .int .u8 0, .int .u8 0, .int .u8 0, .int .u8 0, .int .u8 0, .int .u8 0, .int .u8 0, .int .u8 0, .int .u8 0, .int .u8 0, .int .u8 0, .int .u8 0, .int .u8 0, .int .u8 0, .int .u8 0]⟩ := by kernel_rfl
@[go_sem] theorem ty87 : ty Tryd.prog 87 = some ⟨Tryd.t87.desc, 1, 8, some [.opq .nilFunc]⟩ := by kernel_rfl
@[go_sem] theorem ty88 : ty Tryd.prog 88 = some ⟨.int .i64, 1, 8, some [.int .i64 0]⟩ := by kernel_rfl
@[go_sem] theorem ty90 : ty Tryd.prog 90 = some ⟨Tryd.t90.desc, 1, 8, some [.opq .nilFunc]⟩ := by kernel_rfl
@[go_sem] theorem ty91 : ty Tryd.prog 91 = some ⟨.pointer 107, 1, 8, some [.opq (.pointer none)]⟩ := by kernel_rfl
@[go_sem] theorem ty92 : ty Tryd.prog 92 = some ⟨Tryd.t92.desc, 1, 8, some [.opq .nilFunc]⟩ := by kernel_rfl
@[go_sem] theorem ty93 : ty Tryd.prog 93 = some ⟨Tryd.t93.desc, 1, 8, some [.opq .nilFunc]⟩ := by kernel_rfl
@[go_sem] theorem ty94 : ty Tryd.prog 94 = some ⟨.array 24 5, 24, 24, some [.int .u8 0, .int .u8 0, .int .u8 0, .int .u8 0, .int .u8 0, .int .u8 0, .int .u8 0, .int .u8 0, .int .u8 0, .int .u8 0, .int .u8 0, .int .u8 0, .int .u8 0, .int .u8 0, .int .u8 0, .int .u8 0, .int .u8 0, .int .u8 0, .int .u8 0, .int .u8 0, .int .u8 0, .int .u8 0, .int .u8 0, .int .u8 0]⟩ := by kernel_rfl
@[go_sem] theorem ty95 : ty Tryd.prog 95 = some ⟨.int .u64, 1, 8, some [.int .u64 0]⟩ := by kernel_rfl
@[go_sem] theorem ty96 : ty Tryd.prog 96 = some ⟨Tryd.t96.desc, 1, 8, some [.opq .nilFunc]⟩ := by kernel_rfl
@[go_sem] theorem ty97 : ty Tryd.prog 97 = some ⟨Tryd.t97.desc, 1, 8, some [.opq .nilFunc]⟩ := by kernel_rfl
@[go_sem] theorem ty99 : ty Tryd.prog 99 = some ⟨Tryd.t99.desc, 1, 8, some [.opq .nilFunc]⟩ := by kernel_rfl
@[go_sem] theorem ty100 : ty Tryd.prog 100 = some ⟨.int .u32, 1, 4, some [.int .u32 0]⟩ := by kernel_rfl
@[go_sem] theorem ty102 : ty Tryd.prog 102 = some ⟨Tryd.t102.desc, 1, 8, some [.opq .nilFunc]⟩ := by kernel_rfl
@[go_sem] theorem ty104 : ty Tryd.prog 104 = some ⟨Tryd.t104.desc, 1, 8, some [.opq .nilFunc]⟩ := by kernel_rfl
@[go_sem] theorem ty105 : ty Tryd.prog 105 = some ⟨Tryd.t105.desc, 1, 8, some [.opq .nilFunc]⟩ := by kernel_rfl
@[go_sem] theorem ty106 : ty Tryd.prog 106 = some ⟨Tryd.t106.desc, 3, 48, some [.str [], .str [], .opq .nilIface]⟩ := by kernel_rfl
@[go_sem] theorem ty107 : ty Tryd.prog 107 = some ⟨Tryd.t106.desc, 3, 48, some [.str [], .str [], .opq .nilIface]⟩ := by kernel_rfl
@[go_sem] theorem ty108 : ty Tryd.prog 108 = some ⟨Tryd.t108.desc, 1, 8, some [.opq .nilFunc]⟩ := by kernel_rfl
@[go_sem] theorem ty109 : ty Tryd.prog 109 = some ⟨Tryd.t109.desc, 1, 8, some [.opq .nilFunc]⟩ := by kernel_rfl
@[go_sem] theorem ty110 : ty Tryd.prog 110 = some ⟨.array 20 95, 20, 160, some [.int .u64 0, .int .u64 0, .int .u64 0, .int .u64 0, .int .u64 0, .int .u64 0, .int .u64 0, .int .u64 0, .int .u64 0, .int .u64 0, .int .u64 0, .int .u64 0, .int .u64 0, .int .u64 0, .int .u64 0, .int .u64 0, .int .u64 0, .int .u64 0, .int .u64 0, .int .u64 0]⟩ := by kernel_rfl
@[go_sem] theorem ty111 : ty Tryd.prog 111 = some ⟨.array 65 5, 65, 65, some [.int .u8 0, .int .u8 0, .int .u8 0, .int .u8 0, .int .u8 0, .int .u8 0, .int .u8 0, .int .u8 0, .int .u8 0, .int .u8 0, .int .u8 0, .int .u8 0, .int .u8 0, .int .u8 0, .int .u8 0, .int .u8 0, .int .u8 0, .int .u8 0, .int .u8 0, .int .u8 0, .int .u8 0, .int .u8 0, .int .u8 0, .int .u8 0, .int .u8 0, .int .u8 0, .int .u8 0, .int .u8 0, .int .u8 0, .int .u8 0, .int .u8 0, .int .u8 0, .int .u8 0, .int .u8 0, .int .u8 0, .int .u8 0, .int .u8 0, .int .u8 0, .int .u8 0, .int .u8 0, .int .u8 0, .int .u8 0, .int .u8 0, .int .u8 0, .int .u8 0, .int .u8 0, .int .u8 0, .int .u8 0, .int .u8 0, .int .u8 0, .int .u8 0, .int .u8 0, .int .u8 0, .int .u8 0, .int .u8 0, .int .u8 0, .int .u8 0, .int .u8 0, .int .u8 0, .int .u8 0, .int .u8 0, .int .u8 0, .int .u8 0, .int .u8 0, .int .u8 0]⟩ := by kernel_rfl
@[go_sem] theorem ty112 : ty Tryd.prog 112 = some ⟨Tryd.t112.desc, 1, 8, some [.opq .nilFunc]⟩ := by kernel_rfl
@[go_sem] theorem ty113 : ty Tryd.prog 113 = some ⟨Tryd.t113.desc, 1, 8, some [.opq .nilFunc]⟩ := by kernel_rfl
@[go_sem] theorem ty114 : ty Tryd.prog 114 = some ⟨.pointer 116, 1, 8, some [.opq (.pointer none)]⟩ := by kernel_rfl
@[go_sem] theorem ty115 : ty Tryd.prog 115 = some ⟨Tryd.t115.desc, 1, 16, some [.str []]⟩ := by kernel_rfl
@[go_sem] theorem ty116 : ty Tryd.prog 116 = some ⟨Tryd.t115.desc, 1, 16, some [.str []]⟩ := by kernel_rfl
@[go_sem] theorem ty117 : ty Tryd.prog 117 = some ⟨Tryd.t117.desc, 1, 8, some [.opq .nilFunc]⟩ := by kernel_rfl
@[go_sem] theorem ty118 : ty Tryd.prog 118 = some ⟨.array 32 5, 32, 32, some [.int .u8 0, .int .u8 0, .int .u8 0, .int .u8 0, .int .u8 0, .int .u8 0, .int .u8 0, .int .u8 0, .int .u8 0, .int .u8 0, .int .u8 0, .int .u8 0, .int .u8 0, .int .u8 0, .int .u8 0, .int .u8 0, .int .u8 0, .int .u8 0, .int .u8 0, .int .u8 0, .int .u8 0, .int .u8 0, .int .u8 0, .int .u8 0, .int .u8 0, .int .u8 0, .int .u8 0, .int .u8 0, .int .u8 0, .int .u8 0, .int .u8 0, .int .u8 0]⟩ := by kernel_rfl
@[go_sem] theorem ty119 : ty Tryd.prog 119 = some ⟨.array 64 5, 64, 64, some [.int .u8 0, .int .u8 0, .int .u8 0, .int .u8 0, .int .u8 0, .int .u8 0, .int .u8 0, .int .u8 0, .int .u8 0, .int .u8 0, .int .u8 0, .int .u8 0, .int .u8 0, .int .u8 0, .int .u8 0, .int .u8 0, .int .u8 0, .int .u8 0, .int .u8 0, .int .u8 0, .int .u8 0, .int .u8 0, .int .u8 0, .int .u8 0, .int .u8 0, .int .u8 0, .int .u8 0, .int .u8 0, .int .u8 0, .int .u8 0, .int .u8 0, .int .u8 0, .int .u8 0, .int .u8 0, .int .u8 0, .int .u8 0, .int .u8 0, .int .u8 0, .int .u8 0, .int .u8 0, .int .u8 0, .int .u8 0, .int .u8 0, .int .u8 0, .int .u8 0, .int .u8 0, .int .u8 0, .int .u8 0, .int .u8 0, .int .u8 0, .int .u8 0, .int .u8 0, .int .u8 0, .int .u8 0, .int .u8 0, .int .u8 0, .int .u8 0, .int .u8 0, .int .u8 0, .int .u8 0, .int .u8 0, .int .u8 0, .int .u8 0, .int .u8 0]⟩ := by kernel_rfl
@[go_sem] theorem ty120 : ty Tryd.prog 120 = some ⟨Tryd.t120.desc, 4, 40, some [.opq (.pointer none), .opq (.pointer none), .opq (.pointer none), .str []]⟩ := by kernel_rfl
@[go_sem] theorem ty121 : ty Tryd.prog 121 = some ⟨Tryd.t120.desc, 4, 40, some [.opq (.pointer none), .opq (.pointer none), .opq (.pointer none), .str []]⟩ := by kernel_rfl
@[go_sem] theorem ty122 : ty Tryd.prog 122 = some ⟨.array 0 16, 0, 0, some []⟩ := by kernel_rfl
@[go_sem] theorem ty123 : ty Tryd.prog 123 = some ⟨Tryd.t123.desc, 0, 0, some []⟩ := by kernel_rfl
@[go_sem] theorem ty124 : ty Tryd.prog 124 = some ⟨Tryd.t123.desc, 0, 0, some []⟩ := by kernel_rfl
@[go_sem] theorem ty125 : ty Tryd.prog 125 = some ⟨Tryd.t125.desc, 1, 8, some [.opq .nilFunc]⟩ := by kernel_rfl
@[go_sem] theorem ty126 : ty Tryd.prog 126 = some ⟨.int .u8, 1, 1, some [.int .u8 0]⟩ := by kernel_rfl
@[go_sem] theorem ty127 : ty Tryd.prog 127 = some ⟨.int .u8, 1, 1, some [.int .u8 0]⟩ := by kernel_rfl
@[go_sem] theorem ty128 : ty Tryd.prog 128 = some ⟨Tryd.t128.desc, 1, 8, some [.opq .nilFunc]⟩ := by kernel_rfl
@[go_sem] theorem ty129 : ty Tryd.prog 129 = some ⟨.int .i32, 1, 4, some [.int .i32 0]⟩ := by kernel_rfl
@[go_sem] theorem ty130 : ty Tryd.prog 130 = some ⟨.int .i32, 1, 4, some [.int .i32 0]⟩ := by kernel_rfl
@[go_sem] theorem ty131 : ty Tryd.prog 131 = some ⟨Tryd.t131.desc, 11, 48, some [.int .u64 0, .int .u64 0, .int .u32 0, .int .u8 0, .int .u8 0, .int .u8 0, .int .u8 0, .opq .nilFunc, .opq (.pointer none), .int .i32 0, .int .i32 0]⟩ := by kernel_rfl
@[go_sem] theorem ty132 : ty Tryd.prog 132 = some ⟨Tryd.t131.desc, 11, 48, some [.int .u64 0, .int .u64 0, .int .u32 0, .int .u8 0, .int .u8 0, .int .u8 0, .int .u8 0, .opq .nilFunc, .opq (.pointer none), .int .i32 0, .int .i32 0]⟩ := by kernel_rfl
@[go_sem] theorem ck33 : kindsOf Tryd.prog 33 = some [.i .i64, .i .u8, .i .i64, .i .i64] := by kernel_rfl
attribute [go_sem] Tryd.t7 Tryd.t13 Tryd.t18 Tryd.t32 Tryd.t52 Tryd.t54 Tryd.t84 Tryd.t106 Tryd.t115 Tryd.t120 Tryd.t123 Tryd.t131
end Go.Proofs.YtlmejofikpnbpaaDoor
