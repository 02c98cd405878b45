/-
  The facts of this seat's types, for the abstract machine. Printed by a program (gen.py).
-/
import Derived.Test.YtjgfmanahimpoaaChecked
import Derived.Test.YtjgfmanahimpoaaAmR
import Derived.Eval
namespace Go.Proofs.Ytjgfmanahimpoaa
open Go.AM
theorem mixed : Try.prog.follows .mixedOrders = true := Try.checked.mixed
@[go_sem] theorem ty1 : ty Try.prog 1 = some ⟨Try.t1.desc, 1, 8, some [.opq .nilFunc]⟩ := by kernel_rfl
@[go_sem] theorem ty2 : ty Try.prog 2 = some ⟨.int .i64, 1, 8, some [.int .i64 0]⟩ := by kernel_rfl
@[go_sem] theorem ty3 : ty Try.prog 3 = some ⟨.int .i64, 1, 8, some [.int .i64 0]⟩ := by kernel_rfl
@[go_sem] theorem ty4 : ty Try.prog 4 = some ⟨.bool, 1, 1, some [.bool false]⟩ := by kernel_rfl
@[go_sem] theorem ty5 : ty Try.prog 5 = some ⟨.int .u8, 1, 1, some [.int .u8 0]⟩ := by kernel_rfl
@[go_sem] theorem ty6 : ty Try.prog 6 = some ⟨.int .u8, 1, 1, some [.int .u8 0]⟩ := by kernel_rfl
@[go_sem] theorem ty7 : ty Try.prog 7 = some ⟨Try.t7.desc, 4, 24, some [.int .i64 0, .int .i64 0, .bool false, .int .u8 0]⟩ := by kernel_rfl
@[go_sem] theorem ty8 : ty Try.prog 8 = some ⟨Try.t7.desc, 4, 24, some [.int .i64 0, .int .i64 0, .bool false, .int .u8 0]⟩ := by kernel_rfl
@[go_sem] theorem ty9 : ty Try.prog 9 = some ⟨.string, 1, 16, some [.str []]⟩ := by kernel_rfl
@[go_sem] theorem ty10 : ty Try.prog 10 = some ⟨.string, 1, 16, some [.str []]⟩ := by kernel_rfl
@[go_sem] theorem ty11 : ty Try.prog 11 = some ⟨.string, 1, 16, some [.str []]⟩ := by kernel_rfl
@[go_sem] theorem ty12 : ty Try.prog 12 = some ⟨.int .u64, 1, 8, some [.int .u64 0]⟩ := by kernel_rfl
@[go_sem] theorem ty13 : ty Try.prog 13 = some ⟨Try.t13.desc, 2, 24, some [.str [], .int .u64 0]⟩ := by kernel_rfl
@[go_sem] theorem ty14 : ty Try.prog 14 = some ⟨Try.t13.desc, 2, 24, some [.str [], .int .u64 0]⟩ := by kernel_rfl
@[go_sem] theorem ty15 : ty Try.prog 15 = some ⟨.pointer 127, 1, 8, some [.opq (.pointer none)]⟩ := by kernel_rfl
@[go_sem] theorem ty16 : ty Try.prog 16 = some ⟨.pointer 130, 1, 8, some [.opq (.pointer none)]⟩ := by kernel_rfl
@[go_sem] theorem ty17 : ty Try.prog 17 = some ⟨.pointer 140, 1, 8, some [.opq (.pointer none)]⟩ := by kernel_rfl
@[go_sem] theorem ty18 : ty Try.prog 18 = some ⟨Try.t18.desc, 1, 8, some [.opq (.pointer none)]⟩ := by kernel_rfl
@[go_sem] theorem ty19 : ty Try.prog 19 = some ⟨Try.t18.desc, 1, 8, some [.opq (.pointer none)]⟩ := by kernel_rfl
@[go_sem] theorem ty20 : ty Try.prog 20 = some ⟨Try.t20.desc, 1, 16, some [.opq .nilIface]⟩ := by kernel_rfl
@[go_sem] theorem ty21 : ty Try.prog 21 = some ⟨.int .i32, 1, 4, some [.int .i32 0]⟩ := by kernel_rfl
@[go_sem] theorem ty22 : ty Try.prog 22 = some ⟨.slice 21, 1, 24, some [.opq (.slice none 0 0)]⟩ := by kernel_rfl
@[go_sem] theorem ty23 : ty Try.prog 23 = some ⟨Try.t23.desc, 4, 40, some [.int .i64 0, .int .i32 0, .bool false, .opq (.slice none 0 0)]⟩ := by kernel_rfl
@[go_sem] theorem ty24 : ty Try.prog 24 = some ⟨Try.t23.desc, 4, 40, some [.int .i64 0, .int .i32 0, .bool false, .opq (.slice none 0 0)]⟩ := by kernel_rfl
@[go_sem] theorem ty25 : ty Try.prog 25 = some ⟨Try.t25.desc, 4, 24, some [.bool false, .int .i64 0, .int .i32 0, .bool false]⟩ := by kernel_rfl
@[go_sem] theorem ty26 : ty Try.prog 26 = some ⟨Try.t25.desc, 4, 24, some [.bool false, .int .i64 0, .int .i32 0, .bool false]⟩ := by kernel_rfl
@[go_sem] theorem ty27 : ty Try.prog 27 = some ⟨Try.t27.desc, 1, 8, some [.opq .nilFunc]⟩ := by kernel_rfl
@[go_sem] theorem ty28 : ty Try.prog 28 = some ⟨Try.t28.desc, 1, 8, some [.opq .nilFunc]⟩ := by kernel_rfl
@[go_sem] theorem ty29 : ty Try.prog 29 = some ⟨Try.t29.desc, 1, 8, some [.opq .nilFunc]⟩ := by kernel_rfl
@[go_sem] theorem ty30 : ty Try.prog 30 = some ⟨.slice 38, 1, 24, some [.opq (.slice none 0 0)]⟩ := by kernel_rfl
@[go_sem] theorem ty31 : ty Try.prog 31 = some ⟨Try.t25.desc, 4, 24, some [.bool false, .int .i64 0, .int .i32 0, .bool false]⟩ := by kernel_rfl
@[go_sem] theorem ty32 : ty Try.prog 32 = some ⟨.map 26 3, 1, 8, some [.opq (.map none)]⟩ := by kernel_rfl
@[go_sem] theorem ty33 : ty Try.prog 33 = some ⟨Try.t33.desc, 1, 8, some [.opq (.map none)]⟩ := by kernel_rfl
@[go_sem] theorem ty34 : ty Try.prog 34 = some ⟨Try.t33.desc, 1, 8, some [.opq (.map none)]⟩ := by kernel_rfl
@[go_sem] theorem ty35 : ty Try.prog 35 = some ⟨Try.t35.desc, 1, 8, some [.opq .nilFunc]⟩ := by kernel_rfl
@[go_sem] theorem ty36 : ty Try.prog 36 = some ⟨Try.t36.desc, 1, 8, some [.opq .nilFunc]⟩ := by kernel_rfl
@[go_sem] theorem ty37 : ty Try.prog 37 = some ⟨Try.t37.desc, 5, 32, some [.bool false, .int .i64 0, .int .i32 0, .bool false, .int .i64 0]⟩ := by kernel_rfl
@[go_sem] theorem ty38 : ty Try.prog 38 = some ⟨Try.t37.desc, 5, 32, some [.bool false, .int .i64 0, .int .i32 0, .bool false, .int .i64 0]⟩ := by kernel_rfl
@[go_sem] theorem ty39 : ty Try.prog 39 = some ⟨Try.t39.desc, 1, 8, some [.opq .nilFunc]⟩ := by kernel_rfl
@[go_sem] theorem ty40 : ty Try.prog 40 = some ⟨Try.t40.desc, 1, 8, some [.opq .nilFunc]⟩ := by kernel_rfl
@[go_sem] theorem ty41 : ty Try.prog 41 = some ⟨Try.t41.desc, 1, 8, some [.opq .nilFunc]⟩ := by kernel_rfl
@[go_sem] theorem ty42 : ty Try.prog 42 = some ⟨Try.t42.desc, 1, 8, some [.opq .nilFunc]⟩ := by kernel_rfl
@[go_sem] theorem ty43 : ty Try.prog 43 = some ⟨.slice 82, 1, 24, some [.opq (.slice none 0 0)]⟩ := by kernel_rfl
@[go_sem] theorem ty44 : ty Try.prog 44 = some ⟨.pointer 97, 1, 8, some [.opq (.pointer none)]⟩ := by kernel_rfl
@[go_sem] theorem ty45 : ty Try.prog 45 = some ⟨.slice 114, 1, 24, some [.opq (.slice none 0 0)]⟩ := by kernel_rfl
@[go_sem] theorem ty47 : ty Try.prog 47 = some ⟨Try.t47.desc, 1, 8, some [.opq .nilFunc]⟩ := by kernel_rfl
@[go_sem] theorem ty48 : ty Try.prog 48 = some ⟨.slice 91, 1, 24, some [.opq (.slice none 0 0)]⟩ := by kernel_rfl
@[go_sem] theorem ty49 : ty Try.prog 49 = some ⟨Try.t49.desc, 1, 8, some [.opq .nilFunc]⟩ := by kernel_rfl
@[go_sem] theorem ty50 : ty Try.prog 50 = some ⟨Try.t50.desc, 1, 8, some [.opq .nilFunc]⟩ := by kernel_rfl
@[go_sem] theorem ty51 : ty Try.prog 51 = some ⟨Try.t51.desc, 1, 8, some [.opq .nilFunc]⟩ := by kernel_rfl
@[go_sem] theorem ty52 : ty Try.prog 52 = some ⟨.slice 59, 1, 24, some [.opq (.slice none 0 0)]⟩ := by kernel_rfl
@[go_sem] theorem ty53 : ty Try.prog 53 = some ⟨.slice 22, 1, 24, some [.opq (.slice none 0 0)]⟩ := by kernel_rfl
@[go_sem] theorem ty54 : ty Try.prog 54 = some ⟨Try.t54.desc, 2, 32, some [.opq (.slice none 0 0), .int .i64 0]⟩ := by kernel_rfl
@[go_sem] theorem ty55 : ty Try.prog 55 = some ⟨Try.t54.desc, 2, 32, some [.opq (.slice none 0 0), .int .i64 0]⟩ := by kernel_rfl
@[go_sem] theorem ty56 : ty Try.prog 56 = some ⟨Try.t56.desc, 2, 32, some [.opq (.slice none 0 0), .int .i64 0]⟩ := by kernel_rfl
@[go_sem] theorem ty57 : ty Try.prog 57 = some ⟨Try.t56.desc, 2, 32, some [.opq (.slice none 0 0), .int .i64 0]⟩ := by kernel_rfl
@[go_sem] theorem ty58 : ty Try.prog 58 = some ⟨Try.t58.desc, 2, 32, some [.int .i64 0, .opq (.slice none 0 0)]⟩ := by kernel_rfl
@[go_sem] theorem ty59 : ty Try.prog 59 = some ⟨Try.t58.desc, 2, 32, some [.int .i64 0, .opq (.slice none 0 0)]⟩ := by kernel_rfl
@[go_sem] theorem ty60 : ty Try.prog 60 = some ⟨Try.t60.desc, 1, 8, some [.opq .nilFunc]⟩ := by kernel_rfl
@[go_sem] theorem ty61 : ty Try.prog 61 = some ⟨Try.t61.desc, 1, 8, some [.opq .nilFunc]⟩ := by kernel_rfl
@[go_sem] theorem ty62 : ty Try.prog 62 = some ⟨Try.t62.desc, 1, 8, some [.opq .nilFunc]⟩ := by kernel_rfl
@[go_sem] theorem ty63 : ty Try.prog 63 = some ⟨Try.t63.desc, 1, 8, some [.opq .nilFunc]⟩ := by kernel_rfl
@[go_sem] theorem ty64 : ty Try.prog 64 = some ⟨Try.t64.desc, 1, 8, some [.opq .nilFunc]⟩ := by kernel_rfl
@[go_sem] theorem ty66 : ty Try.prog 66 = some ⟨Try.t66.desc, 1, 8, some [.opq .nilFunc]⟩ := by kernel_rfl
@[go_sem] theorem ty68 : ty Try.prog 68 = some ⟨Try.t68.desc, 1, 8, some [.opq .nilFunc]⟩ := by kernel_rfl
@[go_sem] theorem ty69 : ty Try.prog 69 = some ⟨Try.t69.desc, 1, 8, some [.opq .nilFunc]⟩ := by kernel_rfl
@[go_sem] theorem ty70 : ty Try.prog 70 = some ⟨Try.t70.desc, 1, 8, some [.opq .nilFunc]⟩ := by kernel_rfl
@[go_sem] theorem ty71 : ty Try.prog 71 = some ⟨Try.t71.desc, 1, 8, some [.opq .nilFunc]⟩ := by kernel_rfl
@[go_sem] theorem ty72 : ty Try.prog 72 = some ⟨Try.t72.desc, 1, 8, some [.opq .nilFunc]⟩ := by kernel_rfl
@[go_sem] theorem ty73 : ty Try.prog 73 = some ⟨Try.t73.desc, 1, 8, some [.opq .nilFunc]⟩ := by kernel_rfl
@[go_sem] theorem ty75 : ty Try.prog 75 = some ⟨Try.t75.desc, 1, 8, some [.opq .nilFunc]⟩ := by kernel_rfl
@[go_sem] theorem ty76 : ty Try.prog 76 = some ⟨Try.t76.desc, 1, 8, some [.opq .nilFunc]⟩ := by kernel_rfl
@[go_sem] theorem ty77 : ty Try.prog 77 = some ⟨Try.t77.desc, 1, 8, some [.opq .nilFunc]⟩ := by kernel_rfl
@[go_sem] theorem ty78 : ty Try.prog 78 = some ⟨Try.t78.desc, 1, 8, some [.opq .nilFunc]⟩ := by kernel_rfl
@[go_sem] theorem ty79 : ty Try.prog 79 = some ⟨Try.t79.desc, 2, 24, some [.str [], .int .i64 0]⟩ := by kernel_rfl
@[go_sem] theorem ty80 : ty Try.prog 80 = some ⟨Try.t79.desc, 2, 24, some [.str [], .int .i64 0]⟩ := by kernel_rfl
@[go_sem] theorem ty81 : ty Try.prog 81 = some ⟨Try.t81.desc, 5, 48, some [.int .i64 0, .int .i64 0, .int .i64 0, .str [], .int .i64 0]⟩ := by kernel_rfl
@[go_sem] theorem ty82 : ty Try.prog 82 = some ⟨Try.t81.desc, 5, 48, some [.int .i64 0, .int .i64 0, .int .i64 0, .str [], .int .i64 0]⟩ := by kernel_rfl
@[go_sem] theorem ty83 : ty Try.prog 83 = some ⟨Try.t83.desc, 1, 8, some [.opq .nilFunc]⟩ := by kernel_rfl
@[go_sem] theorem ty84 : ty Try.prog 84 = some ⟨Try.t84.desc, 1, 8, some [.opq .nilFunc]⟩ := by kernel_rfl
@[go_sem] theorem ty85 : ty Try.prog 85 = some ⟨Try.t85.desc, 1, 8, some [.opq .nilFunc]⟩ := by kernel_rfl
@[go_sem] theorem ty86 : ty Try.prog 86 = some ⟨Try.t79.desc, 2, 24, some [.str [], .int .i64 0]⟩ := by kernel_rfl
@[go_sem] theorem ty87 : ty Try.prog 87 = some ⟨Try.t87.desc, 1, 8, some [.opq .nilFunc]⟩ := by kernel_rfl
@[go_sem] theorem ty89 : ty Try.prog 89 = some ⟨Try.t89.desc, 1, 8, some [.opq .nilFunc]⟩ := by kernel_rfl
@[go_sem] theorem ty90 : ty Try.prog 90 = some ⟨Try.t90.desc, 5, 48, some [.int .i64 0, .int .i64 0, .int .i64 0, .str [], .bool false]⟩ := by kernel_rfl
@[go_sem] theorem ty91 : ty Try.prog 91 = some ⟨Try.t90.desc, 5, 48, some [.int .i64 0, .int .i64 0, .int .i64 0, .str [], .bool false]⟩ := by kernel_rfl
@[go_sem] theorem ty93 : ty Try.prog 93 = some ⟨Try.t93.desc, 1, 8, some [.opq .nilFunc]⟩ := by kernel_rfl
@[go_sem] theorem ty94 : ty Try.prog 94 = some ⟨.slice 99, 1, 24, some [.opq (.slice none 0 0)]⟩ := by kernel_rfl
@[go_sem] theorem ty95 : ty Try.prog 95 = some ⟨Try.t95.desc, 1, 8, some [.opq .nilFunc]⟩ := by kernel_rfl
@[go_sem] theorem ty96 : ty Try.prog 96 = some ⟨Try.t96.desc, 3, 40, some [.int .i64 0, .int .i64 0, .opq (.slice none 0 0)]⟩ := by kernel_rfl
@[go_sem] theorem ty97 : ty Try.prog 97 = some ⟨Try.t96.desc, 3, 40, some [.int .i64 0, .int .i64 0, .opq (.slice none 0 0)]⟩ := by kernel_rfl
@[go_sem] theorem ty98 : ty Try.prog 98 = some ⟨Try.t98.desc, 1, 8, some [.opq .nilFunc]⟩ := by kernel_rfl
@[go_sem] theorem ty99 : ty Try.prog 99 = some ⟨Try.t79.desc, 2, 24, some [.str [], .int .i64 0]⟩ := by kernel_rfl
@[go_sem] theorem ty100 : ty Try.prog 100 = some ⟨Try.t100.desc, 1, 8, some [.opq .nilFunc]⟩ := by kernel_rfl
@[go_sem] theorem ty101 : ty Try.prog 101 = some ⟨Try.t101.desc, 1, 8, some [.opq .nilFunc]⟩ := by kernel_rfl
@[go_sem] theorem ty102 : ty Try.prog 102 = some ⟨Try.t102.desc, 1, 8, some [.opq .nilFunc]⟩ := by kernel_rfl
@[go_sem] theorem ty103 : ty Try.prog 103 = some ⟨Try.t103.desc, 1, 8, some [.opq .nilFunc]⟩ := by kernel_rfl
@[go_sem] theorem ty104 : ty Try.prog 104 = some ⟨Try.t104.desc, 1, 8, some [.opq .nilFunc]⟩ := by kernel_rfl
@[go_sem] theorem ty105 : ty Try.prog 105 = some ⟨Try.t105.desc, 1, 8, some [.opq .nilFunc]⟩ := by kernel_rfl
@[go_sem] theorem ty106 : ty Try.prog 106 = some ⟨Try.t106.desc, 1, 8, some [.opq .nilFunc]⟩ := by kernel_rfl
@[go_sem] theorem ty107 : ty Try.prog 107 = some ⟨Try.t107.desc, 1, 8, some [.opq .nilFunc]⟩ := by kernel_rfl
@[go_sem] theorem ty108 : ty Try.prog 108 = some ⟨Try.t108.desc, 1, 8, some [.opq .nilFunc]⟩ := by kernel_rfl
@[go_sem] theorem ty109 : ty Try.prog 109 = some ⟨.array 32 3, 32, 256, some [.int .i64 0, .int .i64 0, .int .i64 0, .int .i64 0, .int .i64 0, .int .i64 0, .int .i64 0, .int .i64 0, .int .i64 0, .int .i64 0, .int .i64 0, .int .i64 0, .int .i64 0, .int .i64 0, .int .i64 0, .int .i64 0, .int .i64 0, .int .i64 0, .int .i64 0, .int .i64 0, .int .i64 0, .int .i64 0, .int .i64 0, .int .i64 0, .int .i64 0, .int .i64 0, .int .i64 0, .int .i64 0, .int .i64 0, .int .i64 0, .int .i64 0, .int .i64 0]⟩ := by kernel_rfl
@[go_sem] theorem ty110 : ty Try.prog 110 = some ⟨Try.t110.desc, 1, 8, some [.opq .nilFunc]⟩ := by kernel_rfl
@[go_sem] theorem ty111 : ty Try.prog 111 = some ⟨.array 2 3, 2, 16, some [.int .i64 0, .int .i64 0]⟩ := by kernel_rfl
@[go_sem] theorem ty112 : ty Try.prog 112 = some ⟨.slice 111, 1, 24, some [.opq (.slice none 0 0)]⟩ := by kernel_rfl
@[go_sem] theorem ty113 : ty Try.prog 113 = some ⟨Try.t113.desc, 1, 8, some [.opq .nilFunc]⟩ := by kernel_rfl
@[go_sem] theorem ty114 : ty Try.prog 114 = some ⟨.slice 115, 1, 24, some [.opq (.slice none 0 0)]⟩ := by kernel_rfl
@[go_sem] theorem ty115 : ty Try.prog 115 = some ⟨Try.t79.desc, 2, 24, some [.str [], .int .i64 0]⟩ := by kernel_rfl
@[go_sem] theorem ty116 : ty Try.prog 116 = some ⟨Try.t116.desc, 1, 8, some [.opq .nilFunc]⟩ := by kernel_rfl
@[go_sem] theorem ty117 : ty Try.prog 117 = some ⟨Try.t117.desc, 1, 8, some [.opq .nilFunc]⟩ := by kernel_rfl
@[go_sem] theorem ty118 : ty Try.prog 118 = some ⟨Try.t118.desc, 1, 8, some [.opq .nilFunc]⟩ := by kernel_rfl
@[go_sem] theorem ty119 : ty Try.prog 119 = some ⟨Try.t119.desc, 1, 8, some [.opq .nilFunc]⟩ := by kernel_rfl
@[go_sem] theorem ty120 : ty Try.prog 120 = some ⟨Try.t120.desc, 1, 8, some [.opq .nilFunc]⟩ := by kernel_rfl
@[go_sem] theorem ty121 : ty Try.prog 121 = some ⟨Try.t121.desc, 1, 8, some [.opq .nilFunc]⟩ := by kernel_rfl
@[go_sem] theorem ty122 : ty Try.prog 122 = some ⟨Try.t122.desc, 1, 8, some [.opq .nilFunc]⟩ := by kernel_rfl
@[go_sem] theorem ty123 : ty Try.prog 123 = some ⟨Try.t123.desc, 1, 8, some [.opq .nilFunc]⟩ := by kernel_rfl
@[go_sem] theorem ty124 : ty Try.prog 124 = some ⟨Try.t124.desc, 1, 8, some [.opq .nilFunc]⟩ := by kernel_rfl
@[go_sem] theorem ty125 : ty Try.prog 125 = some ⟨Try.t125.desc, 1, 8, some [.opq .nilFunc]⟩ := by kernel_rfl
@[go_sem] theorem ty126 : ty Try.prog 126 = some ⟨Try.t126.desc, 4, 40, some [.opq (.pointer none), .opq (.pointer none), .opq (.pointer none), .str []]⟩ := by kernel_rfl
@[go_sem] theorem ty127 : ty Try.prog 127 = some ⟨Try.t126.desc, 4, 40, some [.opq (.pointer none), .opq (.pointer none), .opq (.pointer none), .str []]⟩ := by kernel_rfl
@[go_sem] theorem ty128 : ty Try.prog 128 = some ⟨.array 0 16, 0, 0, some []⟩ := by kernel_rfl
@[go_sem] theorem ty129 : ty Try.prog 129 = some ⟨Try.t129.desc, 0, 0, some []⟩ := by kernel_rfl
@[go_sem] theorem ty130 : ty Try.prog 130 = some ⟨Try.t129.desc, 0, 0, some []⟩ := by kernel_rfl
@[go_sem] theorem ty131 : ty Try.prog 131 = some ⟨Try.t131.desc, 1, 8, some [.opq .nilFunc]⟩ := by kernel_rfl
@[go_sem] theorem ty132 : ty Try.prog 132 = some ⟨.int .u32, 1, 4, some [.int .u32 0]⟩ := by kernel_rfl
@[go_sem] theorem ty133 : ty Try.prog 133 = some ⟨.int .u8, 1, 1, some [.int .u8 0]⟩ := by kernel_rfl
@[go_sem] theorem ty134 : ty Try.prog 134 = some ⟨.int .u8, 1, 1, some [.int .u8 0]⟩ := by kernel_rfl
@[go_sem] theorem ty135 : ty Try.prog 135 = some ⟨Try.t135.desc, 1, 8, some [.opq .nilFunc]⟩ := by kernel_rfl
@[go_sem] theorem ty136 : ty Try.prog 136 = some ⟨.pointer 5, 1, 8, some [.opq (.pointer none)]⟩ := by kernel_rfl
@[go_sem] theorem ty137 : ty Try.prog 137 = some ⟨.int .i32, 1, 4, some [.int .i32 0]⟩ := by kernel_rfl
@[go_sem] theorem ty138 : ty Try.prog 138 = some ⟨.int .i32, 1, 4, some [.int .i32 0]⟩ := by kernel_rfl
@[go_sem] theorem ty139 : ty Try.prog 139 = some ⟨Try.t139.desc, 11, 48, some [.int .u64 0, .int .u64 0, .int .u32 0, .int .u8 0, .int .u8 0, .int .u8 0, .int .u8 0, .opq .nilFunc, .opq (.pointer none), .int .i32 0, .int .i32 0]⟩ := by kernel_rfl
@[go_sem] theorem ty140 : ty Try.prog 140 = some ⟨Try.t139.desc, 11, 48, some [.int .u64 0, .int .u64 0, .int .u32 0, .int .u8 0, .int .u8 0, .int .u8 0, .int .u8 0, .opq .nilFunc, .opq (.pointer none), .int .i32 0, .int .i32 0]⟩ := by kernel_rfl
@[go_sem] theorem ty141 : ty Try.prog 141 = some ⟨.unsafePointer, 1, 8, some [.opq (.pointer none)]⟩ := by kernel_rfl
@[go_sem] theorem zp3 : zeroP Try.prog 3 = some (.int .i64 0) := by kernel_rfl
@[go_sem] theorem ck26 : kindsOf Try.prog 26 = some [.b, .i .i64, .i .i32, .b] := by kernel_rfl
@[go_sem] theorem ck31 : kindsOf Try.prog 31 = some [.b, .i .i64, .i .i32, .b] := by kernel_rfl
@[go_sem] theorem ck91 : kindsOf Try.prog 91 = some [.i .i64, .i .i64, .i .i64, .s, .b] := by kernel_rfl
@[go_sem] theorem ck99 : kindsOf Try.prog 99 = some [.s, .i .i64] := by kernel_rfl
attribute [go_sem] Try.t7 Try.t13 Try.t18 Try.t23 Try.t25 Try.t33 Try.t37 Try.t54 Try.t56 Try.t58 Try.t79 Try.t81 Try.t90 Try.t96 Try.t126 Try.t129 Try.t139
end Go.Proofs.Ytjgfmanahimpoaa
