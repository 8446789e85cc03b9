/-
  A part of the proof.
-/
import Derived.Test.YtllncocibkgjkaaVgX
import Derived.Test.YtllncocibkgjkaaVgMA
import Derived.Test.YtllncocibkgjkaaProg
import Derived.KernelRfl
namespace Go.Proofs.Ytllncocibkgjkaa
open Go Go.VG
set_option maxRecDepth 100000
def tt : TypeId → TI := fun t => match t with
 | 1 => ⟨.func, 1, 8, .nilFunc, []⟩
 | 2 => ⟨.int .i64, 1, 8, .int .i64 0, []⟩
 | 3 => ⟨.int .i64, 1, 8, .int .i64 0, []⟩
 | 4 => ⟨.bool, 1, 1, .bool false, []⟩
 | 5 => ⟨.int .u8, 1, 1, .int .u8 0, []⟩
 | 6 => ⟨.int .u8, 1, 1, .int .u8 0, []⟩
 | 7 => ⟨.struct [(0, 2), (1, 3), (2, 4), (3, 6)], 4, 24, .agg [.int .i64 0, .int .i64 0, .bool false, .int .u8 0], []⟩
 | 8 => ⟨.struct [(0, 2), (1, 3), (2, 4), (3, 6)], 4, 24, .agg [.int .i64 0, .int .i64 0, .bool false, .int .u8 0], []⟩
 | 9 => ⟨.string, 1, 16, .str [], []⟩
 | 10 => ⟨.string, 1, 16, .str [], []⟩
 | 11 => ⟨.string, 1, 16, .str [], []⟩
 | 12 => ⟨.int .u64, 1, 8, .int .u64 0, []⟩
 | 13 => ⟨.struct [(0, 9), (1, 12)], 2, 24, .agg [.str [], .int .u64 0], []⟩
 | 14 => ⟨.struct [(0, 9), (1, 12)], 2, 24, .agg [.str [], .int .u64 0], []⟩
 | 15 => ⟨.ptr 171, 1, 8, .nilptr, []⟩
 | 16 => ⟨.ptr 174, 1, 8, .nilptr, []⟩
 | 17 => ⟨.ptr 183, 1, 8, .nilptr, []⟩
 | 18 => ⟨.struct [(0, 17)], 1, 8, .agg [.nilptr], []⟩
 | 19 => ⟨.struct [(0, 17)], 1, 8, .agg [.nilptr], []⟩
 | 20 => ⟨.iface, 1, 16, .nilIface, []⟩
 | 21 => ⟨.int .i32, 1, 4, .int .i32 0, []⟩
 | 22 => ⟨.slice 5, 1, 24, .list true 0 [], []⟩
 | 24 => ⟨.slice 30, 1, 24, .list true 0 [], []⟩
 | 25 => ⟨.int .i64, 1, 8, .int .i64 0, []⟩
 | 29 => ⟨.struct [(0, 5), (1, 9)], 2, 24, .agg [.int .u8 0, .str []], [.kI .u8, .kS]⟩
 | 30 => ⟨.struct [(0, 5), (1, 9)], 2, 24, .agg [.int .u8 0, .str []], [.kI .u8, .kS]⟩
 | 32 => ⟨.slice 35, 1, 24, .list true 0 [], []⟩
 | 35 => ⟨.struct [(0, 5), (1, 9)], 2, 24, .agg [.int .u8 0, .str []], [.kI .u8, .kS]⟩
 | 40 => ⟨.ptr 81, 1, 8, .nilptr, []⟩
 | 43 => ⟨.struct [(0, 9), (1, 3), (2, 3), (3, 25)], 4, 40, .agg [.str [], .int .i64 0, .int .i64 0, .int .i64 0], [.kS, .kI .i64, .kI .i64, .kI .i64]⟩
 | 44 => ⟨.struct [(0, 9), (1, 3), (2, 3), (3, 25)], 4, 40, .agg [.str [], .int .i64 0, .int .i64 0, .int .i64 0], [.kS, .kI .i64, .kI .i64, .kI .i64]⟩
 | 48 => ⟨.func, 1, 8, .nilFunc, []⟩
 | 51 => ⟨.slice 96, 1, 24, .list true 0 [], []⟩
 | 54 => ⟨.slice 109, 1, 24, .list true 0 [], []⟩
 | 61 => ⟨.slice 3, 1, 24, .list true 0 [], []⟩
 | 64 => ⟨.func, 1, 8, .nilFunc, []⟩
 | 66 => ⟨.slice 71, 1, 24, .list true 0 [], []⟩
 | 67 => ⟨.ptr 117, 1, 8, .nilptr, []⟩
 | 70 => ⟨.struct [(0, 5), (1, 9), (2, 3)], 3, 32, .agg [.int .u8 0, .str [], .int .i64 0], [.kI .u8, .kS, .kI .i64]⟩
 | 71 => ⟨.struct [(0, 5), (1, 9), (2, 3)], 3, 32, .agg [.int .u8 0, .str [], .int .i64 0], [.kI .u8, .kS, .kI .i64]⟩
 | 75 => ⟨.func, 1, 8, .nilFunc, []⟩
 | 80 => ⟨.struct [(0, 9), (1, 3), (2, 3), (3, 25)], 4, 40, .agg [.str [], .int .i64 0, .int .i64 0, .int .i64 0], [.kS, .kI .i64, .kI .i64, .kI .i64]⟩
 | 81 => ⟨.struct [(0, 9), (1, 3), (2, 3), (3, 25)], 4, 40, .agg [.str [], .int .i64 0, .int .i64 0, .int .i64 0], [.kS, .kI .i64, .kI .i64, .kI .i64]⟩
 | 95 => ⟨.struct [(0, 5), (1, 9), (2, 9), (3, 3)], 4, 48, .agg [.int .u8 0, .str [], .str [], .int .i64 0], [.kI .u8, .kS, .kS, .kI .i64]⟩
 | 96 => ⟨.struct [(0, 5), (1, 9), (2, 9), (3, 3)], 4, 48, .agg [.int .u8 0, .str [], .str [], .int .i64 0], [.kI .u8, .kS, .kS, .kI .i64]⟩
 | 97 => ⟨.ptr 99, 1, 8, .nilptr, []⟩
 | 98 => ⟨.struct [(0, 40), (1, 51)], 2, 32, .agg [.nilptr, .list true 0 []], []⟩
 | 99 => ⟨.struct [(0, 40), (1, 51)], 2, 32, .agg [.nilptr, .list true 0 []], []⟩
 | 100 => ⟨.int .i64, 1, 8, .int .i64 0, []⟩
 | 104 => ⟨.struct [(0, 32), (1, 25)], 2, 32, .agg [.list true 0 [], .int .i64 0], []⟩
 | 105 => ⟨.struct [(0, 32), (1, 25)], 2, 32, .agg [.list true 0 [], .int .i64 0], []⟩
 | 109 => ⟨.struct [(0, 5), (1, 9), (2, 9), (3, 3)], 4, 48, .agg [.int .u8 0, .str [], .str [], .int .i64 0], [.kI .u8, .kS, .kS, .kI .i64]⟩
 | 115 => ⟨.slice 139, 1, 24, .list true 0 [], []⟩
 | 116 => ⟨.struct [(0, 22), (1, 115), (2, 4), (3, 25), (4, 75)], 5, 72, .agg [.list true 0 [], .list true 0 [], .bool false, .int .i64 0, .nilFunc], []⟩
 | 117 => ⟨.struct [(0, 22), (1, 115), (2, 4), (3, 25), (4, 75)], 5, 72, .agg [.list true 0 [], .list true 0 [], .bool false, .int .i64 0, .nilFunc], []⟩
 | 121 => ⟨.ptr 123, 1, 8, .nilptr, []⟩
 | 122 => ⟨.struct [(0, 40), (1, 22)], 2, 32, .agg [.nilptr, .list true 0 []], []⟩
 | 123 => ⟨.struct [(0, 40), (1, 22)], 2, 32, .agg [.nilptr, .list true 0 []], []⟩
 | 125 => ⟨.ptr 127, 1, 8, .nilptr, []⟩
 | 126 => ⟨.struct [(0, 40), (1, 22)], 2, 32, .agg [.nilptr, .list true 0 []], []⟩
 | 127 => ⟨.struct [(0, 40), (1, 22)], 2, 32, .agg [.nilptr, .list true 0 []], []⟩
 | 130 => ⟨.struct [(0, 9), (1, 9), (2, 9), (3, 3), (4, 25)], 5, 64, .agg [.str [], .str [], .str [], .int .i64 0, .int .i64 0], [.kS, .kS, .kS, .kI .i64, .kI .i64]⟩
 | 131 => ⟨.struct [(0, 9), (1, 9), (2, 9), (3, 3), (4, 25)], 5, 64, .agg [.str [], .str [], .str [], .int .i64 0, .int .i64 0], [.kS, .kS, .kS, .kI .i64, .kI .i64]⟩
 | 138 => ⟨.struct [(0, 5), (1, 4), (2, 4)], 3, 3, .agg [.int .u8 0, .bool false, .bool false], [.kI .u8, .kB, .kB]⟩
 | 139 => ⟨.struct [(0, 5), (1, 4), (2, 4)], 3, 3, .agg [.int .u8 0, .bool false, .bool false], [.kI .u8, .kB, .kB]⟩
 | 140 => ⟨.ptr 139, 1, 8, .nilptr, []⟩
 | 154 => ⟨.map 9 3, 1, 8, .nilmap, [.kS]⟩
 | 155 => ⟨.slice 9, 1, 24, .list true 0 [], []⟩
 | 159 => ⟨.int .u64, 1, 8, .int .u64 0, []⟩
 | 160 => ⟨.int .u64, 1, 8, .int .u64 0, []⟩
 | 166 => ⟨.array 20 5, 20, 20, .agg [.int .u8 0, .int .u8 0, .int .u8 0, .int .u8 0, .int .u8 0, .int .u8 0, .int .u8 0, .int .u8 0, .int .u8 0, .int .u8 0, .int .u8 0, .int .u8 0, .int .u8 0, .int .u8 0, .int .u8 0, .int .u8 0, .int .u8 0, .int .u8 0, .int .u8 0, .int .u8 0], []⟩
 | 170 => ⟨.struct [(0, 17), (1, 17), (2, 17), (3, 9)], 4, 40, .agg [.nilptr, .nilptr, .nilptr, .str []], []⟩
 | 171 => ⟨.struct [(0, 17), (1, 17), (2, 17), (3, 9)], 4, 40, .agg [.nilptr, .nilptr, .nilptr, .str []], []⟩
 | 175 => ⟨.int .u32, 1, 4, .int .u32 0, []⟩
 | 176 => ⟨.int .u8, 1, 1, .int .u8 0, []⟩
 | 177 => ⟨.int .u8, 1, 1, .int .u8 0, []⟩
 | 178 => ⟨.func, 1, 8, .nilFunc, []⟩
 | 179 => ⟨.ptr 5, 1, 8, .nilptr, []⟩
 | 180 => ⟨.int .i32, 1, 4, .int .i32 0, []⟩
 | 181 => ⟨.int .i32, 1, 4, .int .i32 0, []⟩
 | 182 => ⟨.struct [(0, 12), (1, 12), (2, 175), (3, 176), (4, 5), (5, 5), (6, 177), (7, 178), (8, 179), (9, 180), (10, 181)], 11, 48, .agg [.int .u64 0, .int .u64 0, .int .u32 0, .int .u8 0, .int .u8 0, .int .u8 0, .int .u8 0, .nilFunc, .nilptr, .int .i32 0, .int .i32 0], []⟩
 | 183 => ⟨.struct [(0, 12), (1, 12), (2, 175), (3, 176), (4, 5), (5, 5), (6, 177), (7, 178), (8, 179), (9, 180), (10, 181)], 11, 48, .agg [.int .u64 0, .int .u64 0, .int .u32 0, .int .u8 0, .int .u8 0, .int .u8 0, .int .u8 0, .nilFunc, .nilptr, .int .i32 0, .int .i32 0], []⟩
 | _ => ⟨.other, 0, 0, .undef, []⟩
theorem tt1 : aw Try.prog 1 (tt 1) := ⟨⟨_, _, _, Try.underlying1⟩, ⟨Try.t1, by kernel_rfl, by kernel_rfl, by kernel_rfl, .nilFunc, by kernel_rfl, jV⟩, fun h => absurd rfl h⟩
theorem tt2 : aw Try.prog 2 (tt 2) := ⟨Try.underlying2, ⟨Try.t2, by kernel_rfl, by kernel_rfl, by kernel_rfl, .int .i64 0, by kernel_rfl, av⟩, fun h => absurd rfl h⟩
theorem tt3 : aw Try.prog 3 (tt 3) := ⟨Try.underlying3, ⟨Try.t3, by kernel_rfl, by kernel_rfl, by kernel_rfl, .int .i64 0, by kernel_rfl, av⟩, fun h => absurd rfl h⟩
theorem tt4 : aw Try.prog 4 (tt 4) := ⟨Try.underlying4, ⟨Try.t4, by kernel_rfl, by kernel_rfl, by kernel_rfl, .bool false, by kernel_rfl, jU⟩, fun h => absurd rfl h⟩
theorem tt5 : aw Try.prog 5 (tt 5) := ⟨Try.underlying5, ⟨Try.t5, by kernel_rfl, by kernel_rfl, by kernel_rfl, .int .u8 0, by kernel_rfl, av⟩, fun h => absurd rfl h⟩
theorem tt6 : aw Try.prog 6 (tt 6) := ⟨Try.underlying6, ⟨Try.t6, by kernel_rfl, by kernel_rfl, by kernel_rfl, .int .u8 0, by kernel_rfl, av⟩, fun h => absurd rfl h⟩
theorem tt7 : aw Try.prog 7 (tt 7) := ⟨⟨_, Try.underlying7, by kernel_rfl, by kernel_rfl⟩, ⟨Try.t7, by kernel_rfl, by kernel_rfl, by kernel_rfl, .agg #[.int .i64 0, .int .i64 0, .bool false, .int .u8 0], by kernel_rfl, bK (ae av (ae av (ae jU (ae av bL))))⟩, fun h => absurd rfl h⟩
theorem tt8 : aw Try.prog 8 (tt 8) := ⟨⟨_, Try.underlying8, by kernel_rfl, by kernel_rfl⟩, ⟨Try.t8, by kernel_rfl, by kernel_rfl, by kernel_rfl, .agg #[.int .i64 0, .int .i64 0, .bool false, .int .u8 0], by kernel_rfl, bK (ae av (ae av (ae jU (ae av bL))))⟩, fun h => absurd rfl h⟩
theorem tt9 : aw Try.prog 9 (tt 9) := ⟨Try.underlying9, ⟨Try.t9, by kernel_rfl, by kernel_rfl, by kernel_rfl, .string ⟨#[]⟩, by kernel_rfl, cC⟩, fun h => absurd rfl h⟩
theorem tt10 : aw Try.prog 10 (tt 10) := ⟨Try.underlying10, ⟨Try.t10, by kernel_rfl, by kernel_rfl, by kernel_rfl, .string ⟨#[]⟩, by kernel_rfl, cC⟩, fun h => absurd rfl h⟩
theorem tt11 : aw Try.prog 11 (tt 11) := ⟨Try.underlying11, ⟨Try.t11, by kernel_rfl, by kernel_rfl, by kernel_rfl, .string ⟨#[]⟩, by kernel_rfl, cC⟩, fun h => absurd rfl h⟩
theorem tt12 : aw Try.prog 12 (tt 12) := ⟨Try.underlying12, ⟨Try.t12, by kernel_rfl, by kernel_rfl, by kernel_rfl, .int .u64 0, by kernel_rfl, av⟩, fun h => absurd rfl h⟩
theorem tt13 : aw Try.prog 13 (tt 13) := ⟨⟨_, Try.underlying13, by kernel_rfl, by kernel_rfl⟩, ⟨Try.t13, by kernel_rfl, by kernel_rfl, by kernel_rfl, .agg #[.string ⟨#[]⟩, .int .u64 0], by kernel_rfl, bK (ae cC (ae av bL))⟩, fun h => absurd rfl h⟩
theorem tt14 : aw Try.prog 14 (tt 14) := ⟨⟨_, Try.underlying14, by kernel_rfl, by kernel_rfl⟩, ⟨Try.t14, by kernel_rfl, by kernel_rfl, by kernel_rfl, .agg #[.string ⟨#[]⟩, .int .u64 0], by kernel_rfl, bK (ae cC (ae av bL))⟩, fun h => absurd rfl h⟩
theorem tt15 : aw Try.prog 15 (tt 15) := ⟨Try.underlying15, ⟨Try.t15, by kernel_rfl, by kernel_rfl, by kernel_rfl, .pointer none, by kernel_rfl, cM⟩, fun h => absurd rfl h⟩
theorem tt16 : aw Try.prog 16 (tt 16) := ⟨Try.underlying16, ⟨Try.t16, by kernel_rfl, by kernel_rfl, by kernel_rfl, .pointer none, by kernel_rfl, cM⟩, fun h => absurd rfl h⟩
theorem tt17 : aw Try.prog 17 (tt 17) := ⟨Try.underlying17, ⟨Try.t17, by kernel_rfl, by kernel_rfl, by kernel_rfl, .pointer none, by kernel_rfl, cM⟩, fun h => absurd rfl h⟩
theorem tt18 : aw Try.prog 18 (tt 18) := ⟨⟨_, Try.underlying18, by kernel_rfl, by kernel_rfl⟩, ⟨Try.t18, by kernel_rfl, by kernel_rfl, by kernel_rfl, .agg #[.pointer none], by kernel_rfl, bK (ae cM bL)⟩, fun h => absurd rfl h⟩
theorem tt19 : aw Try.prog 19 (tt 19) := ⟨⟨_, Try.underlying19, by kernel_rfl, by kernel_rfl⟩, ⟨Try.t19, by kernel_rfl, by kernel_rfl, by kernel_rfl, .agg #[.pointer none], by kernel_rfl, bK (ae cM bL)⟩, fun h => absurd rfl h⟩
theorem tt20 : aw Try.prog 20 (tt 20) := ⟨⟨_, Try.underlying20⟩, ⟨Try.t20, by kernel_rfl, by kernel_rfl, by kernel_rfl, .nilIface, by kernel_rfl, IF⟩, fun h => absurd rfl h⟩
theorem tt21 : aw Try.prog 21 (tt 21) := ⟨Try.underlying21, ⟨Try.t21, by kernel_rfl, by kernel_rfl, by kernel_rfl, .int .i32 0, by kernel_rfl, av⟩, fun h => absurd rfl h⟩
theorem tt22 : aw Try.prog 22 (tt 22) := ⟨Try.underlying22, ⟨Try.t22, by kernel_rfl, by kernel_rfl, by kernel_rfl, .slice none 0 0, by kernel_rfl, dN⟩, fun h => absurd rfl h⟩
theorem tt24 : aw Try.prog 24 (tt 24) := ⟨Try.underlying24, ⟨Try.t24, by kernel_rfl, by kernel_rfl, by kernel_rfl, .slice none 0 0, by kernel_rfl, dN⟩, fun h => absurd rfl h⟩
theorem tt25 : aw Try.prog 25 (tt 25) := ⟨Try.underlying25, ⟨Try.t25, by kernel_rfl, by kernel_rfl, by kernel_rfl, .int .i64 0, by kernel_rfl, av⟩, fun h => absurd rfl h⟩
theorem tt29 : aw Try.prog 29 (tt 29) := ⟨⟨_, Try.underlying29, by kernel_rfl, by kernel_rfl⟩, ⟨Try.t29, by kernel_rfl, by kernel_rfl, by kernel_rfl, .agg #[.int .u8 0, .string ⟨#[]⟩], by kernel_rfl, bK (ae av (ae cC bL))⟩, fun h => fq h (by kernel_rfl) (by kernel_rfl) (by kernel_rfl) (by kernel_rfl)⟩
theorem tt30 : aw Try.prog 30 (tt 30) := ⟨⟨_, Try.underlying30, by kernel_rfl, by kernel_rfl⟩, ⟨Try.t30, by kernel_rfl, by kernel_rfl, by kernel_rfl, .agg #[.int .u8 0, .string ⟨#[]⟩], by kernel_rfl, bK (ae av (ae cC bL))⟩, fun h => fq h (by kernel_rfl) (by kernel_rfl) (by kernel_rfl) (by kernel_rfl)⟩
theorem tt32 : aw Try.prog 32 (tt 32) := ⟨Try.underlying32, ⟨Try.t32, by kernel_rfl, by kernel_rfl, by kernel_rfl, .slice none 0 0, by kernel_rfl, dN⟩, fun h => absurd rfl h⟩
theorem tt35 : aw Try.prog 35 (tt 35) := ⟨⟨_, Try.underlying35, by kernel_rfl, by kernel_rfl⟩, ⟨Try.t35, by kernel_rfl, by kernel_rfl, by kernel_rfl, .agg #[.int .u8 0, .string ⟨#[]⟩], by kernel_rfl, bK (ae av (ae cC bL))⟩, fun h => fq h (by kernel_rfl) (by kernel_rfl) (by kernel_rfl) (by kernel_rfl)⟩
theorem tt40 : aw Try.prog 40 (tt 40) := ⟨Try.underlying40, ⟨Try.t40, by kernel_rfl, by kernel_rfl, by kernel_rfl, .pointer none, by kernel_rfl, cM⟩, fun h => absurd rfl h⟩
theorem tt43 : aw Try.prog 43 (tt 43) := ⟨⟨_, Try.underlying43, by kernel_rfl, by kernel_rfl⟩, ⟨Try.t43, by kernel_rfl, by kernel_rfl, by kernel_rfl, .agg #[.string ⟨#[]⟩, .int .i64 0, .int .i64 0, .int .i64 0], by kernel_rfl, bK (ae cC (ae av (ae av (ae av bL))))⟩, fun h => fq h (by kernel_rfl) (by kernel_rfl) (by kernel_rfl) (by kernel_rfl)⟩
theorem tt44 : aw Try.prog 44 (tt 44) := ⟨⟨_, Try.underlying44, by kernel_rfl, by kernel_rfl⟩, ⟨Try.t44, by kernel_rfl, by kernel_rfl, by kernel_rfl, .agg #[.string ⟨#[]⟩, .int .i64 0, .int .i64 0, .int .i64 0], by kernel_rfl, bK (ae cC (ae av (ae av (ae av bL))))⟩, fun h => fq h (by kernel_rfl) (by kernel_rfl) (by kernel_rfl) (by kernel_rfl)⟩
theorem tt48 : aw Try.prog 48 (tt 48) := ⟨⟨_, _, _, Try.underlying48⟩, ⟨Try.t48, by kernel_rfl, by kernel_rfl, by kernel_rfl, .nilFunc, by kernel_rfl, jV⟩, fun h => absurd rfl h⟩
theorem tt51 : aw Try.prog 51 (tt 51) := ⟨Try.underlying51, ⟨Try.t51, by kernel_rfl, by kernel_rfl, by kernel_rfl, .slice none 0 0, by kernel_rfl, dN⟩, fun h => absurd rfl h⟩
theorem tt54 : aw Try.prog 54 (tt 54) := ⟨Try.underlying54, ⟨Try.t54, by kernel_rfl, by kernel_rfl, by kernel_rfl, .slice none 0 0, by kernel_rfl, dN⟩, fun h => absurd rfl h⟩
theorem tt61 : aw Try.prog 61 (tt 61) := ⟨Try.underlying61, ⟨Try.t61, by kernel_rfl, by kernel_rfl, by kernel_rfl, .slice none 0 0, by kernel_rfl, dN⟩, fun h => absurd rfl h⟩
theorem tt64 : aw Try.prog 64 (tt 64) := ⟨⟨_, _, _, Try.underlying64⟩, ⟨Try.t64, by kernel_rfl, by kernel_rfl, by kernel_rfl, .nilFunc, by kernel_rfl, jV⟩, fun h => absurd rfl h⟩
theorem tt66 : aw Try.prog 66 (tt 66) := ⟨Try.underlying66, ⟨Try.t66, by kernel_rfl, by kernel_rfl, by kernel_rfl, .slice none 0 0, by kernel_rfl, dN⟩, fun h => absurd rfl h⟩
theorem tt67 : aw Try.prog 67 (tt 67) := ⟨Try.underlying67, ⟨Try.t67, by kernel_rfl, by kernel_rfl, by kernel_rfl, .pointer none, by kernel_rfl, cM⟩, fun h => absurd rfl h⟩
theorem tt70 : aw Try.prog 70 (tt 70) := ⟨⟨_, Try.underlying70, by kernel_rfl, by kernel_rfl⟩, ⟨Try.t70, by kernel_rfl, by kernel_rfl, by kernel_rfl, .agg #[.int .u8 0, .string ⟨#[]⟩, .int .i64 0], by kernel_rfl, bK (ae av (ae cC (ae av bL)))⟩, fun h => fq h (by kernel_rfl) (by kernel_rfl) (by kernel_rfl) (by kernel_rfl)⟩
theorem tt71 : aw Try.prog 71 (tt 71) := ⟨⟨_, Try.underlying71, by kernel_rfl, by kernel_rfl⟩, ⟨Try.t71, by kernel_rfl, by kernel_rfl, by kernel_rfl, .agg #[.int .u8 0, .string ⟨#[]⟩, .int .i64 0], by kernel_rfl, bK (ae av (ae cC (ae av bL)))⟩, fun h => fq h (by kernel_rfl) (by kernel_rfl) (by kernel_rfl) (by kernel_rfl)⟩
theorem tt75 : aw Try.prog 75 (tt 75) := ⟨⟨_, _, _, Try.underlying75⟩, ⟨Try.t75, by kernel_rfl, by kernel_rfl, by kernel_rfl, .nilFunc, by kernel_rfl, jV⟩, fun h => absurd rfl h⟩
theorem tt80 : aw Try.prog 80 (tt 80) := ⟨⟨_, Try.underlying80, by kernel_rfl, by kernel_rfl⟩, ⟨Try.t80, by kernel_rfl, by kernel_rfl, by kernel_rfl, .agg #[.string ⟨#[]⟩, .int .i64 0, .int .i64 0, .int .i64 0], by kernel_rfl, bK (ae cC (ae av (ae av (ae av bL))))⟩, fun h => fq h (by kernel_rfl) (by kernel_rfl) (by kernel_rfl) (by kernel_rfl)⟩
theorem tt81 : aw Try.prog 81 (tt 81) := ⟨⟨_, Try.underlying81, by kernel_rfl, by kernel_rfl⟩, ⟨Try.t81, by kernel_rfl, by kernel_rfl, by kernel_rfl, .agg #[.string ⟨#[]⟩, .int .i64 0, .int .i64 0, .int .i64 0], by kernel_rfl, bK (ae cC (ae av (ae av (ae av bL))))⟩, fun h => fq h (by kernel_rfl) (by kernel_rfl) (by kernel_rfl) (by kernel_rfl)⟩
theorem tt95 : aw Try.prog 95 (tt 95) := ⟨⟨_, Try.underlying95, by kernel_rfl, by kernel_rfl⟩, ⟨Try.t95, by kernel_rfl, by kernel_rfl, by kernel_rfl, .agg #[.int .u8 0, .string ⟨#[]⟩, .string ⟨#[]⟩, .int .i64 0], by kernel_rfl, bK (ae av (ae cC (ae cC (ae av bL))))⟩, fun h => fq h (by kernel_rfl) (by kernel_rfl) (by kernel_rfl) (by kernel_rfl)⟩
theorem tt96 : aw Try.prog 96 (tt 96) := ⟨⟨_, Try.underlying96, by kernel_rfl, by kernel_rfl⟩, ⟨Try.t96, by kernel_rfl, by kernel_rfl, by kernel_rfl, .agg #[.int .u8 0, .string ⟨#[]⟩, .string ⟨#[]⟩, .int .i64 0], by kernel_rfl, bK (ae av (ae cC (ae cC (ae av bL))))⟩, fun h => fq h (by kernel_rfl) (by kernel_rfl) (by kernel_rfl) (by kernel_rfl)⟩
theorem tt97 : aw Try.prog 97 (tt 97) := ⟨Try.underlying97, ⟨Try.t97, by kernel_rfl, by kernel_rfl, by kernel_rfl, .pointer none, by kernel_rfl, cM⟩, fun h => absurd rfl h⟩
theorem tt98 : aw Try.prog 98 (tt 98) := ⟨⟨_, Try.underlying98, by kernel_rfl, by kernel_rfl⟩, ⟨Try.t98, by kernel_rfl, by kernel_rfl, by kernel_rfl, .agg #[.pointer none, .slice none 0 0], by kernel_rfl, bK (ae cM (ae dN bL))⟩, fun h => absurd rfl h⟩
theorem tt99 : aw Try.prog 99 (tt 99) := ⟨⟨_, Try.underlying99, by kernel_rfl, by kernel_rfl⟩, ⟨Try.t99, by kernel_rfl, by kernel_rfl, by kernel_rfl, .agg #[.pointer none, .slice none 0 0], by kernel_rfl, bK (ae cM (ae dN bL))⟩, fun h => absurd rfl h⟩
theorem tt100 : aw Try.prog 100 (tt 100) := ⟨Try.underlying100, ⟨Try.t100, by kernel_rfl, by kernel_rfl, by kernel_rfl, .int .i64 0, by kernel_rfl, av⟩, fun h => absurd rfl h⟩
theorem tt104 : aw Try.prog 104 (tt 104) := ⟨⟨_, Try.underlying104, by kernel_rfl, by kernel_rfl⟩, ⟨Try.t104, by kernel_rfl, by kernel_rfl, by kernel_rfl, .agg #[.slice none 0 0, .int .i64 0], by kernel_rfl, bK (ae dN (ae av bL))⟩, fun h => absurd rfl h⟩
theorem tt105 : aw Try.prog 105 (tt 105) := ⟨⟨_, Try.underlying105, by kernel_rfl, by kernel_rfl⟩, ⟨Try.t105, by kernel_rfl, by kernel_rfl, by kernel_rfl, .agg #[.slice none 0 0, .int .i64 0], by kernel_rfl, bK (ae dN (ae av bL))⟩, fun h => absurd rfl h⟩
theorem tt109 : aw Try.prog 109 (tt 109) := ⟨⟨_, Try.underlying109, by kernel_rfl, by kernel_rfl⟩, ⟨Try.t109, by kernel_rfl, by kernel_rfl, by kernel_rfl, .agg #[.int .u8 0, .string ⟨#[]⟩, .string ⟨#[]⟩, .int .i64 0], by kernel_rfl, bK (ae av (ae cC (ae cC (ae av bL))))⟩, fun h => fq h (by kernel_rfl) (by kernel_rfl) (by kernel_rfl) (by kernel_rfl)⟩
theorem tt115 : aw Try.prog 115 (tt 115) := ⟨Try.underlying115, ⟨Try.t115, by kernel_rfl, by kernel_rfl, by kernel_rfl, .slice none 0 0, by kernel_rfl, dN⟩, fun h => absurd rfl h⟩
theorem tt116 : aw Try.prog 116 (tt 116) := ⟨⟨_, Try.underlying116, by kernel_rfl, by kernel_rfl⟩, ⟨Try.t116, by kernel_rfl, by kernel_rfl, by kernel_rfl, .agg #[.slice none 0 0, .slice none 0 0, .bool false, .int .i64 0, .nilFunc], by kernel_rfl, bK (ae dN (ae dN (ae jU (ae av (ae jV bL)))))⟩, fun h => absurd rfl h⟩
theorem tt117 : aw Try.prog 117 (tt 117) := ⟨⟨_, Try.underlying117, by kernel_rfl, by kernel_rfl⟩, ⟨Try.t117, by kernel_rfl, by kernel_rfl, by kernel_rfl, .agg #[.slice none 0 0, .slice none 0 0, .bool false, .int .i64 0, .nilFunc], by kernel_rfl, bK (ae dN (ae dN (ae jU (ae av (ae jV bL)))))⟩, fun h => absurd rfl h⟩
theorem tt121 : aw Try.prog 121 (tt 121) := ⟨Try.underlying121, ⟨Try.t121, by kernel_rfl, by kernel_rfl, by kernel_rfl, .pointer none, by kernel_rfl, cM⟩, fun h => absurd rfl h⟩
theorem tt122 : aw Try.prog 122 (tt 122) := ⟨⟨_, Try.underlying122, by kernel_rfl, by kernel_rfl⟩, ⟨Try.t122, by kernel_rfl, by kernel_rfl, by kernel_rfl, .agg #[.pointer none, .slice none 0 0], by kernel_rfl, bK (ae cM (ae dN bL))⟩, fun h => absurd rfl h⟩
theorem tt123 : aw Try.prog 123 (tt 123) := ⟨⟨_, Try.underlying123, by kernel_rfl, by kernel_rfl⟩, ⟨Try.t123, by kernel_rfl, by kernel_rfl, by kernel_rfl, .agg #[.pointer none, .slice none 0 0], by kernel_rfl, bK (ae cM (ae dN bL))⟩, fun h => absurd rfl h⟩
theorem tt125 : aw Try.prog 125 (tt 125) := ⟨Try.underlying125, ⟨Try.t125, by kernel_rfl, by kernel_rfl, by kernel_rfl, .pointer none, by kernel_rfl, cM⟩, fun h => absurd rfl h⟩
theorem tt126 : aw Try.prog 126 (tt 126) := ⟨⟨_, Try.underlying126, by kernel_rfl, by kernel_rfl⟩, ⟨Try.t126, by kernel_rfl, by kernel_rfl, by kernel_rfl, .agg #[.pointer none, .slice none 0 0], by kernel_rfl, bK (ae cM (ae dN bL))⟩, fun h => absurd rfl h⟩
theorem tt127 : aw Try.prog 127 (tt 127) := ⟨⟨_, Try.underlying127, by kernel_rfl, by kernel_rfl⟩, ⟨Try.t127, by kernel_rfl, by kernel_rfl, by kernel_rfl, .agg #[.pointer none, .slice none 0 0], by kernel_rfl, bK (ae cM (ae dN bL))⟩, fun h => absurd rfl h⟩
theorem tt130 : aw Try.prog 130 (tt 130) := ⟨⟨_, Try.underlying130, by kernel_rfl, by kernel_rfl⟩, ⟨Try.t130, by kernel_rfl, by kernel_rfl, by kernel_rfl, .agg #[.string ⟨#[]⟩, .string ⟨#[]⟩, .string ⟨#[]⟩, .int .i64 0, .int .i64 0], by kernel_rfl, bK (ae cC (ae cC (ae cC (ae av (ae av bL)))))⟩, fun h => fq h (by kernel_rfl) (by kernel_rfl) (by kernel_rfl) (by kernel_rfl)⟩
theorem tt131 : aw Try.prog 131 (tt 131) := ⟨⟨_, Try.underlying131, by kernel_rfl, by kernel_rfl⟩, ⟨Try.t131, by kernel_rfl, by kernel_rfl, by kernel_rfl, .agg #[.string ⟨#[]⟩, .string ⟨#[]⟩, .string ⟨#[]⟩, .int .i64 0, .int .i64 0], by kernel_rfl, bK (ae cC (ae cC (ae cC (ae av (ae av bL)))))⟩, fun h => fq h (by kernel_rfl) (by kernel_rfl) (by kernel_rfl) (by kernel_rfl)⟩
theorem tt138 : aw Try.prog 138 (tt 138) := ⟨⟨_, Try.underlying138, by kernel_rfl, by kernel_rfl⟩, ⟨Try.t138, by kernel_rfl, by kernel_rfl, by kernel_rfl, .agg #[.int .u8 0, .bool false, .bool false], by kernel_rfl, bK (ae av (ae jU (ae jU bL)))⟩, fun h => fq h (by kernel_rfl) (by kernel_rfl) (by kernel_rfl) (by kernel_rfl)⟩
theorem tt139 : aw Try.prog 139 (tt 139) := ⟨⟨_, Try.underlying139, by kernel_rfl, by kernel_rfl⟩, ⟨Try.t139, by kernel_rfl, by kernel_rfl, by kernel_rfl, .agg #[.int .u8 0, .bool false, .bool false], by kernel_rfl, bK (ae av (ae jU (ae jU bL)))⟩, fun h => fq h (by kernel_rfl) (by kernel_rfl) (by kernel_rfl) (by kernel_rfl)⟩
theorem tt140 : aw Try.prog 140 (tt 140) := ⟨Try.underlying140, ⟨Try.t140, by kernel_rfl, by kernel_rfl, by kernel_rfl, .pointer none, by kernel_rfl, cM⟩, fun h => absurd rfl h⟩
theorem tt154 : aw Try.prog 154 (tt 154) := ⟨Try.underlying154, ⟨Try.t154, by kernel_rfl, by kernel_rfl, by kernel_rfl, .map none, by kernel_rfl, zMap⟩, fun _ => Fk Try.underlying9⟩
theorem tt155 : aw Try.prog 155 (tt 155) := ⟨Try.underlying155, ⟨Try.t155, by kernel_rfl, by kernel_rfl, by kernel_rfl, .slice none 0 0, by kernel_rfl, dN⟩, fun h => absurd rfl h⟩
theorem tt159 : aw Try.prog 159 (tt 159) := ⟨Try.underlying159, ⟨Try.t159, by kernel_rfl, by kernel_rfl, by kernel_rfl, .int .u64 0, by kernel_rfl, av⟩, fun h => absurd rfl h⟩
theorem tt160 : aw Try.prog 160 (tt 160) := ⟨Try.underlying160, ⟨Try.t160, by kernel_rfl, by kernel_rfl, by kernel_rfl, .int .u64 0, by kernel_rfl, av⟩, fun h => absurd rfl h⟩
theorem tt166 : aw Try.prog 166 (tt 166) := ⟨Try.underlying166, ⟨Try.t166, by kernel_rfl, by kernel_rfl, by kernel_rfl, .agg #[.int .u8 0, .int .u8 0, .int .u8 0, .int .u8 0, .int .u8 0, .int .u8 0, .int .u8 0, .int .u8 0, .int .u8 0, .int .u8 0, .int .u8 0, .int .u8 0, .int .u8 0, .int .u8 0, .int .u8 0, .int .u8 0, .int .u8 0, .int .u8 0, .int .u8 0, .int .u8 0], by kernel_rfl, bK (ae av (ae av (ae av (ae av (ae av (ae av (ae av (ae av (ae av (ae av (ae av (ae av (ae av (ae av (ae av (ae av (ae av (ae av (ae av (ae av bL))))))))))))))))))))⟩, fun h => absurd rfl h⟩
theorem tt170 : aw Try.prog 170 (tt 170) := ⟨⟨_, Try.underlying170, by kernel_rfl, by kernel_rfl⟩, ⟨Try.t170, by kernel_rfl, by kernel_rfl, by kernel_rfl, .agg #[.pointer none, .pointer none, .pointer none, .string ⟨#[]⟩], by kernel_rfl, bK (ae cM (ae cM (ae cM (ae cC bL))))⟩, fun h => absurd rfl h⟩
theorem tt171 : aw Try.prog 171 (tt 171) := ⟨⟨_, Try.underlying171, by kernel_rfl, by kernel_rfl⟩, ⟨Try.t171, by kernel_rfl, by kernel_rfl, by kernel_rfl, .agg #[.pointer none, .pointer none, .pointer none, .string ⟨#[]⟩], by kernel_rfl, bK (ae cM (ae cM (ae cM (ae cC bL))))⟩, fun h => absurd rfl h⟩
theorem tt175 : aw Try.prog 175 (tt 175) := ⟨Try.underlying175, ⟨Try.t175, by kernel_rfl, by kernel_rfl, by kernel_rfl, .int .u32 0, by kernel_rfl, av⟩, fun h => absurd rfl h⟩
theorem tt176 : aw Try.prog 176 (tt 176) := ⟨Try.underlying176, ⟨Try.t176, by kernel_rfl, by kernel_rfl, by kernel_rfl, .int .u8 0, by kernel_rfl, av⟩, fun h => absurd rfl h⟩
theorem tt177 : aw Try.prog 177 (tt 177) := ⟨Try.underlying177, ⟨Try.t177, by kernel_rfl, by kernel_rfl, by kernel_rfl, .int .u8 0, by kernel_rfl, av⟩, fun h => absurd rfl h⟩
theorem tt178 : aw Try.prog 178 (tt 178) := ⟨⟨_, _, _, Try.underlying178⟩, ⟨Try.t178, by kernel_rfl, by kernel_rfl, by kernel_rfl, .nilFunc, by kernel_rfl, jV⟩, fun h => absurd rfl h⟩
theorem tt179 : aw Try.prog 179 (tt 179) := ⟨Try.underlying179, ⟨Try.t179, by kernel_rfl, by kernel_rfl, by kernel_rfl, .pointer none, by kernel_rfl, cM⟩, fun h => absurd rfl h⟩
theorem tt180 : aw Try.prog 180 (tt 180) := ⟨Try.underlying180, ⟨Try.t180, by kernel_rfl, by kernel_rfl, by kernel_rfl, .int .i32 0, by kernel_rfl, av⟩, fun h => absurd rfl h⟩
theorem tt181 : aw Try.prog 181 (tt 181) := ⟨Try.underlying181, ⟨Try.t181, by kernel_rfl, by kernel_rfl, by kernel_rfl, .int .i32 0, by kernel_rfl, av⟩, fun h => absurd rfl h⟩
theorem tt182 : aw Try.prog 182 (tt 182) := ⟨⟨_, Try.underlying182, by kernel_rfl, by kernel_rfl⟩, ⟨Try.t182, by kernel_rfl, by kernel_rfl, by kernel_rfl, .agg #[.int .u64 0, .int .u64 0, .int .u32 0, .int .u8 0, .int .u8 0, .int .u8 0, .int .u8 0, .nilFunc, .pointer none, .int .i32 0, .int .i32 0], by kernel_rfl, bK (ae av (ae av (ae av (ae av (ae av (ae av (ae av (ae jV (ae cM (ae av (ae av bL)))))))))))⟩, fun h => absurd rfl h⟩
theorem tt183 : aw Try.prog 183 (tt 183) := ⟨⟨_, Try.underlying183, by kernel_rfl, by kernel_rfl⟩, ⟨Try.t183, by kernel_rfl, by kernel_rfl, by kernel_rfl, .agg #[.int .u64 0, .int .u64 0, .int .u32 0, .int .u8 0, .int .u8 0, .int .u8 0, .int .u8 0, .nilFunc, .pointer none, .int .i32 0, .int .i32 0], by kernel_rfl, bK (ae av (ae av (ae av (ae av (ae av (ae av (ae av (ae jV (ae cM (ae av (ae av bL)))))))))))⟩, fun h => absurd rfl h⟩
theorem pG : ∀ t, aw Try.prog t (tt t) := fun t => by
 unfold tt
 split
 . exact tt1
 . exact tt2
 . exact tt3
 . exact tt4
 . exact tt5
 . exact tt6
 . exact tt7
 . exact tt8
 . exact tt9
 . exact tt10
 . exact tt11
 . exact tt12
 . exact tt13
 . exact tt14
 . exact tt15
 . exact tt16
 . exact tt17
 . exact tt18
 . exact tt19
 . exact tt20
 . exact tt21
 . exact tt22
 . exact tt24
 . exact tt25
 . exact tt29
 . exact tt30
 . exact tt32
 . exact tt35
 . exact tt40
 . exact tt43
 . exact tt44
 . exact tt48
 . exact tt51
 . exact tt54
 . exact tt61
 . exact tt64
 . exact tt66
 . exact tt67
 . exact tt70
 . exact tt71
 . exact tt75
 . exact tt80
 . exact tt81
 . exact tt95
 . exact tt96
 . exact tt97
 . exact tt98
 . exact tt99
 . exact tt100
 . exact tt104
 . exact tt105
 . exact tt109
 . exact tt115
 . exact tt116
 . exact tt117
 . exact tt121
 . exact tt122
 . exact tt123
 . exact tt125
 . exact tt126
 . exact tt127
 . exact tt130
 . exact tt131
 . exact tt138
 . exact tt139
 . exact tt140
 . exact tt154
 . exact tt155
 . exact tt159
 . exact tt160
 . exact tt166
 . exact tt170
 . exact tt171
 . exact tt175
 . exact tt176
 . exact tt177
 . exact tt178
 . exact tt179
 . exact tt180
 . exact tt181
 . exact tt182
 . exact tt183
 . trivial
def mD : TypeId → Bool := fun t => match t with
 | 2 => true
 | 3 => true
 | 4 => true
 | 5 => true
 | 6 => true
 | 7 => true
 | 8 => true
 | 9 => true
 | 10 => true
 | 11 => true
 | 12 => true
 | 13 => true
 | 14 => true
 | 21 => true
 | 22 => true
 | 24 => true
 | 25 => true
 | 29 => true
 | 30 => true
 | 32 => true
 | 35 => true
 | 43 => true
 | 44 => true
 | 51 => true
 | 54 => true
 | 61 => true
 | 66 => true
 | 70 => true
 | 71 => true
 | 80 => true
 | 81 => true
 | 95 => true
 | 96 => true
 | 100 => true
 | 104 => true
 | 105 => true
 | 109 => true
 | 115 => true
 | 130 => true
 | 131 => true
 | 138 => true
 | 139 => true
 | 155 => true
 | 159 => true
 | 160 => true
 | 166 => true
 | 175 => true
 | 176 => true
 | 177 => true
 | 180 => true
 | 181 => true
 | _ => false
theorem BJ : mi Try.prog tt mD where
 tys := pG
 kids := fun t h => by
  unfold mD at h; split at h <;> first | (cases h; done) | rfl
 pos := fun t h => by
  unfold mD at h; split at h <;> first
   | (cases h; done)
   | exact .inl ⟨_, rfl, by decide⟩
   | (refine .inr (.inr (And.intro ?_ ?_)) <;> (intro e hh; cases hh))
 fields := fun t fs h k => by
  unfold mD at h; split at h <;> first
   | (cases h; done)
   | (cases k; rfl)
   | (cases k; done)
 array := fun t m e h k => by
  unfold mD at h; split at h <;> first
   | (cases h; done)
   | (cases k; rfl)
   | (cases k; done)
end Go.Proofs.Ytllncocibkgjkaa
