/-
  A part of the proof.
-/
import Derived.Test.YtllncocibkgjkaaGreatVgX
import Derived.Test.YtllncocibkgjkaaGreatVgMA
import Derived.Test.YtllncocibkgjkaaGreatProg
import Derived.KernelRfl
namespace Go.Proofs.YtllncocibkgjkaaGreat
open Go Go.VG
set_option maxRecDepth 100000
def tt : TypeId → TI := fun t => match t with
 | 1 => ⟨.func, 1, 8, .nilFunc, []⟩
 | 2 => ⟨.int .i64, 1, 8, .int .i64 0, []⟩
 | 3 => ⟨.int .i64, 1, 8, .int .i64 0, []⟩
 | 4 => ⟨.bool, 1, 1, .bool false, []⟩
 | 5 => ⟨.int .u8, 1, 1, .int .u8 0, []⟩
 | 6 => ⟨.int .u8, 1, 1, .int .u8 0, []⟩
 | 7 => ⟨.struct [(0, 2), (1, 3), (2, 4), (3, 6)], 4, 24, .agg [.int .i64 0, .int .i64 0, .bool false, .int .u8 0], []⟩
 | 8 => ⟨.struct [(0, 2), (1, 3), (2, 4), (3, 6)], 4, 24, .agg [.int .i64 0, .int .i64 0, .bool false, .int .u8 0], []⟩
 | 9 => ⟨.string, 1, 16, .str [], []⟩
 | 10 => ⟨.string, 1, 16, .str [], []⟩
 | 11 => ⟨.string, 1, 16, .str [], []⟩
 | 12 => ⟨.int .u64, 1, 8, .int .u64 0, []⟩
 | 13 => ⟨.struct [(0, 9), (1, 12)], 2, 24, .agg [.str [], .int .u64 0], []⟩
 | 14 => ⟨.struct [(0, 9), (1, 12)], 2, 24, .agg [.str [], .int .u64 0], []⟩
 | 15 => ⟨.ptr 195, 1, 8, .nilptr, []⟩
 | 16 => ⟨.ptr 198, 1, 8, .nilptr, []⟩
 | 17 => ⟨.ptr 207, 1, 8, .nilptr, []⟩
 | 18 => ⟨.struct [(0, 17)], 1, 8, .agg [.nilptr], []⟩
 | 19 => ⟨.struct [(0, 17)], 1, 8, .agg [.nilptr], []⟩
 | 20 => ⟨.iface, 1, 16, .nilIface, []⟩
 | 21 => ⟨.int .i32, 1, 4, .int .i32 0, []⟩
 | 23 => ⟨.slice 28, 1, 24, .list true 0 [], []⟩
 | 24 => ⟨.int .i64, 1, 8, .int .i64 0, []⟩
 | 27 => ⟨.struct [(0, 5), (1, 9), (2, 9), (3, 3)], 4, 48, .agg [.int .u8 0, .str [], .str [], .int .i64 0], [.kI .u8, .kS, .kS, .kI .i64]⟩
 | 28 => ⟨.struct [(0, 5), (1, 9), (2, 9), (3, 3)], 4, 48, .agg [.int .u8 0, .str [], .str [], .int .i64 0], [.kI .u8, .kS, .kS, .kI .i64]⟩
 | 29 => ⟨.ptr 80, 1, 8, .nilptr, []⟩
 | 31 => ⟨.slice 35, 1, 24, .list true 0 [], []⟩
 | 32 => ⟨.func, 1, 8, .nilFunc, []⟩
 | 34 => ⟨.struct [(0, 5), (1, 9), (2, 3)], 3, 32, .agg [.int .u8 0, .str [], .int .i64 0], [.kI .u8, .kS, .kI .i64]⟩
 | 35 => ⟨.struct [(0, 5), (1, 9), (2, 3)], 3, 32, .agg [.int .u8 0, .str [], .int .i64 0], [.kI .u8, .kS, .kI .i64]⟩
 | 38 => ⟨.slice 93, 1, 24, .list true 0 [], []⟩
 | 40 => ⟨.func, 1, 8, .nilFunc, []⟩
 | 47 => ⟨.struct [(0, 9), (1, 4), (2, 24)], 3, 32, .agg [.str [], .bool false, .int .i64 0], [.kS, .kB, .kI .i64]⟩
 | 48 => ⟨.struct [(0, 9), (1, 4), (2, 24)], 3, 32, .agg [.str [], .bool false, .int .i64 0], [.kS, .kB, .kI .i64]⟩
 | 50 => ⟨.struct [(0, 3), (1, 4), (2, 24)], 3, 24, .agg [.int .i64 0, .bool false, .int .i64 0], [.kI .i64, .kB, .kI .i64]⟩
 | 51 => ⟨.struct [(0, 3), (1, 4), (2, 24)], 3, 24, .agg [.int .i64 0, .bool false, .int .i64 0], [.kI .i64, .kB, .kI .i64]⟩
 | 53 => ⟨.struct [(0, 4), (1, 4), (2, 24)], 3, 16, .agg [.bool false, .bool false, .int .i64 0], [.kB, .kB, .kI .i64]⟩
 | 54 => ⟨.struct [(0, 4), (1, 4), (2, 24)], 3, 16, .agg [.bool false, .bool false, .int .i64 0], [.kB, .kB, .kI .i64]⟩
 | 62 => ⟨.slice 3, 1, 24, .list true 0 [], []⟩
 | 63 => ⟨.struct [(0, 62), (1, 4), (2, 24)], 3, 40, .agg [.list true 0 [], .bool false, .int .i64 0], []⟩
 | 64 => ⟨.struct [(0, 62), (1, 4), (2, 24)], 3, 40, .agg [.list true 0 [], .bool false, .int .i64 0], []⟩
 | 70 => ⟨.slice 114, 1, 24, .list true 0 [], []⟩
 | 71 => ⟨.struct [(0, 70), (1, 24)], 2, 32, .agg [.list true 0 [], .int .i64 0], []⟩
 | 72 => ⟨.struct [(0, 70), (1, 24)], 2, 32, .agg [.list true 0 [], .int .i64 0], []⟩
 | 76 => ⟨.func, 1, 8, .nilFunc, []⟩
 | 77 => ⟨.slice 5, 1, 24, .list true 0 [], []⟩
 | 78 => ⟨.slice 107, 1, 24, .list true 0 [], []⟩
 | 79 => ⟨.struct [(0, 77), (1, 78), (2, 4), (3, 24), (4, 76)], 5, 72, .agg [.list true 0 [], .list true 0 [], .bool false, .int .i64 0, .nilFunc], []⟩
 | 80 => ⟨.struct [(0, 77), (1, 78), (2, 4), (3, 24), (4, 76)], 5, 72, .agg [.list true 0 [], .list true 0 [], .bool false, .int .i64 0, .nilFunc], []⟩
 | 81 => ⟨.ptr 85, 1, 8, .nilptr, []⟩
 | 82 => ⟨.ptr 124, 1, 8, .nilptr, []⟩
 | 84 => ⟨.struct [(0, 82), (1, 38)], 2, 32, .agg [.nilptr, .list true 0 []], []⟩
 | 85 => ⟨.struct [(0, 82), (1, 38)], 2, 32, .agg [.nilptr, .list true 0 []], []⟩
 | 86 => ⟨.int .i64, 1, 8, .int .i64 0, []⟩
 | 89 => ⟨.struct [(0, 5), (1, 9)], 2, 24, .agg [.int .u8 0, .str []], [.kI .u8, .kS]⟩
 | 90 => ⟨.struct [(0, 5), (1, 9)], 2, 24, .agg [.int .u8 0, .str []], [.kI .u8, .kS]⟩
 | 93 => ⟨.struct [(0, 5), (1, 9), (2, 9), (3, 3)], 4, 48, .agg [.int .u8 0, .str [], .str [], .int .i64 0], [.kI .u8, .kS, .kS, .kI .i64]⟩
 | 106 => ⟨.struct [(0, 5), (1, 4), (2, 4)], 3, 3, .agg [.int .u8 0, .bool false, .bool false], [.kI .u8, .kB, .kB]⟩
 | 107 => ⟨.struct [(0, 5), (1, 4), (2, 4)], 3, 3, .agg [.int .u8 0, .bool false, .bool false], [.kI .u8, .kB, .kB]⟩
 | 109 => ⟨.ptr 107, 1, 8, .nilptr, []⟩
 | 111 => ⟨.struct [(0, 9), (1, 3), (2, 3), (3, 24)], 4, 40, .agg [.str [], .int .i64 0, .int .i64 0, .int .i64 0], [.kS, .kI .i64, .kI .i64, .kI .i64]⟩
 | 112 => ⟨.struct [(0, 9), (1, 3), (2, 3), (3, 24)], 4, 40, .agg [.str [], .int .i64 0, .int .i64 0, .int .i64 0], [.kS, .kI .i64, .kI .i64, .kI .i64]⟩
 | 114 => ⟨.struct [(0, 5), (1, 9)], 2, 24, .agg [.int .u8 0, .str []], [.kI .u8, .kS]⟩
 | 123 => ⟨.struct [(0, 9), (1, 3), (2, 3), (3, 24)], 4, 40, .agg [.str [], .int .i64 0, .int .i64 0, .int .i64 0], [.kS, .kI .i64, .kI .i64, .kI .i64]⟩
 | 124 => ⟨.struct [(0, 9), (1, 3), (2, 3), (3, 24)], 4, 40, .agg [.str [], .int .i64 0, .int .i64 0, .int .i64 0], [.kS, .kI .i64, .kI .i64, .kI .i64]⟩
 | 129 => ⟨.ptr 131, 1, 8, .nilptr, []⟩
 | 130 => ⟨.struct [(0, 82), (1, 77)], 2, 32, .agg [.nilptr, .list true 0 []], []⟩
 | 131 => ⟨.struct [(0, 82), (1, 77)], 2, 32, .agg [.nilptr, .list true 0 []], []⟩
 | 132 => ⟨.struct [(0, 4), (1, 9), (2, 9), (3, 3)], 4, 48, .agg [.bool false, .str [], .str [], .int .i64 0], [.kB, .kS, .kS, .kI .i64]⟩
 | 133 => ⟨.struct [(0, 4), (1, 9), (2, 9), (3, 3)], 4, 48, .agg [.bool false, .str [], .str [], .int .i64 0], [.kB, .kS, .kS, .kI .i64]⟩
 | 136 => ⟨.struct [(0, 9), (1, 9), (2, 9), (3, 3), (4, 24)], 5, 64, .agg [.str [], .str [], .str [], .int .i64 0, .int .i64 0], [.kS, .kS, .kS, .kI .i64, .kI .i64]⟩
 | 137 => ⟨.struct [(0, 9), (1, 9), (2, 9), (3, 3), (4, 24)], 5, 64, .agg [.str [], .str [], .str [], .int .i64 0, .int .i64 0], [.kS, .kS, .kS, .kI .i64, .kI .i64]⟩
 | 143 => ⟨.int .u64, 1, 8, .int .u64 0, []⟩
 | 149 => ⟨.slice 9, 1, 24, .list true 0 [], []⟩
 | 151 => ⟨.map 9 3, 1, 8, .nilmap, [.kS]⟩
 | 169 => ⟨.array 20 5, 20, 20, .agg [.int .u8 0, .int .u8 0, .int .u8 0, .int .u8 0, .int .u8 0, .int .u8 0, .int .u8 0, .int .u8 0, .int .u8 0, .int .u8 0, .int .u8 0, .int .u8 0, .int .u8 0, .int .u8 0, .int .u8 0, .int .u8 0, .int .u8 0, .int .u8 0, .int .u8 0, .int .u8 0], []⟩
 | 174 => ⟨.ptr 176, 1, 8, .nilptr, []⟩
 | 176 => ⟨.struct [(0, 82), (1, 77)], 2, 32, .agg [.nilptr, .list true 0 []], []⟩
 | 180 => ⟨.int .u64, 1, 8, .int .u64 0, []⟩
 | 194 => ⟨.struct [(0, 17), (1, 17), (2, 17), (3, 9)], 4, 40, .agg [.nilptr, .nilptr, .nilptr, .str []], []⟩
 | 195 => ⟨.struct [(0, 17), (1, 17), (2, 17), (3, 9)], 4, 40, .agg [.nilptr, .nilptr, .nilptr, .str []], []⟩
 | 199 => ⟨.int .u32, 1, 4, .int .u32 0, []⟩
 | 200 => ⟨.int .u8, 1, 1, .int .u8 0, []⟩
 | 201 => ⟨.int .u8, 1, 1, .int .u8 0, []⟩
 | 202 => ⟨.func, 1, 8, .nilFunc, []⟩
 | 203 => ⟨.ptr 5, 1, 8, .nilptr, []⟩
 | 204 => ⟨.int .i32, 1, 4, .int .i32 0, []⟩
 | 205 => ⟨.int .i32, 1, 4, .int .i32 0, []⟩
 | 207 => ⟨.struct [(0, 12), (1, 12), (2, 199), (3, 200), (4, 5), (5, 5), (6, 201), (7, 202), (8, 203), (9, 204), (10, 205)], 11, 48, .agg [.int .u64 0, .int .u64 0, .int .u32 0, .int .u8 0, .int .u8 0, .int .u8 0, .int .u8 0, .nilFunc, .nilptr, .int .i32 0, .int .i32 0], []⟩
 | _ => ⟨.other, 0, 0, .undef, []⟩
theorem tt1 : aE Tryz.prog 1 (tt 1) := ⟨⟨_, _, _, Tryz.underlying1⟩, ⟨Tryz.t1, by kernel_rfl, by kernel_rfl, by kernel_rfl, .nilFunc, by kernel_rfl, mb⟩, fun h => absurd rfl h⟩
theorem tt2 : aE Tryz.prog 2 (tt 2) := ⟨Tryz.underlying2, ⟨Tryz.t2, by kernel_rfl, by kernel_rfl, by kernel_rfl, .int .i64 0, by kernel_rfl, aF⟩, fun h => absurd rfl h⟩
theorem tt3 : aE Tryz.prog 3 (tt 3) := ⟨Tryz.underlying3, ⟨Tryz.t3, by kernel_rfl, by kernel_rfl, by kernel_rfl, .int .i64 0, by kernel_rfl, aF⟩, fun h => absurd rfl h⟩
theorem tt4 : aE Tryz.prog 4 (tt 4) := ⟨Tryz.underlying4, ⟨Tryz.t4, by kernel_rfl, by kernel_rfl, by kernel_rfl, .bool false, by kernel_rfl, eM⟩, fun h => absurd rfl h⟩
theorem tt5 : aE Tryz.prog 5 (tt 5) := ⟨Tryz.underlying5, ⟨Tryz.t5, by kernel_rfl, by kernel_rfl, by kernel_rfl, .int .u8 0, by kernel_rfl, aF⟩, fun h => absurd rfl h⟩
theorem tt6 : aE Tryz.prog 6 (tt 6) := ⟨Tryz.underlying6, ⟨Tryz.t6, by kernel_rfl, by kernel_rfl, by kernel_rfl, .int .u8 0, by kernel_rfl, aF⟩, fun h => absurd rfl h⟩
theorem tt7 : aE Tryz.prog 7 (tt 7) := ⟨⟨_, Tryz.underlying7, by kernel_rfl, by kernel_rfl⟩, ⟨Tryz.t7, by kernel_rfl, by kernel_rfl, by kernel_rfl, .agg #[.int .i64 0, .int .i64 0, .bool false, .int .u8 0], by kernel_rfl, bE (ai aF (ai aF (ai eM (ai aF bF))))⟩, fun h => absurd rfl h⟩
theorem tt8 : aE Tryz.prog 8 (tt 8) := ⟨⟨_, Tryz.underlying8, by kernel_rfl, by kernel_rfl⟩, ⟨Tryz.t8, by kernel_rfl, by kernel_rfl, by kernel_rfl, .agg #[.int .i64 0, .int .i64 0, .bool false, .int .u8 0], by kernel_rfl, bE (ai aF (ai aF (ai eM (ai aF bF))))⟩, fun h => absurd rfl h⟩
theorem tt9 : aE Tryz.prog 9 (tt 9) := ⟨Tryz.underlying9, ⟨Tryz.t9, by kernel_rfl, by kernel_rfl, by kernel_rfl, .string ⟨#[]⟩, by kernel_rfl, ct⟩, fun h => absurd rfl h⟩
theorem tt10 : aE Tryz.prog 10 (tt 10) := ⟨Tryz.underlying10, ⟨Tryz.t10, by kernel_rfl, by kernel_rfl, by kernel_rfl, .string ⟨#[]⟩, by kernel_rfl, ct⟩, fun h => absurd rfl h⟩
theorem tt11 : aE Tryz.prog 11 (tt 11) := ⟨Tryz.underlying11, ⟨Tryz.t11, by kernel_rfl, by kernel_rfl, by kernel_rfl, .string ⟨#[]⟩, by kernel_rfl, ct⟩, fun h => absurd rfl h⟩
theorem tt12 : aE Tryz.prog 12 (tt 12) := ⟨Tryz.underlying12, ⟨Tryz.t12, by kernel_rfl, by kernel_rfl, by kernel_rfl, .int .u64 0, by kernel_rfl, aF⟩, fun h => absurd rfl h⟩
theorem tt13 : aE Tryz.prog 13 (tt 13) := ⟨⟨_, Tryz.underlying13, by kernel_rfl, by kernel_rfl⟩, ⟨Tryz.t13, by kernel_rfl, by kernel_rfl, by kernel_rfl, .agg #[.string ⟨#[]⟩, .int .u64 0], by kernel_rfl, bE (ai ct (ai aF bF))⟩, fun h => absurd rfl h⟩
theorem tt14 : aE Tryz.prog 14 (tt 14) := ⟨⟨_, Tryz.underlying14, by kernel_rfl, by kernel_rfl⟩, ⟨Tryz.t14, by kernel_rfl, by kernel_rfl, by kernel_rfl, .agg #[.string ⟨#[]⟩, .int .u64 0], by kernel_rfl, bE (ai ct (ai aF bF))⟩, fun h => absurd rfl h⟩
theorem tt15 : aE Tryz.prog 15 (tt 15) := ⟨Tryz.underlying15, ⟨Tryz.t15, by kernel_rfl, by kernel_rfl, by kernel_rfl, .pointer none, by kernel_rfl, dL⟩, fun h => absurd rfl h⟩
theorem tt16 : aE Tryz.prog 16 (tt 16) := ⟨Tryz.underlying16, ⟨Tryz.t16, by kernel_rfl, by kernel_rfl, by kernel_rfl, .pointer none, by kernel_rfl, dL⟩, fun h => absurd rfl h⟩
theorem tt17 : aE Tryz.prog 17 (tt 17) := ⟨Tryz.underlying17, ⟨Tryz.t17, by kernel_rfl, by kernel_rfl, by kernel_rfl, .pointer none, by kernel_rfl, dL⟩, fun h => absurd rfl h⟩
theorem tt18 : aE Tryz.prog 18 (tt 18) := ⟨⟨_, Tryz.underlying18, by kernel_rfl, by kernel_rfl⟩, ⟨Tryz.t18, by kernel_rfl, by kernel_rfl, by kernel_rfl, .agg #[.pointer none], by kernel_rfl, bE (ai dL bF)⟩, fun h => absurd rfl h⟩
theorem tt19 : aE Tryz.prog 19 (tt 19) := ⟨⟨_, Tryz.underlying19, by kernel_rfl, by kernel_rfl⟩, ⟨Tryz.t19, by kernel_rfl, by kernel_rfl, by kernel_rfl, .agg #[.pointer none], by kernel_rfl, bE (ai dL bF)⟩, fun h => absurd rfl h⟩
theorem tt20 : aE Tryz.prog 20 (tt 20) := ⟨⟨_, Tryz.underlying20⟩, ⟨Tryz.t20, by kernel_rfl, by kernel_rfl, by kernel_rfl, .nilIface, by kernel_rfl, LX⟩, fun h => absurd rfl h⟩
theorem tt21 : aE Tryz.prog 21 (tt 21) := ⟨Tryz.underlying21, ⟨Tryz.t21, by kernel_rfl, by kernel_rfl, by kernel_rfl, .int .i32 0, by kernel_rfl, aF⟩, fun h => absurd rfl h⟩
theorem tt23 : aE Tryz.prog 23 (tt 23) := ⟨Tryz.underlying23, ⟨Tryz.t23, by kernel_rfl, by kernel_rfl, by kernel_rfl, .slice none 0 0, by kernel_rfl, eN⟩, fun h => absurd rfl h⟩
theorem tt24 : aE Tryz.prog 24 (tt 24) := ⟨Tryz.underlying24, ⟨Tryz.t24, by kernel_rfl, by kernel_rfl, by kernel_rfl, .int .i64 0, by kernel_rfl, aF⟩, fun h => absurd rfl h⟩
theorem tt27 : aE Tryz.prog 27 (tt 27) := ⟨⟨_, Tryz.underlying27, by kernel_rfl, by kernel_rfl⟩, ⟨Tryz.t27, by kernel_rfl, by kernel_rfl, by kernel_rfl, .agg #[.int .u8 0, .string ⟨#[]⟩, .string ⟨#[]⟩, .int .i64 0], by kernel_rfl, bE (ai aF (ai ct (ai ct (ai aF bF))))⟩, fun h => dG h (by kernel_rfl) (by kernel_rfl) (by kernel_rfl) (by kernel_rfl)⟩
theorem tt28 : aE Tryz.prog 28 (tt 28) := ⟨⟨_, Tryz.underlying28, by kernel_rfl, by kernel_rfl⟩, ⟨Tryz.t28, by kernel_rfl, by kernel_rfl, by kernel_rfl, .agg #[.int .u8 0, .string ⟨#[]⟩, .string ⟨#[]⟩, .int .i64 0], by kernel_rfl, bE (ai aF (ai ct (ai ct (ai aF bF))))⟩, fun h => dG h (by kernel_rfl) (by kernel_rfl) (by kernel_rfl) (by kernel_rfl)⟩
theorem tt29 : aE Tryz.prog 29 (tt 29) := ⟨Tryz.underlying29, ⟨Tryz.t29, by kernel_rfl, by kernel_rfl, by kernel_rfl, .pointer none, by kernel_rfl, dL⟩, fun h => absurd rfl h⟩
theorem tt31 : aE Tryz.prog 31 (tt 31) := ⟨Tryz.underlying31, ⟨Tryz.t31, by kernel_rfl, by kernel_rfl, by kernel_rfl, .slice none 0 0, by kernel_rfl, eN⟩, fun h => absurd rfl h⟩
theorem tt32 : aE Tryz.prog 32 (tt 32) := ⟨⟨_, _, _, Tryz.underlying32⟩, ⟨Tryz.t32, by kernel_rfl, by kernel_rfl, by kernel_rfl, .nilFunc, by kernel_rfl, mb⟩, fun h => absurd rfl h⟩
theorem tt34 : aE Tryz.prog 34 (tt 34) := ⟨⟨_, Tryz.underlying34, by kernel_rfl, by kernel_rfl⟩, ⟨Tryz.t34, by kernel_rfl, by kernel_rfl, by kernel_rfl, .agg #[.int .u8 0, .string ⟨#[]⟩, .int .i64 0], by kernel_rfl, bE (ai aF (ai ct (ai aF bF)))⟩, fun h => dG h (by kernel_rfl) (by kernel_rfl) (by kernel_rfl) (by kernel_rfl)⟩
theorem tt35 : aE Tryz.prog 35 (tt 35) := ⟨⟨_, Tryz.underlying35, by kernel_rfl, by kernel_rfl⟩, ⟨Tryz.t35, by kernel_rfl, by kernel_rfl, by kernel_rfl, .agg #[.int .u8 0, .string ⟨#[]⟩, .int .i64 0], by kernel_rfl, bE (ai aF (ai ct (ai aF bF)))⟩, fun h => dG h (by kernel_rfl) (by kernel_rfl) (by kernel_rfl) (by kernel_rfl)⟩
theorem tt38 : aE Tryz.prog 38 (tt 38) := ⟨Tryz.underlying38, ⟨Tryz.t38, by kernel_rfl, by kernel_rfl, by kernel_rfl, .slice none 0 0, by kernel_rfl, eN⟩, fun h => absurd rfl h⟩
theorem tt40 : aE Tryz.prog 40 (tt 40) := ⟨⟨_, _, _, Tryz.underlying40⟩, ⟨Tryz.t40, by kernel_rfl, by kernel_rfl, by kernel_rfl, .nilFunc, by kernel_rfl, mb⟩, fun h => absurd rfl h⟩
theorem tt47 : aE Tryz.prog 47 (tt 47) := ⟨⟨_, Tryz.underlying47, by kernel_rfl, by kernel_rfl⟩, ⟨Tryz.t47, by kernel_rfl, by kernel_rfl, by kernel_rfl, .agg #[.string ⟨#[]⟩, .bool false, .int .i64 0], by kernel_rfl, bE (ai ct (ai eM (ai aF bF)))⟩, fun h => dG h (by kernel_rfl) (by kernel_rfl) (by kernel_rfl) (by kernel_rfl)⟩
theorem tt48 : aE Tryz.prog 48 (tt 48) := ⟨⟨_, Tryz.underlying48, by kernel_rfl, by kernel_rfl⟩, ⟨Tryz.t48, by kernel_rfl, by kernel_rfl, by kernel_rfl, .agg #[.string ⟨#[]⟩, .bool false, .int .i64 0], by kernel_rfl, bE (ai ct (ai eM (ai aF bF)))⟩, fun h => dG h (by kernel_rfl) (by kernel_rfl) (by kernel_rfl) (by kernel_rfl)⟩
theorem tt50 : aE Tryz.prog 50 (tt 50) := ⟨⟨_, Tryz.underlying50, by kernel_rfl, by kernel_rfl⟩, ⟨Tryz.t50, by kernel_rfl, by kernel_rfl, by kernel_rfl, .agg #[.int .i64 0, .bool false, .int .i64 0], by kernel_rfl, bE (ai aF (ai eM (ai aF bF)))⟩, fun h => dG h (by kernel_rfl) (by kernel_rfl) (by kernel_rfl) (by kernel_rfl)⟩
theorem tt51 : aE Tryz.prog 51 (tt 51) := ⟨⟨_, Tryz.underlying51, by kernel_rfl, by kernel_rfl⟩, ⟨Tryz.t51, by kernel_rfl, by kernel_rfl, by kernel_rfl, .agg #[.int .i64 0, .bool false, .int .i64 0], by kernel_rfl, bE (ai aF (ai eM (ai aF bF)))⟩, fun h => dG h (by kernel_rfl) (by kernel_rfl) (by kernel_rfl) (by kernel_rfl)⟩
theorem tt53 : aE Tryz.prog 53 (tt 53) := ⟨⟨_, Tryz.underlying53, by kernel_rfl, by kernel_rfl⟩, ⟨Tryz.t53, by kernel_rfl, by kernel_rfl, by kernel_rfl, .agg #[.bool false, .bool false, .int .i64 0], by kernel_rfl, bE (ai eM (ai eM (ai aF bF)))⟩, fun h => dG h (by kernel_rfl) (by kernel_rfl) (by kernel_rfl) (by kernel_rfl)⟩
theorem tt54 : aE Tryz.prog 54 (tt 54) := ⟨⟨_, Tryz.underlying54, by kernel_rfl, by kernel_rfl⟩, ⟨Tryz.t54, by kernel_rfl, by kernel_rfl, by kernel_rfl, .agg #[.bool false, .bool false, .int .i64 0], by kernel_rfl, bE (ai eM (ai eM (ai aF bF)))⟩, fun h => dG h (by kernel_rfl) (by kernel_rfl) (by kernel_rfl) (by kernel_rfl)⟩
theorem tt62 : aE Tryz.prog 62 (tt 62) := ⟨Tryz.underlying62, ⟨Tryz.t62, by kernel_rfl, by kernel_rfl, by kernel_rfl, .slice none 0 0, by kernel_rfl, eN⟩, fun h => absurd rfl h⟩
theorem tt63 : aE Tryz.prog 63 (tt 63) := ⟨⟨_, Tryz.underlying63, by kernel_rfl, by kernel_rfl⟩, ⟨Tryz.t63, by kernel_rfl, by kernel_rfl, by kernel_rfl, .agg #[.slice none 0 0, .bool false, .int .i64 0], by kernel_rfl, bE (ai eN (ai eM (ai aF bF)))⟩, fun h => absurd rfl h⟩
theorem tt64 : aE Tryz.prog 64 (tt 64) := ⟨⟨_, Tryz.underlying64, by kernel_rfl, by kernel_rfl⟩, ⟨Tryz.t64, by kernel_rfl, by kernel_rfl, by kernel_rfl, .agg #[.slice none 0 0, .bool false, .int .i64 0], by kernel_rfl, bE (ai eN (ai eM (ai aF bF)))⟩, fun h => absurd rfl h⟩
theorem tt70 : aE Tryz.prog 70 (tt 70) := ⟨Tryz.underlying70, ⟨Tryz.t70, by kernel_rfl, by kernel_rfl, by kernel_rfl, .slice none 0 0, by kernel_rfl, eN⟩, fun h => absurd rfl h⟩
theorem tt71 : aE Tryz.prog 71 (tt 71) := ⟨⟨_, Tryz.underlying71, by kernel_rfl, by kernel_rfl⟩, ⟨Tryz.t71, by kernel_rfl, by kernel_rfl, by kernel_rfl, .agg #[.slice none 0 0, .int .i64 0], by kernel_rfl, bE (ai eN (ai aF bF))⟩, fun h => absurd rfl h⟩
theorem tt72 : aE Tryz.prog 72 (tt 72) := ⟨⟨_, Tryz.underlying72, by kernel_rfl, by kernel_rfl⟩, ⟨Tryz.t72, by kernel_rfl, by kernel_rfl, by kernel_rfl, .agg #[.slice none 0 0, .int .i64 0], by kernel_rfl, bE (ai eN (ai aF bF))⟩, fun h => absurd rfl h⟩
theorem tt76 : aE Tryz.prog 76 (tt 76) := ⟨⟨_, _, _, Tryz.underlying76⟩, ⟨Tryz.t76, by kernel_rfl, by kernel_rfl, by kernel_rfl, .nilFunc, by kernel_rfl, mb⟩, fun h => absurd rfl h⟩
theorem tt77 : aE Tryz.prog 77 (tt 77) := ⟨Tryz.underlying77, ⟨Tryz.t77, by kernel_rfl, by kernel_rfl, by kernel_rfl, .slice none 0 0, by kernel_rfl, eN⟩, fun h => absurd rfl h⟩
theorem tt78 : aE Tryz.prog 78 (tt 78) := ⟨Tryz.underlying78, ⟨Tryz.t78, by kernel_rfl, by kernel_rfl, by kernel_rfl, .slice none 0 0, by kernel_rfl, eN⟩, fun h => absurd rfl h⟩
theorem tt79 : aE Tryz.prog 79 (tt 79) := ⟨⟨_, Tryz.underlying79, by kernel_rfl, by kernel_rfl⟩, ⟨Tryz.t79, by kernel_rfl, by kernel_rfl, by kernel_rfl, .agg #[.slice none 0 0, .slice none 0 0, .bool false, .int .i64 0, .nilFunc], by kernel_rfl, bE (ai eN (ai eN (ai eM (ai aF (ai mb bF)))))⟩, fun h => absurd rfl h⟩
theorem tt80 : aE Tryz.prog 80 (tt 80) := ⟨⟨_, Tryz.underlying80, by kernel_rfl, by kernel_rfl⟩, ⟨Tryz.t80, by kernel_rfl, by kernel_rfl, by kernel_rfl, .agg #[.slice none 0 0, .slice none 0 0, .bool false, .int .i64 0, .nilFunc], by kernel_rfl, bE (ai eN (ai eN (ai eM (ai aF (ai mb bF)))))⟩, fun h => absurd rfl h⟩
theorem tt81 : aE Tryz.prog 81 (tt 81) := ⟨Tryz.underlying81, ⟨Tryz.t81, by kernel_rfl, by kernel_rfl, by kernel_rfl, .pointer none, by kernel_rfl, dL⟩, fun h => absurd rfl h⟩
theorem tt82 : aE Tryz.prog 82 (tt 82) := ⟨Tryz.underlying82, ⟨Tryz.t82, by kernel_rfl, by kernel_rfl, by kernel_rfl, .pointer none, by kernel_rfl, dL⟩, fun h => absurd rfl h⟩
theorem tt84 : aE Tryz.prog 84 (tt 84) := ⟨⟨_, Tryz.underlying84, by kernel_rfl, by kernel_rfl⟩, ⟨Tryz.t84, by kernel_rfl, by kernel_rfl, by kernel_rfl, .agg #[.pointer none, .slice none 0 0], by kernel_rfl, bE (ai dL (ai eN bF))⟩, fun h => absurd rfl h⟩
theorem tt85 : aE Tryz.prog 85 (tt 85) := ⟨⟨_, Tryz.underlying85, by kernel_rfl, by kernel_rfl⟩, ⟨Tryz.t85, by kernel_rfl, by kernel_rfl, by kernel_rfl, .agg #[.pointer none, .slice none 0 0], by kernel_rfl, bE (ai dL (ai eN bF))⟩, fun h => absurd rfl h⟩
theorem tt86 : aE Tryz.prog 86 (tt 86) := ⟨Tryz.underlying86, ⟨Tryz.t86, by kernel_rfl, by kernel_rfl, by kernel_rfl, .int .i64 0, by kernel_rfl, aF⟩, fun h => absurd rfl h⟩
theorem tt89 : aE Tryz.prog 89 (tt 89) := ⟨⟨_, Tryz.underlying89, by kernel_rfl, by kernel_rfl⟩, ⟨Tryz.t89, by kernel_rfl, by kernel_rfl, by kernel_rfl, .agg #[.int .u8 0, .string ⟨#[]⟩], by kernel_rfl, bE (ai aF (ai ct bF))⟩, fun h => dG h (by kernel_rfl) (by kernel_rfl) (by kernel_rfl) (by kernel_rfl)⟩
theorem tt90 : aE Tryz.prog 90 (tt 90) := ⟨⟨_, Tryz.underlying90, by kernel_rfl, by kernel_rfl⟩, ⟨Tryz.t90, by kernel_rfl, by kernel_rfl, by kernel_rfl, .agg #[.int .u8 0, .string ⟨#[]⟩], by kernel_rfl, bE (ai aF (ai ct bF))⟩, fun h => dG h (by kernel_rfl) (by kernel_rfl) (by kernel_rfl) (by kernel_rfl)⟩
theorem tt93 : aE Tryz.prog 93 (tt 93) := ⟨⟨_, Tryz.underlying93, by kernel_rfl, by kernel_rfl⟩, ⟨Tryz.t93, by kernel_rfl, by kernel_rfl, by kernel_rfl, .agg #[.int .u8 0, .string ⟨#[]⟩, .string ⟨#[]⟩, .int .i64 0], by kernel_rfl, bE (ai aF (ai ct (ai ct (ai aF bF))))⟩, fun h => dG h (by kernel_rfl) (by kernel_rfl) (by kernel_rfl) (by kernel_rfl)⟩
theorem tt106 : aE Tryz.prog 106 (tt 106) := ⟨⟨_, Tryz.underlying106, by kernel_rfl, by kernel_rfl⟩, ⟨Tryz.t106, by kernel_rfl, by kernel_rfl, by kernel_rfl, .agg #[.int .u8 0, .bool false, .bool false], by kernel_rfl, bE (ai aF (ai eM (ai eM bF)))⟩, fun h => dG h (by kernel_rfl) (by kernel_rfl) (by kernel_rfl) (by kernel_rfl)⟩
theorem tt107 : aE Tryz.prog 107 (tt 107) := ⟨⟨_, Tryz.underlying107, by kernel_rfl, by kernel_rfl⟩, ⟨Tryz.t107, by kernel_rfl, by kernel_rfl, by kernel_rfl, .agg #[.int .u8 0, .bool false, .bool false], by kernel_rfl, bE (ai aF (ai eM (ai eM bF)))⟩, fun h => dG h (by kernel_rfl) (by kernel_rfl) (by kernel_rfl) (by kernel_rfl)⟩
theorem tt109 : aE Tryz.prog 109 (tt 109) := ⟨Tryz.underlying109, ⟨Tryz.t109, by kernel_rfl, by kernel_rfl, by kernel_rfl, .pointer none, by kernel_rfl, dL⟩, fun h => absurd rfl h⟩
theorem tt111 : aE Tryz.prog 111 (tt 111) := ⟨⟨_, Tryz.underlying111, by kernel_rfl, by kernel_rfl⟩, ⟨Tryz.t111, by kernel_rfl, by kernel_rfl, by kernel_rfl, .agg #[.string ⟨#[]⟩, .int .i64 0, .int .i64 0, .int .i64 0], by kernel_rfl, bE (ai ct (ai aF (ai aF (ai aF bF))))⟩, fun h => dG h (by kernel_rfl) (by kernel_rfl) (by kernel_rfl) (by kernel_rfl)⟩
theorem tt112 : aE Tryz.prog 112 (tt 112) := ⟨⟨_, Tryz.underlying112, by kernel_rfl, by kernel_rfl⟩, ⟨Tryz.t112, by kernel_rfl, by kernel_rfl, by kernel_rfl, .agg #[.string ⟨#[]⟩, .int .i64 0, .int .i64 0, .int .i64 0], by kernel_rfl, bE (ai ct (ai aF (ai aF (ai aF bF))))⟩, fun h => dG h (by kernel_rfl) (by kernel_rfl) (by kernel_rfl) (by kernel_rfl)⟩
theorem tt114 : aE Tryz.prog 114 (tt 114) := ⟨⟨_, Tryz.underlying114, by kernel_rfl, by kernel_rfl⟩, ⟨Tryz.t114, by kernel_rfl, by kernel_rfl, by kernel_rfl, .agg #[.int .u8 0, .string ⟨#[]⟩], by kernel_rfl, bE (ai aF (ai ct bF))⟩, fun h => dG h (by kernel_rfl) (by kernel_rfl) (by kernel_rfl) (by kernel_rfl)⟩
theorem tt123 : aE Tryz.prog 123 (tt 123) := ⟨⟨_, Tryz.underlying123, by kernel_rfl, by kernel_rfl⟩, ⟨Tryz.t123, by kernel_rfl, by kernel_rfl, by kernel_rfl, .agg #[.string ⟨#[]⟩, .int .i64 0, .int .i64 0, .int .i64 0], by kernel_rfl, bE (ai ct (ai aF (ai aF (ai aF bF))))⟩, fun h => dG h (by kernel_rfl) (by kernel_rfl) (by kernel_rfl) (by kernel_rfl)⟩
theorem tt124 : aE Tryz.prog 124 (tt 124) := ⟨⟨_, Tryz.underlying124, by kernel_rfl, by kernel_rfl⟩, ⟨Tryz.t124, by kernel_rfl, by kernel_rfl, by kernel_rfl, .agg #[.string ⟨#[]⟩, .int .i64 0, .int .i64 0, .int .i64 0], by kernel_rfl, bE (ai ct (ai aF (ai aF (ai aF bF))))⟩, fun h => dG h (by kernel_rfl) (by kernel_rfl) (by kernel_rfl) (by kernel_rfl)⟩
theorem tt129 : aE Tryz.prog 129 (tt 129) := ⟨Tryz.underlying129, ⟨Tryz.t129, by kernel_rfl, by kernel_rfl, by kernel_rfl, .pointer none, by kernel_rfl, dL⟩, fun h => absurd rfl h⟩
theorem tt130 : aE Tryz.prog 130 (tt 130) := ⟨⟨_, Tryz.underlying130, by kernel_rfl, by kernel_rfl⟩, ⟨Tryz.t130, by kernel_rfl, by kernel_rfl, by kernel_rfl, .agg #[.pointer none, .slice none 0 0], by kernel_rfl, bE (ai dL (ai eN bF))⟩, fun h => absurd rfl h⟩
theorem tt131 : aE Tryz.prog 131 (tt 131) := ⟨⟨_, Tryz.underlying131, by kernel_rfl, by kernel_rfl⟩, ⟨Tryz.t131, by kernel_rfl, by kernel_rfl, by kernel_rfl, .agg #[.pointer none, .slice none 0 0], by kernel_rfl, bE (ai dL (ai eN bF))⟩, fun h => absurd rfl h⟩
theorem tt132 : aE Tryz.prog 132 (tt 132) := ⟨⟨_, Tryz.underlying132, by kernel_rfl, by kernel_rfl⟩, ⟨Tryz.t132, by kernel_rfl, by kernel_rfl, by kernel_rfl, .agg #[.bool false, .string ⟨#[]⟩, .string ⟨#[]⟩, .int .i64 0], by kernel_rfl, bE (ai eM (ai ct (ai ct (ai aF bF))))⟩, fun h => dG h (by kernel_rfl) (by kernel_rfl) (by kernel_rfl) (by kernel_rfl)⟩
theorem tt133 : aE Tryz.prog 133 (tt 133) := ⟨⟨_, Tryz.underlying133, by kernel_rfl, by kernel_rfl⟩, ⟨Tryz.t133, by kernel_rfl, by kernel_rfl, by kernel_rfl, .agg #[.bool false, .string ⟨#[]⟩, .string ⟨#[]⟩, .int .i64 0], by kernel_rfl, bE (ai eM (ai ct (ai ct (ai aF bF))))⟩, fun h => dG h (by kernel_rfl) (by kernel_rfl) (by kernel_rfl) (by kernel_rfl)⟩
theorem tt136 : aE Tryz.prog 136 (tt 136) := ⟨⟨_, Tryz.underlying136, by kernel_rfl, by kernel_rfl⟩, ⟨Tryz.t136, by kernel_rfl, by kernel_rfl, by kernel_rfl, .agg #[.string ⟨#[]⟩, .string ⟨#[]⟩, .string ⟨#[]⟩, .int .i64 0, .int .i64 0], by kernel_rfl, bE (ai ct (ai ct (ai ct (ai aF (ai aF bF)))))⟩, fun h => dG h (by kernel_rfl) (by kernel_rfl) (by kernel_rfl) (by kernel_rfl)⟩
theorem tt137 : aE Tryz.prog 137 (tt 137) := ⟨⟨_, Tryz.underlying137, by kernel_rfl, by kernel_rfl⟩, ⟨Tryz.t137, by kernel_rfl, by kernel_rfl, by kernel_rfl, .agg #[.string ⟨#[]⟩, .string ⟨#[]⟩, .string ⟨#[]⟩, .int .i64 0, .int .i64 0], by kernel_rfl, bE (ai ct (ai ct (ai ct (ai aF (ai aF bF)))))⟩, fun h => dG h (by kernel_rfl) (by kernel_rfl) (by kernel_rfl) (by kernel_rfl)⟩
theorem tt143 : aE Tryz.prog 143 (tt 143) := ⟨Tryz.underlying143, ⟨Tryz.t143, by kernel_rfl, by kernel_rfl, by kernel_rfl, .int .u64 0, by kernel_rfl, aF⟩, fun h => absurd rfl h⟩
theorem tt149 : aE Tryz.prog 149 (tt 149) := ⟨Tryz.underlying149, ⟨Tryz.t149, by kernel_rfl, by kernel_rfl, by kernel_rfl, .slice none 0 0, by kernel_rfl, eN⟩, fun h => absurd rfl h⟩
theorem tt151 : aE Tryz.prog 151 (tt 151) := ⟨Tryz.underlying151, ⟨Tryz.t151, by kernel_rfl, by kernel_rfl, by kernel_rfl, .map none, by kernel_rfl, zMap⟩, fun _ => Io Tryz.underlying9⟩
theorem tt169 : aE Tryz.prog 169 (tt 169) := ⟨Tryz.underlying169, ⟨Tryz.t169, by kernel_rfl, by kernel_rfl, by kernel_rfl, .agg #[.int .u8 0, .int .u8 0, .int .u8 0, .int .u8 0, .int .u8 0, .int .u8 0, .int .u8 0, .int .u8 0, .int .u8 0, .int .u8 0, .int .u8 0, .int .u8 0, .int .u8 0, .int .u8 0, .int .u8 0, .int .u8 0, .int .u8 0, .int .u8 0, .int .u8 0, .int .u8 0], by kernel_rfl, bE (ai aF (ai aF (ai aF (ai aF (ai aF (ai aF (ai aF (ai aF (ai aF (ai aF (ai aF (ai aF (ai aF (ai aF (ai aF (ai aF (ai aF (ai aF (ai aF (ai aF bF))))))))))))))))))))⟩, fun h => absurd rfl h⟩
theorem tt174 : aE Tryz.prog 174 (tt 174) := ⟨Tryz.underlying174, ⟨Tryz.t174, by kernel_rfl, by kernel_rfl, by kernel_rfl, .pointer none, by kernel_rfl, dL⟩, fun h => absurd rfl h⟩
theorem tt176 : aE Tryz.prog 176 (tt 176) := ⟨⟨_, Tryz.underlying176, by kernel_rfl, by kernel_rfl⟩, ⟨Tryz.t176, by kernel_rfl, by kernel_rfl, by kernel_rfl, .agg #[.pointer none, .slice none 0 0], by kernel_rfl, bE (ai dL (ai eN bF))⟩, fun h => absurd rfl h⟩
theorem tt180 : aE Tryz.prog 180 (tt 180) := ⟨Tryz.underlying180, ⟨Tryz.t180, by kernel_rfl, by kernel_rfl, by kernel_rfl, .int .u64 0, by kernel_rfl, aF⟩, fun h => absurd rfl h⟩
theorem tt194 : aE Tryz.prog 194 (tt 194) := ⟨⟨_, Tryz.underlying194, by kernel_rfl, by kernel_rfl⟩, ⟨Tryz.t194, by kernel_rfl, by kernel_rfl, by kernel_rfl, .agg #[.pointer none, .pointer none, .pointer none, .string ⟨#[]⟩], by kernel_rfl, bE (ai dL (ai dL (ai dL (ai ct bF))))⟩, fun h => absurd rfl h⟩
theorem tt195 : aE Tryz.prog 195 (tt 195) := ⟨⟨_, Tryz.underlying195, by kernel_rfl, by kernel_rfl⟩, ⟨Tryz.t195, by kernel_rfl, by kernel_rfl, by kernel_rfl, .agg #[.pointer none, .pointer none, .pointer none, .string ⟨#[]⟩], by kernel_rfl, bE (ai dL (ai dL (ai dL (ai ct bF))))⟩, fun h => absurd rfl h⟩
theorem tt199 : aE Tryz.prog 199 (tt 199) := ⟨Tryz.underlying199, ⟨Tryz.t199, by kernel_rfl, by kernel_rfl, by kernel_rfl, .int .u32 0, by kernel_rfl, aF⟩, fun h => absurd rfl h⟩
theorem tt200 : aE Tryz.prog 200 (tt 200) := ⟨Tryz.underlying200, ⟨Tryz.t200, by kernel_rfl, by kernel_rfl, by kernel_rfl, .int .u8 0, by kernel_rfl, aF⟩, fun h => absurd rfl h⟩
theorem tt201 : aE Tryz.prog 201 (tt 201) := ⟨Tryz.underlying201, ⟨Tryz.t201, by kernel_rfl, by kernel_rfl, by kernel_rfl, .int .u8 0, by kernel_rfl, aF⟩, fun h => absurd rfl h⟩
theorem tt202 : aE Tryz.prog 202 (tt 202) := ⟨⟨_, _, _, Tryz.underlying202⟩, ⟨Tryz.t202, by kernel_rfl, by kernel_rfl, by kernel_rfl, .nilFunc, by kernel_rfl, mb⟩, fun h => absurd rfl h⟩
theorem tt203 : aE Tryz.prog 203 (tt 203) := ⟨Tryz.underlying203, ⟨Tryz.t203, by kernel_rfl, by kernel_rfl, by kernel_rfl, .pointer none, by kernel_rfl, dL⟩, fun h => absurd rfl h⟩
theorem tt204 : aE Tryz.prog 204 (tt 204) := ⟨Tryz.underlying204, ⟨Tryz.t204, by kernel_rfl, by kernel_rfl, by kernel_rfl, .int .i32 0, by kernel_rfl, aF⟩, fun h => absurd rfl h⟩
theorem tt205 : aE Tryz.prog 205 (tt 205) := ⟨Tryz.underlying205, ⟨Tryz.t205, by kernel_rfl, by kernel_rfl, by kernel_rfl, .int .i32 0, by kernel_rfl, aF⟩, fun h => absurd rfl h⟩
theorem tt207 : aE Tryz.prog 207 (tt 207) := ⟨⟨_, Tryz.underlying207, by kernel_rfl, by kernel_rfl⟩, ⟨Tryz.t207, by kernel_rfl, by kernel_rfl, by kernel_rfl, .agg #[.int .u64 0, .int .u64 0, .int .u32 0, .int .u8 0, .int .u8 0, .int .u8 0, .int .u8 0, .nilFunc, .pointer none, .int .i32 0, .int .i32 0], by kernel_rfl, bE (ai aF (ai aF (ai aF (ai aF (ai aF (ai aF (ai aF (ai mb (ai dL (ai aF (ai aF bF)))))))))))⟩, fun h => absurd rfl h⟩
theorem oT : ∀ t, aE Tryz.prog t (tt t) := fun t => by
 unfold tt
 split
 . exact tt1
 . exact tt2
 . exact tt3
 . exact tt4
 . exact tt5
 . exact tt6
 . exact tt7
 . exact tt8
 . exact tt9
 . exact tt10
 . exact tt11
 . exact tt12
 . exact tt13
 . exact tt14
 . exact tt15
 . exact tt16
 . exact tt17
 . exact tt18
 . exact tt19
 . exact tt20
 . exact tt21
 . exact tt23
 . exact tt24
 . exact tt27
 . exact tt28
 . exact tt29
 . exact tt31
 . exact tt32
 . exact tt34
 . exact tt35
 . exact tt38
 . exact tt40
 . exact tt47
 . exact tt48
 . exact tt50
 . exact tt51
 . exact tt53
 . exact tt54
 . exact tt62
 . exact tt63
 . exact tt64
 . exact tt70
 . exact tt71
 . exact tt72
 . exact tt76
 . exact tt77
 . exact tt78
 . exact tt79
 . exact tt80
 . exact tt81
 . exact tt82
 . exact tt84
 . exact tt85
 . exact tt86
 . exact tt89
 . exact tt90
 . exact tt93
 . exact tt106
 . exact tt107
 . exact tt109
 . exact tt111
 . exact tt112
 . exact tt114
 . exact tt123
 . exact tt124
 . exact tt129
 . exact tt130
 . exact tt131
 . exact tt132
 . exact tt133
 . exact tt136
 . exact tt137
 . exact tt143
 . exact tt149
 . exact tt151
 . exact tt169
 . exact tt174
 . exact tt176
 . exact tt180
 . exact tt194
 . exact tt195
 . exact tt199
 . exact tt200
 . exact tt201
 . exact tt202
 . exact tt203
 . exact tt204
 . exact tt205
 . exact tt207
 . trivial
def nr : TypeId → Bool := fun t => match t with
 | 2 => true
 | 3 => true
 | 4 => true
 | 5 => true
 | 6 => true
 | 7 => true
 | 8 => true
 | 9 => true
 | 10 => true
 | 11 => true
 | 12 => true
 | 13 => true
 | 14 => true
 | 21 => true
 | 23 => true
 | 24 => true
 | 27 => true
 | 28 => true
 | 31 => true
 | 34 => true
 | 35 => true
 | 38 => true
 | 47 => true
 | 48 => true
 | 50 => true
 | 51 => true
 | 53 => true
 | 54 => true
 | 62 => true
 | 63 => true
 | 64 => true
 | 70 => true
 | 71 => true
 | 72 => true
 | 77 => true
 | 78 => true
 | 86 => true
 | 89 => true
 | 90 => true
 | 93 => true
 | 106 => true
 | 107 => true
 | 111 => true
 | 112 => true
 | 114 => true
 | 123 => true
 | 124 => true
 | 132 => true
 | 133 => true
 | 136 => true
 | 137 => true
 | 143 => true
 | 149 => true
 | 169 => true
 | 180 => true
 | 199 => true
 | 200 => true
 | 201 => true
 | 204 => true
 | 205 => true
 | _ => false
theorem DD : nb Tryz.prog tt nr where
 tys := oT
 kids := fun t h => by
  unfold nr at h; split at h <;> first | (cases h; done) | rfl
 pos := fun t h => by
  unfold nr at h; split at h <;> first
   | (cases h; done)
   | exact .inl ⟨_, rfl, by decide⟩
   | (refine .inr (.inr (And.intro ?_ ?_)) <;> (intro e hh; cases hh))
 fields := fun t fs h k => by
  unfold nr at h; split at h <;> first
   | (cases h; done)
   | (cases k; rfl)
   | (cases k; done)
 array := fun t m e h k => by
  unfold nr at h; split at h <;> first
   | (cases h; done)
   | (cases k; rfl)
   | (cases k; done)
end Go.Proofs.YtllncocibkgjkaaGreat
