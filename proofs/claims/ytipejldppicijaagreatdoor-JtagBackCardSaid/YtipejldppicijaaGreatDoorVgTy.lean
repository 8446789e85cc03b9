/-
  A part of the proof.
-/
import Derived.Test.YtipejldppicijaaGreatDoorVgX
import Derived.Test.YtipejldppicijaaGreatDoorVgMA
import Derived.Test.YtipejldppicijaaGreatDoorProg
import Derived.KernelRfl
set_option maxHeartbeats 4000000
namespace Go.Proofs.YtipejldppicijaaGreatDoor
open Go Go.VG
set_option maxRecDepth 100000
def tt : TypeId → TI := fun t => match t with
 | 1 => ⟨.func, 1, 8, .nilFunc, []⟩
 | 2 => ⟨.int .i64, 1, 8, .int .i64 0, []⟩
 | 3 => ⟨.int .i64, 1, 8, .int .i64 0, []⟩
 | 4 => ⟨.bool, 1, 1, .bool false, []⟩
 | 5 => ⟨.int .u8, 1, 1, .int .u8 0, []⟩
 | 6 => ⟨.int .u8, 1, 1, .int .u8 0, []⟩
 | 7 => ⟨.struct [(0, 2), (1, 3), (2, 4), (3, 6)], 4, 24, .agg [.int .i64 0, .int .i64 0, .bool false, .int .u8 0], []⟩
 | 8 => ⟨.struct [(0, 2), (1, 3), (2, 4), (3, 6)], 4, 24, .agg [.int .i64 0, .int .i64 0, .bool false, .int .u8 0], []⟩
 | 9 => ⟨.string, 1, 16, .str [], []⟩
 | 10 => ⟨.string, 1, 16, .str [], []⟩
 | 11 => ⟨.string, 1, 16, .str [], []⟩
 | 12 => ⟨.int .u64, 1, 8, .int .u64 0, []⟩
 | 13 => ⟨.struct [(0, 9), (1, 12)], 2, 24, .agg [.str [], .int .u64 0], []⟩
 | 14 => ⟨.struct [(0, 9), (1, 12)], 2, 24, .agg [.str [], .int .u64 0], []⟩
 | 15 => ⟨.ptr 232, 1, 8, .nilptr, []⟩
 | 16 => ⟨.ptr 235, 1, 8, .nilptr, []⟩
 | 17 => ⟨.ptr 244, 1, 8, .nilptr, []⟩
 | 18 => ⟨.struct [(0, 17)], 1, 8, .agg [.nilptr], []⟩
 | 19 => ⟨.struct [(0, 17)], 1, 8, .agg [.nilptr], []⟩
 | 20 => ⟨.iface, 1, 16, .nilIface, []⟩
 | 21 => ⟨.int .i32, 1, 4, .int .i32 0, []⟩
 | 23 => ⟨.int .u64, 1, 8, .int .u64 0, []⟩
 | 24 => ⟨.slice 27, 1, 24, .list true 0 [], []⟩
 | 25 => ⟨.slice 29, 1, 24, .list true 0 [], []⟩
 | 26 => ⟨.struct [(0, 5), (1, 9), (2, 3), (3, 23), (4, 24), (5, 25)], 6, 88, .agg [.int .u8 0, .str [], .int .i64 0, .int .u64 0, .list true 0 [], .list true 0 []], []⟩
 | 27 => ⟨.struct [(0, 5), (1, 9), (2, 3), (3, 23), (4, 24), (5, 25)], 6, 88, .agg [.int .u8 0, .str [], .int .i64 0, .int .u64 0, .list true 0 [], .list true 0 []], []⟩
 | 28 => ⟨.struct [(0, 9), (1, 27)], 7, 104, .agg [.str [], .int .u8 0, .str [], .int .i64 0, .int .u64 0, .list true 0 [], .list true 0 []], []⟩
 | 29 => ⟨.struct [(0, 9), (1, 27)], 7, 104, .agg [.str [], .int .u8 0, .str [], .int .i64 0, .int .u64 0, .list true 0 [], .list true 0 []], []⟩
 | 30 => ⟨.int .i64, 1, 8, .int .i64 0, []⟩
 | 32 => ⟨.func, 1, 8, .nilFunc, []⟩
 | 34 => ⟨.slice 69, 1, 24, .list true 0 [], []⟩
 | 37 => ⟨.slice 74, 1, 24, .list true 0 [], []⟩
 | 43 => ⟨.slice 9, 1, 24, .list true 0 [], []⟩
 | 48 => ⟨.func, 1, 8, .nilFunc, []⟩
 | 54 => ⟨.slice 58, 1, 24, .list true 0 [], []⟩
 | 56 => ⟨.func, 1, 8, .nilFunc, []⟩
 | 57 => ⟨.struct [(0, 5), (1, 3), (2, 3), (3, 5), (4, 23), (5, 9)], 6, 56, .agg [.int .u8 0, .int .i64 0, .int .i64 0, .int .u8 0, .int .u64 0, .str []], [.kI .u8, .kI .i64, .kI .i64, .kI .u8, .kI .u64, .kS]⟩
 | 58 => ⟨.struct [(0, 5), (1, 3), (2, 3), (3, 5), (4, 23), (5, 9)], 6, 56, .agg [.int .u8 0, .int .i64 0, .int .i64 0, .int .u8 0, .int .u64 0, .str []], [.kI .u8, .kI .i64, .kI .i64, .kI .u8, .kI .u64, .kS]⟩
 | 62 => ⟨.ptr 118, 1, 8, .nilptr, []⟩
 | 64 => ⟨.func, 1, 8, .nilFunc, []⟩
 | 68 => ⟨.struct [(0, 3), (1, 5), (2, 3), (3, 23), (4, 9), (5, 9)], 6, 64, .agg [.int .i64 0, .int .u8 0, .int .i64 0, .int .u64 0, .str [], .str []], [.kI .i64, .kI .u8, .kI .i64, .kI .u64, .kS, .kS]⟩
 | 69 => ⟨.struct [(0, 3), (1, 5), (2, 3), (3, 23), (4, 9), (5, 9)], 6, 64, .agg [.int .i64 0, .int .u8 0, .int .i64 0, .int .u64 0, .str [], .str []], [.kI .i64, .kI .u8, .kI .i64, .kI .u64, .kS, .kS]⟩
 | 74 => ⟨.struct [(0, 3), (1, 5), (2, 3), (3, 23), (4, 9), (5, 9)], 6, 64, .agg [.int .i64 0, .int .u8 0, .int .i64 0, .int .u64 0, .str [], .str []], [.kI .i64, .kI .u8, .kI .i64, .kI .u64, .kS, .kS]⟩
 | 77 => ⟨.ptr 83, 1, 8, .nilptr, []⟩
 | 81 => ⟨.ptr 146, 1, 8, .nilptr, []⟩
 | 82 => ⟨.struct [(0, 9), (1, 81)], 2, 24, .agg [.str [], .nilptr], []⟩
 | 83 => ⟨.struct [(0, 9), (1, 81)], 2, 24, .agg [.str [], .nilptr], []⟩
 | 85 => ⟨.ptr 69, 1, 8, .nilptr, []⟩
 | 88 => ⟨.struct [(0, 9), (1, 3), (2, 3), (3, 30)], 4, 40, .agg [.str [], .int .i64 0, .int .i64 0, .int .i64 0], [.kS, .kI .i64, .kI .i64, .kI .i64]⟩
 | 89 => ⟨.struct [(0, 9), (1, 3), (2, 3), (3, 30)], 4, 40, .agg [.str [], .int .i64 0, .int .i64 0, .int .i64 0], [.kS, .kI .i64, .kI .i64, .kI .i64]⟩
 | 104 => ⟨.func, 1, 8, .nilFunc, []⟩
 | 105 => ⟨.slice 181, 1, 24, .list true 0 [], []⟩
 | 106 => ⟨.struct [(0, 9), (1, 105), (2, 30)], 3, 48, .agg [.str [], .list true 0 [], .int .i64 0], []⟩
 | 107 => ⟨.struct [(0, 9), (1, 105), (2, 30)], 3, 48, .agg [.str [], .list true 0 [], .int .i64 0], []⟩
 | 115 => ⟨.slice 5, 1, 24, .list true 0 [], []⟩
 | 116 => ⟨.slice 173, 1, 24, .list true 0 [], []⟩
 | 117 => ⟨.struct [(0, 115), (1, 116), (2, 30)], 3, 56, .agg [.list true 0 [], .list true 0 [], .int .i64 0], []⟩
 | 118 => ⟨.struct [(0, 115), (1, 116), (2, 30)], 3, 56, .agg [.list true 0 [], .list true 0 [], .int .i64 0], []⟩
 | 119 => ⟨.iface, 1, 16, .nilIface, []⟩
 | 120 => ⟨.iface, 1, 16, .nilIface, []⟩
 | 124 => ⟨.string, 1, 16, .str [], []⟩
 | 125 => ⟨.int .u64, 1, 8, .int .u64 0, []⟩
 | 127 => ⟨.bool, 1, 1, .bool false, []⟩
 | 129 => ⟨.int .i64, 1, 8, .int .i64 0, []⟩
 | 130 => ⟨.string, 1, 16, .str [], []⟩
 | 132 => ⟨.array 5 3, 5, 40, .agg [.int .i64 0, .int .i64 0, .int .i64 0, .int .i64 0, .int .i64 0], []⟩
 | 133 => ⟨.array 5 5, 5, 5, .agg [.int .u8 0, .int .u8 0, .int .u8 0, .int .u8 0, .int .u8 0], []⟩
 | 138 => ⟨.int .u64, 1, 8, .int .u64 0, []⟩
 | 145 => ⟨.struct [(0, 9), (1, 3), (2, 3), (3, 30)], 4, 40, .agg [.str [], .int .i64 0, .int .i64 0, .int .i64 0], [.kS, .kI .i64, .kI .i64, .kI .i64]⟩
 | 146 => ⟨.struct [(0, 9), (1, 3), (2, 3), (3, 30)], 4, 40, .agg [.str [], .int .i64 0, .int .i64 0, .int .i64 0], [.kS, .kI .i64, .kI .i64, .kI .i64]⟩
 | 172 => ⟨.struct [(0, 4), (1, 3), (2, 3), (3, 5)], 4, 32, .agg [.bool false, .int .i64 0, .int .i64 0, .int .u8 0], [.kB, .kI .i64, .kI .i64, .kI .u8]⟩
 | 173 => ⟨.struct [(0, 4), (1, 3), (2, 3), (3, 5)], 4, 32, .agg [.bool false, .int .i64 0, .int .i64 0, .int .u8 0], [.kB, .kI .i64, .kI .i64, .kI .u8]⟩
 | 175 => ⟨.ptr 173, 1, 8, .nilptr, []⟩
 | 180 => ⟨.struct [(0, 4), (1, 3), (2, 3), (3, 5)], 4, 32, .agg [.bool false, .int .i64 0, .int .i64 0, .int .u8 0], [.kB, .kI .i64, .kI .i64, .kI .u8]⟩
 | 181 => ⟨.struct [(0, 4), (1, 3), (2, 3), (3, 5)], 4, 32, .agg [.bool false, .int .i64 0, .int .i64 0, .int .u8 0], [.kB, .kI .i64, .kI .i64, .kI .u8]⟩
 | 207 => ⟨.string, 1, 16, .str [], []⟩
 | 208 => ⟨.string, 1, 16, .str [], []⟩
 | 210 => ⟨.array 8 5, 8, 8, .agg [.int .u8 0, .int .u8 0, .int .u8 0, .int .u8 0, .int .u8 0, .int .u8 0, .int .u8 0, .int .u8 0], []⟩
 | 213 => ⟨.struct [(0, 81)], 1, 8, .agg [.nilptr], []⟩
 | 217 => ⟨.slice 27, 1, 24, .list true 0 [], []⟩
 | 218 => ⟨.slice 29, 1, 24, .list true 0 [], []⟩
 | 228 => ⟨.array 20 5, 20, 20, .agg [.int .u8 0, .int .u8 0, .int .u8 0, .int .u8 0, .int .u8 0, .int .u8 0, .int .u8 0, .int .u8 0, .int .u8 0, .int .u8 0, .int .u8 0, .int .u8 0, .int .u8 0, .int .u8 0, .int .u8 0, .int .u8 0, .int .u8 0, .int .u8 0, .int .u8 0, .int .u8 0], []⟩
 | 232 => ⟨.struct [(0, 17), (1, 17), (2, 17), (3, 9)], 4, 40, .agg [.nilptr, .nilptr, .nilptr, .str []], []⟩
 | 236 => ⟨.int .u32, 1, 4, .int .u32 0, []⟩
 | 237 => ⟨.int .u8, 1, 1, .int .u8 0, []⟩
 | 238 => ⟨.int .u8, 1, 1, .int .u8 0, []⟩
 | 239 => ⟨.func, 1, 8, .nilFunc, []⟩
 | 240 => ⟨.ptr 5, 1, 8, .nilptr, []⟩
 | 241 => ⟨.int .i32, 1, 4, .int .i32 0, []⟩
 | 242 => ⟨.int .i32, 1, 4, .int .i32 0, []⟩
 | 244 => ⟨.struct [(0, 12), (1, 12), (2, 236), (3, 237), (4, 5), (5, 5), (6, 238), (7, 239), (8, 240), (9, 241), (10, 242)], 11, 48, .agg [.int .u64 0, .int .u64 0, .int .u32 0, .int .u8 0, .int .u8 0, .int .u8 0, .int .u8 0, .nilFunc, .nilptr, .int .i32 0, .int .i32 0], []⟩
 | _ => ⟨.other, 0, 0, .undef, []⟩
theorem tt1 : ay Tryz.prog 1 (tt 1) := ⟨⟨_, _, _, Tryz.underlying1⟩, ⟨Tryz.t1, by kernel_rfl, by kernel_rfl, by kernel_rfl, .nilFunc, by kernel_rfl, lT⟩, fun h => absurd rfl h⟩
theorem tt2 : ay Tryz.prog 2 (tt 2) := ⟨Tryz.underlying2, ⟨Tryz.t2, by kernel_rfl, by kernel_rfl, by kernel_rfl, .int .i64 0, by kernel_rfl, ao⟩, fun h => absurd rfl h⟩
theorem tt3 : ay Tryz.prog 3 (tt 3) := ⟨Tryz.underlying3, ⟨Tryz.t3, by kernel_rfl, by kernel_rfl, by kernel_rfl, .int .i64 0, by kernel_rfl, ao⟩, fun h => absurd rfl h⟩
theorem tt4 : ay Tryz.prog 4 (tt 4) := ⟨Tryz.underlying4, ⟨Tryz.t4, by kernel_rfl, by kernel_rfl, by kernel_rfl, .bool false, by kernel_rfl, lS⟩, fun h => absurd rfl h⟩
theorem tt5 : ay Tryz.prog 5 (tt 5) := ⟨Tryz.underlying5, ⟨Tryz.t5, by kernel_rfl, by kernel_rfl, by kernel_rfl, .int .u8 0, by kernel_rfl, ao⟩, fun h => absurd rfl h⟩
theorem tt6 : ay Tryz.prog 6 (tt 6) := ⟨Tryz.underlying6, ⟨Tryz.t6, by kernel_rfl, by kernel_rfl, by kernel_rfl, .int .u8 0, by kernel_rfl, ao⟩, fun h => absurd rfl h⟩
theorem tt7 : ay Tryz.prog 7 (tt 7) := ⟨⟨_, Tryz.underlying7, by kernel_rfl, by kernel_rfl⟩, ⟨Tryz.t7, by kernel_rfl, by kernel_rfl, by kernel_rfl, .agg #[.int .i64 0, .int .i64 0, .bool false, .int .u8 0], by kernel_rfl, bV (ai ao (ai ao (ai lS (ai ao bW))))⟩, fun h => absurd rfl h⟩
theorem tt8 : ay Tryz.prog 8 (tt 8) := ⟨⟨_, Tryz.underlying8, by kernel_rfl, by kernel_rfl⟩, ⟨Tryz.t8, by kernel_rfl, by kernel_rfl, by kernel_rfl, .agg #[.int .i64 0, .int .i64 0, .bool false, .int .u8 0], by kernel_rfl, bV (ai ao (ai ao (ai lS (ai ao bW))))⟩, fun h => absurd rfl h⟩
theorem tt9 : ay Tryz.prog 9 (tt 9) := ⟨Tryz.underlying9, ⟨Tryz.t9, by kernel_rfl, by kernel_rfl, by kernel_rfl, .string ⟨#[]⟩, by kernel_rfl, cq⟩, fun h => absurd rfl h⟩
theorem tt10 : ay Tryz.prog 10 (tt 10) := ⟨Tryz.underlying10, ⟨Tryz.t10, by kernel_rfl, by kernel_rfl, by kernel_rfl, .string ⟨#[]⟩, by kernel_rfl, cq⟩, fun h => absurd rfl h⟩
theorem tt11 : ay Tryz.prog 11 (tt 11) := ⟨Tryz.underlying11, ⟨Tryz.t11, by kernel_rfl, by kernel_rfl, by kernel_rfl, .string ⟨#[]⟩, by kernel_rfl, cq⟩, fun h => absurd rfl h⟩
theorem tt12 : ay Tryz.prog 12 (tt 12) := ⟨Tryz.underlying12, ⟨Tryz.t12, by kernel_rfl, by kernel_rfl, by kernel_rfl, .int .u64 0, by kernel_rfl, ao⟩, fun h => absurd rfl h⟩
theorem tt13 : ay Tryz.prog 13 (tt 13) := ⟨⟨_, Tryz.underlying13, by kernel_rfl, by kernel_rfl⟩, ⟨Tryz.t13, by kernel_rfl, by kernel_rfl, by kernel_rfl, .agg #[.string ⟨#[]⟩, .int .u64 0], by kernel_rfl, bV (ai cq (ai ao bW))⟩, fun h => absurd rfl h⟩
theorem tt14 : ay Tryz.prog 14 (tt 14) := ⟨⟨_, Tryz.underlying14, by kernel_rfl, by kernel_rfl⟩, ⟨Tryz.t14, by kernel_rfl, by kernel_rfl, by kernel_rfl, .agg #[.string ⟨#[]⟩, .int .u64 0], by kernel_rfl, bV (ai cq (ai ao bW))⟩, fun h => absurd rfl h⟩
theorem tt15 : ay Tryz.prog 15 (tt 15) := ⟨Tryz.underlying15, ⟨Tryz.t15, by kernel_rfl, by kernel_rfl, by kernel_rfl, .pointer none, by kernel_rfl, eM⟩, fun h => absurd rfl h⟩
theorem tt16 : ay Tryz.prog 16 (tt 16) := ⟨Tryz.underlying16, ⟨Tryz.t16, by kernel_rfl, by kernel_rfl, by kernel_rfl, .pointer none, by kernel_rfl, eM⟩, fun h => absurd rfl h⟩
theorem tt17 : ay Tryz.prog 17 (tt 17) := ⟨Tryz.underlying17, ⟨Tryz.t17, by kernel_rfl, by kernel_rfl, by kernel_rfl, .pointer none, by kernel_rfl, eM⟩, fun h => absurd rfl h⟩
theorem tt18 : ay Tryz.prog 18 (tt 18) := ⟨⟨_, Tryz.underlying18, by kernel_rfl, by kernel_rfl⟩, ⟨Tryz.t18, by kernel_rfl, by kernel_rfl, by kernel_rfl, .agg #[.pointer none], by kernel_rfl, bV (ai eM bW)⟩, fun h => absurd rfl h⟩
theorem tt19 : ay Tryz.prog 19 (tt 19) := ⟨⟨_, Tryz.underlying19, by kernel_rfl, by kernel_rfl⟩, ⟨Tryz.t19, by kernel_rfl, by kernel_rfl, by kernel_rfl, .agg #[.pointer none], by kernel_rfl, bV (ai eM bW)⟩, fun h => absurd rfl h⟩
theorem tt20 : ay Tryz.prog 20 (tt 20) := ⟨⟨_, Tryz.underlying20⟩, ⟨Tryz.t20, by kernel_rfl, by kernel_rfl, by kernel_rfl, .nilIface, by kernel_rfl, y8⟩, fun h => absurd rfl h⟩
theorem tt21 : ay Tryz.prog 21 (tt 21) := ⟨Tryz.underlying21, ⟨Tryz.t21, by kernel_rfl, by kernel_rfl, by kernel_rfl, .int .i32 0, by kernel_rfl, ao⟩, fun h => absurd rfl h⟩
theorem tt23 : ay Tryz.prog 23 (tt 23) := ⟨Tryz.underlying23, ⟨Tryz.t23, by kernel_rfl, by kernel_rfl, by kernel_rfl, .int .u64 0, by kernel_rfl, ao⟩, fun h => absurd rfl h⟩
theorem tt24 : ay Tryz.prog 24 (tt 24) := ⟨Tryz.underlying24, ⟨Tryz.t24, by kernel_rfl, by kernel_rfl, by kernel_rfl, .slice none 0 0, by kernel_rfl, d9⟩, fun h => absurd rfl h⟩
theorem tt25 : ay Tryz.prog 25 (tt 25) := ⟨Tryz.underlying25, ⟨Tryz.t25, by kernel_rfl, by kernel_rfl, by kernel_rfl, .slice none 0 0, by kernel_rfl, d9⟩, fun h => absurd rfl h⟩
theorem tt26 : ay Tryz.prog 26 (tt 26) := ⟨⟨_, Tryz.underlying26, by kernel_rfl, by kernel_rfl⟩, ⟨Tryz.t26, by kernel_rfl, by kernel_rfl, by kernel_rfl, .agg #[.int .u8 0, .string ⟨#[]⟩, .int .i64 0, .int .u64 0, .slice none 0 0, .slice none 0 0], by kernel_rfl, bV (ai ao (ai cq (ai ao (ai ao (ai d9 (ai d9 bW))))))⟩, fun h => absurd rfl h⟩
theorem tt27 : ay Tryz.prog 27 (tt 27) := ⟨⟨_, Tryz.underlying27, by kernel_rfl, by kernel_rfl⟩, ⟨Tryz.t27, by kernel_rfl, by kernel_rfl, by kernel_rfl, .agg #[.int .u8 0, .string ⟨#[]⟩, .int .i64 0, .int .u64 0, .slice none 0 0, .slice none 0 0], by kernel_rfl, bV (ai ao (ai cq (ai ao (ai ao (ai d9 (ai d9 bW))))))⟩, fun h => absurd rfl h⟩
theorem tt28 : ay Tryz.prog 28 (tt 28) := ⟨⟨_, Tryz.underlying28, by kernel_rfl, by kernel_rfl⟩, ⟨Tryz.t28, by kernel_rfl, by kernel_rfl, by kernel_rfl, .agg #[.string ⟨#[]⟩, .int .u8 0, .string ⟨#[]⟩, .int .i64 0, .int .u64 0, .slice none 0 0, .slice none 0 0], by kernel_rfl, bV (ai cq (ai ao (ai cq (ai ao (ai ao (ai d9 (ai d9 bW)))))))⟩, fun h => absurd rfl h⟩
theorem tt29 : ay Tryz.prog 29 (tt 29) := ⟨⟨_, Tryz.underlying29, by kernel_rfl, by kernel_rfl⟩, ⟨Tryz.t29, by kernel_rfl, by kernel_rfl, by kernel_rfl, .agg #[.string ⟨#[]⟩, .int .u8 0, .string ⟨#[]⟩, .int .i64 0, .int .u64 0, .slice none 0 0, .slice none 0 0], by kernel_rfl, bV (ai cq (ai ao (ai cq (ai ao (ai ao (ai d9 (ai d9 bW)))))))⟩, fun h => absurd rfl h⟩
theorem tt30 : ay Tryz.prog 30 (tt 30) := ⟨Tryz.underlying30, ⟨Tryz.t30, by kernel_rfl, by kernel_rfl, by kernel_rfl, .int .i64 0, by kernel_rfl, ao⟩, fun h => absurd rfl h⟩
theorem tt32 : ay Tryz.prog 32 (tt 32) := ⟨⟨_, _, _, Tryz.underlying32⟩, ⟨Tryz.t32, by kernel_rfl, by kernel_rfl, by kernel_rfl, .nilFunc, by kernel_rfl, lT⟩, fun h => absurd rfl h⟩
theorem tt34 : ay Tryz.prog 34 (tt 34) := ⟨Tryz.underlying34, ⟨Tryz.t34, by kernel_rfl, by kernel_rfl, by kernel_rfl, .slice none 0 0, by kernel_rfl, d9⟩, fun h => absurd rfl h⟩
theorem tt37 : ay Tryz.prog 37 (tt 37) := ⟨Tryz.underlying37, ⟨Tryz.t37, by kernel_rfl, by kernel_rfl, by kernel_rfl, .slice none 0 0, by kernel_rfl, d9⟩, fun h => absurd rfl h⟩
theorem tt43 : ay Tryz.prog 43 (tt 43) := ⟨Tryz.underlying43, ⟨Tryz.t43, by kernel_rfl, by kernel_rfl, by kernel_rfl, .slice none 0 0, by kernel_rfl, d9⟩, fun h => absurd rfl h⟩
theorem tt48 : ay Tryz.prog 48 (tt 48) := ⟨⟨_, _, _, Tryz.underlying48⟩, ⟨Tryz.t48, by kernel_rfl, by kernel_rfl, by kernel_rfl, .nilFunc, by kernel_rfl, lT⟩, fun h => absurd rfl h⟩
theorem tt54 : ay Tryz.prog 54 (tt 54) := ⟨Tryz.underlying54, ⟨Tryz.t54, by kernel_rfl, by kernel_rfl, by kernel_rfl, .slice none 0 0, by kernel_rfl, d9⟩, fun h => absurd rfl h⟩
theorem tt56 : ay Tryz.prog 56 (tt 56) := ⟨⟨_, _, _, Tryz.underlying56⟩, ⟨Tryz.t56, by kernel_rfl, by kernel_rfl, by kernel_rfl, .nilFunc, by kernel_rfl, lT⟩, fun h => absurd rfl h⟩
theorem tt57 : ay Tryz.prog 57 (tt 57) := ⟨⟨_, Tryz.underlying57, by kernel_rfl, by kernel_rfl⟩, ⟨Tryz.t57, by kernel_rfl, by kernel_rfl, by kernel_rfl, .agg #[.int .u8 0, .int .i64 0, .int .i64 0, .int .u8 0, .int .u64 0, .string ⟨#[]⟩], by kernel_rfl, bV (ai ao (ai ao (ai ao (ai ao (ai ao (ai cq bW))))))⟩, fun h => gI h (by kernel_rfl) (by kernel_rfl) (by kernel_rfl) (by kernel_rfl)⟩
theorem tt58 : ay Tryz.prog 58 (tt 58) := ⟨⟨_, Tryz.underlying58, by kernel_rfl, by kernel_rfl⟩, ⟨Tryz.t58, by kernel_rfl, by kernel_rfl, by kernel_rfl, .agg #[.int .u8 0, .int .i64 0, .int .i64 0, .int .u8 0, .int .u64 0, .string ⟨#[]⟩], by kernel_rfl, bV (ai ao (ai ao (ai ao (ai ao (ai ao (ai cq bW))))))⟩, fun h => gI h (by kernel_rfl) (by kernel_rfl) (by kernel_rfl) (by kernel_rfl)⟩
theorem tt62 : ay Tryz.prog 62 (tt 62) := ⟨Tryz.underlying62, ⟨Tryz.t62, by kernel_rfl, by kernel_rfl, by kernel_rfl, .pointer none, by kernel_rfl, eM⟩, fun h => absurd rfl h⟩
theorem tt64 : ay Tryz.prog 64 (tt 64) := ⟨⟨_, _, _, Tryz.underlying64⟩, ⟨Tryz.t64, by kernel_rfl, by kernel_rfl, by kernel_rfl, .nilFunc, by kernel_rfl, lT⟩, fun h => absurd rfl h⟩
theorem tt68 : ay Tryz.prog 68 (tt 68) := ⟨⟨_, Tryz.underlying68, by kernel_rfl, by kernel_rfl⟩, ⟨Tryz.t68, by kernel_rfl, by kernel_rfl, by kernel_rfl, .agg #[.int .i64 0, .int .u8 0, .int .i64 0, .int .u64 0, .string ⟨#[]⟩, .string ⟨#[]⟩], by kernel_rfl, bV (ai ao (ai ao (ai ao (ai ao (ai cq (ai cq bW))))))⟩, fun h => gI h (by kernel_rfl) (by kernel_rfl) (by kernel_rfl) (by kernel_rfl)⟩
theorem tt69 : ay Tryz.prog 69 (tt 69) := ⟨⟨_, Tryz.underlying69, by kernel_rfl, by kernel_rfl⟩, ⟨Tryz.t69, by kernel_rfl, by kernel_rfl, by kernel_rfl, .agg #[.int .i64 0, .int .u8 0, .int .i64 0, .int .u64 0, .string ⟨#[]⟩, .string ⟨#[]⟩], by kernel_rfl, bV (ai ao (ai ao (ai ao (ai ao (ai cq (ai cq bW))))))⟩, fun h => gI h (by kernel_rfl) (by kernel_rfl) (by kernel_rfl) (by kernel_rfl)⟩
theorem tt74 : ay Tryz.prog 74 (tt 74) := ⟨⟨_, Tryz.underlying74, by kernel_rfl, by kernel_rfl⟩, ⟨Tryz.t74, by kernel_rfl, by kernel_rfl, by kernel_rfl, .agg #[.int .i64 0, .int .u8 0, .int .i64 0, .int .u64 0, .string ⟨#[]⟩, .string ⟨#[]⟩], by kernel_rfl, bV (ai ao (ai ao (ai ao (ai ao (ai cq (ai cq bW))))))⟩, fun h => gI h (by kernel_rfl) (by kernel_rfl) (by kernel_rfl) (by kernel_rfl)⟩
theorem tt77 : ay Tryz.prog 77 (tt 77) := ⟨Tryz.underlying77, ⟨Tryz.t77, by kernel_rfl, by kernel_rfl, by kernel_rfl, .pointer none, by kernel_rfl, eM⟩, fun h => absurd rfl h⟩
theorem tt81 : ay Tryz.prog 81 (tt 81) := ⟨Tryz.underlying81, ⟨Tryz.t81, by kernel_rfl, by kernel_rfl, by kernel_rfl, .pointer none, by kernel_rfl, eM⟩, fun h => absurd rfl h⟩
theorem tt82 : ay Tryz.prog 82 (tt 82) := ⟨⟨_, Tryz.underlying82, by kernel_rfl, by kernel_rfl⟩, ⟨Tryz.t82, by kernel_rfl, by kernel_rfl, by kernel_rfl, .agg #[.string ⟨#[]⟩, .pointer none], by kernel_rfl, bV (ai cq (ai eM bW))⟩, fun h => absurd rfl h⟩
theorem tt83 : ay Tryz.prog 83 (tt 83) := ⟨⟨_, Tryz.underlying83, by kernel_rfl, by kernel_rfl⟩, ⟨Tryz.t83, by kernel_rfl, by kernel_rfl, by kernel_rfl, .agg #[.string ⟨#[]⟩, .pointer none], by kernel_rfl, bV (ai cq (ai eM bW))⟩, fun h => absurd rfl h⟩
theorem tt85 : ay Tryz.prog 85 (tt 85) := ⟨Tryz.underlying85, ⟨Tryz.t85, by kernel_rfl, by kernel_rfl, by kernel_rfl, .pointer none, by kernel_rfl, eM⟩, fun h => absurd rfl h⟩
theorem tt88 : ay Tryz.prog 88 (tt 88) := ⟨⟨_, Tryz.underlying88, by kernel_rfl, by kernel_rfl⟩, ⟨Tryz.t88, by kernel_rfl, by kernel_rfl, by kernel_rfl, .agg #[.string ⟨#[]⟩, .int .i64 0, .int .i64 0, .int .i64 0], by kernel_rfl, bV (ai cq (ai ao (ai ao (ai ao bW))))⟩, fun h => gI h (by kernel_rfl) (by kernel_rfl) (by kernel_rfl) (by kernel_rfl)⟩
theorem tt89 : ay Tryz.prog 89 (tt 89) := ⟨⟨_, Tryz.underlying89, by kernel_rfl, by kernel_rfl⟩, ⟨Tryz.t89, by kernel_rfl, by kernel_rfl, by kernel_rfl, .agg #[.string ⟨#[]⟩, .int .i64 0, .int .i64 0, .int .i64 0], by kernel_rfl, bV (ai cq (ai ao (ai ao (ai ao bW))))⟩, fun h => gI h (by kernel_rfl) (by kernel_rfl) (by kernel_rfl) (by kernel_rfl)⟩
theorem tt104 : ay Tryz.prog 104 (tt 104) := ⟨⟨_, _, _, Tryz.underlying104⟩, ⟨Tryz.t104, by kernel_rfl, by kernel_rfl, by kernel_rfl, .nilFunc, by kernel_rfl, lT⟩, fun h => absurd rfl h⟩
theorem tt105 : ay Tryz.prog 105 (tt 105) := ⟨Tryz.underlying105, ⟨Tryz.t105, by kernel_rfl, by kernel_rfl, by kernel_rfl, .slice none 0 0, by kernel_rfl, d9⟩, fun h => absurd rfl h⟩
theorem tt106 : ay Tryz.prog 106 (tt 106) := ⟨⟨_, Tryz.underlying106, by kernel_rfl, by kernel_rfl⟩, ⟨Tryz.t106, by kernel_rfl, by kernel_rfl, by kernel_rfl, .agg #[.string ⟨#[]⟩, .slice none 0 0, .int .i64 0], by kernel_rfl, bV (ai cq (ai d9 (ai ao bW)))⟩, fun h => absurd rfl h⟩
theorem tt107 : ay Tryz.prog 107 (tt 107) := ⟨⟨_, Tryz.underlying107, by kernel_rfl, by kernel_rfl⟩, ⟨Tryz.t107, by kernel_rfl, by kernel_rfl, by kernel_rfl, .agg #[.string ⟨#[]⟩, .slice none 0 0, .int .i64 0], by kernel_rfl, bV (ai cq (ai d9 (ai ao bW)))⟩, fun h => absurd rfl h⟩
theorem tt115 : ay Tryz.prog 115 (tt 115) := ⟨Tryz.underlying115, ⟨Tryz.t115, by kernel_rfl, by kernel_rfl, by kernel_rfl, .slice none 0 0, by kernel_rfl, d9⟩, fun h => absurd rfl h⟩
theorem tt116 : ay Tryz.prog 116 (tt 116) := ⟨Tryz.underlying116, ⟨Tryz.t116, by kernel_rfl, by kernel_rfl, by kernel_rfl, .slice none 0 0, by kernel_rfl, d9⟩, fun h => absurd rfl h⟩
theorem tt117 : ay Tryz.prog 117 (tt 117) := ⟨⟨_, Tryz.underlying117, by kernel_rfl, by kernel_rfl⟩, ⟨Tryz.t117, by kernel_rfl, by kernel_rfl, by kernel_rfl, .agg #[.slice none 0 0, .slice none 0 0, .int .i64 0], by kernel_rfl, bV (ai d9 (ai d9 (ai ao bW)))⟩, fun h => absurd rfl h⟩
theorem tt118 : ay Tryz.prog 118 (tt 118) := ⟨⟨_, Tryz.underlying118, by kernel_rfl, by kernel_rfl⟩, ⟨Tryz.t118, by kernel_rfl, by kernel_rfl, by kernel_rfl, .agg #[.slice none 0 0, .slice none 0 0, .int .i64 0], by kernel_rfl, bV (ai d9 (ai d9 (ai ao bW)))⟩, fun h => absurd rfl h⟩
theorem tt119 : ay Tryz.prog 119 (tt 119) := ⟨⟨_, Tryz.underlying119⟩, ⟨Tryz.t119, by kernel_rfl, by kernel_rfl, by kernel_rfl, .nilIface, by kernel_rfl, y8⟩, fun h => absurd rfl h⟩
theorem tt120 : ay Tryz.prog 120 (tt 120) := ⟨⟨_, Tryz.underlying120⟩, ⟨Tryz.t120, by kernel_rfl, by kernel_rfl, by kernel_rfl, .nilIface, by kernel_rfl, y8⟩, fun h => absurd rfl h⟩
theorem tt124 : ay Tryz.prog 124 (tt 124) := ⟨Tryz.underlying124, ⟨Tryz.t124, by kernel_rfl, by kernel_rfl, by kernel_rfl, .string ⟨#[]⟩, by kernel_rfl, cq⟩, fun h => absurd rfl h⟩
theorem tt125 : ay Tryz.prog 125 (tt 125) := ⟨Tryz.underlying125, ⟨Tryz.t125, by kernel_rfl, by kernel_rfl, by kernel_rfl, .int .u64 0, by kernel_rfl, ao⟩, fun h => absurd rfl h⟩
theorem tt127 : ay Tryz.prog 127 (tt 127) := ⟨Tryz.underlying127, ⟨Tryz.t127, by kernel_rfl, by kernel_rfl, by kernel_rfl, .bool false, by kernel_rfl, lS⟩, fun h => absurd rfl h⟩
theorem tt129 : ay Tryz.prog 129 (tt 129) := ⟨Tryz.underlying129, ⟨Tryz.t129, by kernel_rfl, by kernel_rfl, by kernel_rfl, .int .i64 0, by kernel_rfl, ao⟩, fun h => absurd rfl h⟩
theorem tt130 : ay Tryz.prog 130 (tt 130) := ⟨Tryz.underlying130, ⟨Tryz.t130, by kernel_rfl, by kernel_rfl, by kernel_rfl, .string ⟨#[]⟩, by kernel_rfl, cq⟩, fun h => absurd rfl h⟩
theorem tt132 : ay Tryz.prog 132 (tt 132) := ⟨Tryz.underlying132, ⟨Tryz.t132, by kernel_rfl, by kernel_rfl, by kernel_rfl, .agg #[.int .i64 0, .int .i64 0, .int .i64 0, .int .i64 0, .int .i64 0], by kernel_rfl, bV (ai ao (ai ao (ai ao (ai ao (ai ao bW)))))⟩, fun h => absurd rfl h⟩
theorem tt133 : ay Tryz.prog 133 (tt 133) := ⟨Tryz.underlying133, ⟨Tryz.t133, by kernel_rfl, by kernel_rfl, by kernel_rfl, .agg #[.int .u8 0, .int .u8 0, .int .u8 0, .int .u8 0, .int .u8 0], by kernel_rfl, bV (ai ao (ai ao (ai ao (ai ao (ai ao bW)))))⟩, fun h => absurd rfl h⟩
theorem tt138 : ay Tryz.prog 138 (tt 138) := ⟨Tryz.underlying138, ⟨Tryz.t138, by kernel_rfl, by kernel_rfl, by kernel_rfl, .int .u64 0, by kernel_rfl, ao⟩, fun h => absurd rfl h⟩
theorem tt145 : ay Tryz.prog 145 (tt 145) := ⟨⟨_, Tryz.underlying145, by kernel_rfl, by kernel_rfl⟩, ⟨Tryz.t145, by kernel_rfl, by kernel_rfl, by kernel_rfl, .agg #[.string ⟨#[]⟩, .int .i64 0, .int .i64 0, .int .i64 0], by kernel_rfl, bV (ai cq (ai ao (ai ao (ai ao bW))))⟩, fun h => gI h (by kernel_rfl) (by kernel_rfl) (by kernel_rfl) (by kernel_rfl)⟩
theorem tt146 : ay Tryz.prog 146 (tt 146) := ⟨⟨_, Tryz.underlying146, by kernel_rfl, by kernel_rfl⟩, ⟨Tryz.t146, by kernel_rfl, by kernel_rfl, by kernel_rfl, .agg #[.string ⟨#[]⟩, .int .i64 0, .int .i64 0, .int .i64 0], by kernel_rfl, bV (ai cq (ai ao (ai ao (ai ao bW))))⟩, fun h => gI h (by kernel_rfl) (by kernel_rfl) (by kernel_rfl) (by kernel_rfl)⟩
theorem tt172 : ay Tryz.prog 172 (tt 172) := ⟨⟨_, Tryz.underlying172, by kernel_rfl, by kernel_rfl⟩, ⟨Tryz.t172, by kernel_rfl, by kernel_rfl, by kernel_rfl, .agg #[.bool false, .int .i64 0, .int .i64 0, .int .u8 0], by kernel_rfl, bV (ai lS (ai ao (ai ao (ai ao bW))))⟩, fun h => gI h (by kernel_rfl) (by kernel_rfl) (by kernel_rfl) (by kernel_rfl)⟩
theorem tt173 : ay Tryz.prog 173 (tt 173) := ⟨⟨_, Tryz.underlying173, by kernel_rfl, by kernel_rfl⟩, ⟨Tryz.t173, by kernel_rfl, by kernel_rfl, by kernel_rfl, .agg #[.bool false, .int .i64 0, .int .i64 0, .int .u8 0], by kernel_rfl, bV (ai lS (ai ao (ai ao (ai ao bW))))⟩, fun h => gI h (by kernel_rfl) (by kernel_rfl) (by kernel_rfl) (by kernel_rfl)⟩
theorem tt175 : ay Tryz.prog 175 (tt 175) := ⟨Tryz.underlying175, ⟨Tryz.t175, by kernel_rfl, by kernel_rfl, by kernel_rfl, .pointer none, by kernel_rfl, eM⟩, fun h => absurd rfl h⟩
theorem tt180 : ay Tryz.prog 180 (tt 180) := ⟨⟨_, Tryz.underlying180, by kernel_rfl, by kernel_rfl⟩, ⟨Tryz.t180, by kernel_rfl, by kernel_rfl, by kernel_rfl, .agg #[.bool false, .int .i64 0, .int .i64 0, .int .u8 0], by kernel_rfl, bV (ai lS (ai ao (ai ao (ai ao bW))))⟩, fun h => gI h (by kernel_rfl) (by kernel_rfl) (by kernel_rfl) (by kernel_rfl)⟩
theorem tt181 : ay Tryz.prog 181 (tt 181) := ⟨⟨_, Tryz.underlying181, by kernel_rfl, by kernel_rfl⟩, ⟨Tryz.t181, by kernel_rfl, by kernel_rfl, by kernel_rfl, .agg #[.bool false, .int .i64 0, .int .i64 0, .int .u8 0], by kernel_rfl, bV (ai lS (ai ao (ai ao (ai ao bW))))⟩, fun h => gI h (by kernel_rfl) (by kernel_rfl) (by kernel_rfl) (by kernel_rfl)⟩
theorem tt207 : ay Tryz.prog 207 (tt 207) := ⟨Tryz.underlying207, ⟨Tryz.t207, by kernel_rfl, by kernel_rfl, by kernel_rfl, .string ⟨#[]⟩, by kernel_rfl, cq⟩, fun h => absurd rfl h⟩
theorem tt208 : ay Tryz.prog 208 (tt 208) := ⟨Tryz.underlying208, ⟨Tryz.t208, by kernel_rfl, by kernel_rfl, by kernel_rfl, .string ⟨#[]⟩, by kernel_rfl, cq⟩, fun h => absurd rfl h⟩
theorem tt210 : ay Tryz.prog 210 (tt 210) := ⟨Tryz.underlying210, ⟨Tryz.t210, by kernel_rfl, by kernel_rfl, by kernel_rfl, .agg #[.int .u8 0, .int .u8 0, .int .u8 0, .int .u8 0, .int .u8 0, .int .u8 0, .int .u8 0, .int .u8 0], by kernel_rfl, bV (ai ao (ai ao (ai ao (ai ao (ai ao (ai ao (ai ao (ai ao bW))))))))⟩, fun h => absurd rfl h⟩
theorem tt213 : ay Tryz.prog 213 (tt 213) := ⟨⟨_, Tryz.underlying213, by kernel_rfl, by kernel_rfl⟩, ⟨Tryz.t213, by kernel_rfl, by kernel_rfl, by kernel_rfl, .agg #[.pointer none], by kernel_rfl, bV (ai eM bW)⟩, fun h => absurd rfl h⟩
theorem tt217 : ay Tryz.prog 217 (tt 217) := ⟨Tryz.underlying217, ⟨Tryz.t217, by kernel_rfl, by kernel_rfl, by kernel_rfl, .slice none 0 0, by kernel_rfl, d9⟩, fun h => absurd rfl h⟩
theorem tt218 : ay Tryz.prog 218 (tt 218) := ⟨Tryz.underlying218, ⟨Tryz.t218, by kernel_rfl, by kernel_rfl, by kernel_rfl, .slice none 0 0, by kernel_rfl, d9⟩, fun h => absurd rfl h⟩
theorem tt228 : ay Tryz.prog 228 (tt 228) := ⟨Tryz.underlying228, ⟨Tryz.t228, by kernel_rfl, by kernel_rfl, by kernel_rfl, .agg #[.int .u8 0, .int .u8 0, .int .u8 0, .int .u8 0, .int .u8 0, .int .u8 0, .int .u8 0, .int .u8 0, .int .u8 0, .int .u8 0, .int .u8 0, .int .u8 0, .int .u8 0, .int .u8 0, .int .u8 0, .int .u8 0, .int .u8 0, .int .u8 0, .int .u8 0, .int .u8 0], by kernel_rfl, bV (ai ao (ai ao (ai ao (ai ao (ai ao (ai ao (ai ao (ai ao (ai ao (ai ao (ai ao (ai ao (ai ao (ai ao (ai ao (ai ao (ai ao (ai ao (ai ao (ai ao bW))))))))))))))))))))⟩, fun h => absurd rfl h⟩
theorem tt232 : ay Tryz.prog 232 (tt 232) := ⟨⟨_, Tryz.underlying232, by kernel_rfl, by kernel_rfl⟩, ⟨Tryz.t232, by kernel_rfl, by kernel_rfl, by kernel_rfl, .agg #[.pointer none, .pointer none, .pointer none, .string ⟨#[]⟩], by kernel_rfl, bV (ai eM (ai eM (ai eM (ai cq bW))))⟩, fun h => absurd rfl h⟩
theorem tt236 : ay Tryz.prog 236 (tt 236) := ⟨Tryz.underlying236, ⟨Tryz.t236, by kernel_rfl, by kernel_rfl, by kernel_rfl, .int .u32 0, by kernel_rfl, ao⟩, fun h => absurd rfl h⟩
theorem tt237 : ay Tryz.prog 237 (tt 237) := ⟨Tryz.underlying237, ⟨Tryz.t237, by kernel_rfl, by kernel_rfl, by kernel_rfl, .int .u8 0, by kernel_rfl, ao⟩, fun h => absurd rfl h⟩
theorem tt238 : ay Tryz.prog 238 (tt 238) := ⟨Tryz.underlying238, ⟨Tryz.t238, by kernel_rfl, by kernel_rfl, by kernel_rfl, .int .u8 0, by kernel_rfl, ao⟩, fun h => absurd rfl h⟩
theorem tt239 : ay Tryz.prog 239 (tt 239) := ⟨⟨_, _, _, Tryz.underlying239⟩, ⟨Tryz.t239, by kernel_rfl, by kernel_rfl, by kernel_rfl, .nilFunc, by kernel_rfl, lT⟩, fun h => absurd rfl h⟩
theorem tt240 : ay Tryz.prog 240 (tt 240) := ⟨Tryz.underlying240, ⟨Tryz.t240, by kernel_rfl, by kernel_rfl, by kernel_rfl, .pointer none, by kernel_rfl, eM⟩, fun h => absurd rfl h⟩
theorem tt241 : ay Tryz.prog 241 (tt 241) := ⟨Tryz.underlying241, ⟨Tryz.t241, by kernel_rfl, by kernel_rfl, by kernel_rfl, .int .i32 0, by kernel_rfl, ao⟩, fun h => absurd rfl h⟩
theorem tt242 : ay Tryz.prog 242 (tt 242) := ⟨Tryz.underlying242, ⟨Tryz.t242, by kernel_rfl, by kernel_rfl, by kernel_rfl, .int .i32 0, by kernel_rfl, ao⟩, fun h => absurd rfl h⟩
theorem tt244 : ay Tryz.prog 244 (tt 244) := ⟨⟨_, Tryz.underlying244, by kernel_rfl, by kernel_rfl⟩, ⟨Tryz.t244, by kernel_rfl, by kernel_rfl, by kernel_rfl, .agg #[.int .u64 0, .int .u64 0, .int .u32 0, .int .u8 0, .int .u8 0, .int .u8 0, .int .u8 0, .nilFunc, .pointer none, .int .i32 0, .int .i32 0], by kernel_rfl, bV (ai ao (ai ao (ai ao (ai ao (ai ao (ai ao (ai ao (ai lT (ai eM (ai ao (ai ao bW)))))))))))⟩, fun h => absurd rfl h⟩
theorem xY : ∀ t, ay Tryz.prog t (tt t) := fun t => by
 unfold tt
 split
 . exact tt1
 . exact tt2
 . exact tt3
 . exact tt4
 . exact tt5
 . exact tt6
 . exact tt7
 . exact tt8
 . exact tt9
 . exact tt10
 . exact tt11
 . exact tt12
 . exact tt13
 . exact tt14
 . exact tt15
 . exact tt16
 . exact tt17
 . exact tt18
 . exact tt19
 . exact tt20
 . exact tt21
 . exact tt23
 . exact tt24
 . exact tt25
 . exact tt26
 . exact tt27
 . exact tt28
 . exact tt29
 . exact tt30
 . exact tt32
 . exact tt34
 . exact tt37
 . exact tt43
 . exact tt48
 . exact tt54
 . exact tt56
 . exact tt57
 . exact tt58
 . exact tt62
 . exact tt64
 . exact tt68
 . exact tt69
 . exact tt74
 . exact tt77
 . exact tt81
 . exact tt82
 . exact tt83
 . exact tt85
 . exact tt88
 . exact tt89
 . exact tt104
 . exact tt105
 . exact tt106
 . exact tt107
 . exact tt115
 . exact tt116
 . exact tt117
 . exact tt118
 . exact tt119
 . exact tt120
 . exact tt124
 . exact tt125
 . exact tt127
 . exact tt129
 . exact tt130
 . exact tt132
 . exact tt133
 . exact tt138
 . exact tt145
 . exact tt146
 . exact tt172
 . exact tt173
 . exact tt175
 . exact tt180
 . exact tt181
 . exact tt207
 . exact tt208
 . exact tt210
 . exact tt213
 . exact tt217
 . exact tt218
 . exact tt228
 . exact tt232
 . exact tt236
 . exact tt237
 . exact tt238
 . exact tt239
 . exact tt240
 . exact tt241
 . exact tt242
 . exact tt244
 . trivial
def nj : TypeId → Bool := fun t => match t with
 | 2 => true
 | 3 => true
 | 4 => true
 | 5 => true
 | 6 => true
 | 7 => true
 | 8 => true
 | 9 => true
 | 10 => true
 | 11 => true
 | 12 => true
 | 13 => true
 | 14 => true
 | 21 => true
 | 23 => true
 | 24 => true
 | 25 => true
 | 26 => true
 | 27 => true
 | 28 => true
 | 29 => true
 | 30 => true
 | 34 => true
 | 37 => true
 | 43 => true
 | 54 => true
 | 57 => true
 | 58 => true
 | 68 => true
 | 69 => true
 | 74 => true
 | 88 => true
 | 89 => true
 | 105 => true
 | 106 => true
 | 107 => true
 | 115 => true
 | 116 => true
 | 117 => true
 | 118 => true
 | 124 => true
 | 125 => true
 | 127 => true
 | 129 => true
 | 130 => true
 | 132 => true
 | 133 => true
 | 138 => true
 | 145 => true
 | 146 => true
 | 172 => true
 | 173 => true
 | 180 => true
 | 181 => true
 | 207 => true
 | 208 => true
 | 210 => true
 | 217 => true
 | 218 => true
 | 228 => true
 | 236 => true
 | 237 => true
 | 238 => true
 | 241 => true
 | 242 => true
 | _ => false
theorem Ev : n6 Tryz.prog tt nj where
 tys := xY
 kids := fun t h => by
  unfold nj at h; split at h <;> first | (cases h; done) | rfl
 pos := fun t h => by
  unfold nj at h; split at h <;> first
   | (cases h; done)
   | exact .inl ⟨_, rfl, by decide⟩
   | (refine .inr (.inr (And.intro ?_ ?_)) <;> (intro e hh; cases hh))
 fields := fun t fs h k => by
  unfold nj at h; split at h <;> first
   | (cases h; done)
   | (cases k; rfl)
   | (cases k; done)
 array := fun t m e h k => by
  unfold nj at h; split at h <;> first
   | (cases h; done)
   | (cases k; rfl)
   | (cases k; done)
end Go.Proofs.YtipejldppicijaaGreatDoor
