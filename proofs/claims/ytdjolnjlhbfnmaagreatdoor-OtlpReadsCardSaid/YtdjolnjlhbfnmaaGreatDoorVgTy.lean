/-
  A part of the proof.
-/
import Derived.Test.YtdjolnjlhbfnmaaGreatDoorVgX
import Derived.Test.YtdjolnjlhbfnmaaGreatDoorVgMA
import Derived.Test.YtdjolnjlhbfnmaaGreatDoorProg
import Derived.KernelRfl
set_option maxHeartbeats 4000000
namespace Go.Proofs.YtdjolnjlhbfnmaaGreatDoor
open Go Go.VG
set_option maxRecDepth 100000
def tt : TypeId → TI := fun t => match t with
 | 1 => ⟨.func, 1, 8, .nilFunc, []⟩
 | 2 => ⟨.int .i64, 1, 8, .int .i64 0, []⟩
 | 3 => ⟨.int .i64, 1, 8, .int .i64 0, []⟩
 | 4 => ⟨.bool, 1, 1, .bool false, []⟩
 | 5 => ⟨.int .u8, 1, 1, .int .u8 0, []⟩
 | 6 => ⟨.int .u8, 1, 1, .int .u8 0, []⟩
 | 7 => ⟨.struct [(0, 2), (1, 3), (2, 4), (3, 6)], 4, 24, .agg [.int .i64 0, .int .i64 0, .bool false, .int .u8 0], []⟩
 | 8 => ⟨.struct [(0, 2), (1, 3), (2, 4), (3, 6)], 4, 24, .agg [.int .i64 0, .int .i64 0, .bool false, .int .u8 0], []⟩
 | 9 => ⟨.string, 1, 16, .str [], []⟩
 | 10 => ⟨.string, 1, 16, .str [], []⟩
 | 11 => ⟨.string, 1, 16, .str [], []⟩
 | 12 => ⟨.int .u64, 1, 8, .int .u64 0, []⟩
 | 13 => ⟨.struct [(0, 9), (1, 12)], 2, 24, .agg [.str [], .int .u64 0], []⟩
 | 14 => ⟨.struct [(0, 9), (1, 12)], 2, 24, .agg [.str [], .int .u64 0], []⟩
 | 15 => ⟨.ptr 252, 1, 8, .nilptr, []⟩
 | 16 => ⟨.ptr 255, 1, 8, .nilptr, []⟩
 | 17 => ⟨.ptr 263, 1, 8, .nilptr, []⟩
 | 18 => ⟨.struct [(0, 17)], 1, 8, .agg [.nilptr], []⟩
 | 19 => ⟨.struct [(0, 17)], 1, 8, .agg [.nilptr], []⟩
 | 20 => ⟨.iface, 1, 16, .nilIface, []⟩
 | 21 => ⟨.int .i32, 1, 4, .int .i32 0, []⟩
 | 23 => ⟨.slice 53, 1, 24, .list true 0 [], []⟩
 | 24 => ⟨.struct [(0, 23)], 1, 24, .agg [.list true 0 []], []⟩
 | 25 => ⟨.struct [(0, 23)], 1, 24, .agg [.list true 0 []], []⟩
 | 26 => ⟨.int .i64, 1, 8, .int .i64 0, []⟩
 | 31 => ⟨.array 16 5, 16, 16, .agg [.int .u8 0, .int .u8 0, .int .u8 0, .int .u8 0, .int .u8 0, .int .u8 0, .int .u8 0, .int .u8 0, .int .u8 0, .int .u8 0, .int .u8 0, .int .u8 0, .int .u8 0, .int .u8 0, .int .u8 0, .int .u8 0], [.kI .u8, .kI .u8, .kI .u8, .kI .u8, .kI .u8, .kI .u8, .kI .u8, .kI .u8, .kI .u8, .kI .u8, .kI .u8, .kI .u8, .kI .u8, .kI .u8, .kI .u8, .kI .u8]⟩
 | 32 => ⟨.array 16 5, 16, 16, .agg [.int .u8 0, .int .u8 0, .int .u8 0, .int .u8 0, .int .u8 0, .int .u8 0, .int .u8 0, .int .u8 0, .int .u8 0, .int .u8 0, .int .u8 0, .int .u8 0, .int .u8 0, .int .u8 0, .int .u8 0, .int .u8 0], [.kI .u8, .kI .u8, .kI .u8, .kI .u8, .kI .u8, .kI .u8, .kI .u8, .kI .u8, .kI .u8, .kI .u8, .kI .u8, .kI .u8, .kI .u8, .kI .u8, .kI .u8, .kI .u8]⟩
 | 33 => ⟨.array 8 5, 8, 8, .agg [.int .u8 0, .int .u8 0, .int .u8 0, .int .u8 0, .int .u8 0, .int .u8 0, .int .u8 0, .int .u8 0], [.kI .u8, .kI .u8, .kI .u8, .kI .u8, .kI .u8, .kI .u8, .kI .u8, .kI .u8]⟩
 | 34 => ⟨.array 8 5, 8, 8, .agg [.int .u8 0, .int .u8 0, .int .u8 0, .int .u8 0, .int .u8 0, .int .u8 0, .int .u8 0, .int .u8 0], [.kI .u8, .kI .u8, .kI .u8, .kI .u8, .kI .u8, .kI .u8, .kI .u8, .kI .u8]⟩
 | 35 => ⟨.int .u64, 1, 8, .int .u64 0, []⟩
 | 36 => ⟨.slice 47, 1, 24, .list true 0 [], []⟩
 | 37 => ⟨.slice 145, 1, 24, .list true 0 [], []⟩
 | 38 => ⟨.slice 147, 1, 24, .list true 0 [], []⟩
 | 39 => ⟨.struct [(0, 3), (1, 9)], 2, 24, .agg [.int .i64 0, .str []], [.kI .i64, .kS]⟩
 | 40 => ⟨.struct [(0, 3), (1, 9)], 2, 24, .agg [.int .i64 0, .str []], [.kI .i64, .kS]⟩
 | 41 => ⟨.struct [(0, 32), (16, 34), (24, 34), (32, 9), (33, 9), (34, 3), (35, 35), (36, 35), (37, 36), (38, 37), (39, 38), (40, 40)], 42, 184, .agg [.int .u8 0, .int .u8 0, .int .u8 0, .int .u8 0, .int .u8 0, .int .u8 0, .int .u8 0, .int .u8 0, .int .u8 0, .int .u8 0, .int .u8 0, .int .u8 0, .int .u8 0, .int .u8 0, .int .u8 0, .int .u8 0, .int .u8 0, .int .u8 0, .int .u8 0, .int .u8 0, .int .u8 0, .int .u8 0, .int .u8 0, .int .u8 0, .int .u8 0, .int .u8 0, .int .u8 0, .int .u8 0, .int .u8 0, .int .u8 0, .int .u8 0, .int .u8 0, .str [], .str [], .int .i64 0, .int .u64 0, .int .u64 0, .list true 0 [], .list true 0 [], .list true 0 [], .int .i64 0, .str []], []⟩
 | 42 => ⟨.struct [(0, 32), (16, 34), (24, 34), (32, 9), (33, 9), (34, 3), (35, 35), (36, 35), (37, 36), (38, 37), (39, 38), (40, 40)], 42, 184, .agg [.int .u8 0, .int .u8 0, .int .u8 0, .int .u8 0, .int .u8 0, .int .u8 0, .int .u8 0, .int .u8 0, .int .u8 0, .int .u8 0, .int .u8 0, .int .u8 0, .int .u8 0, .int .u8 0, .int .u8 0, .int .u8 0, .int .u8 0, .int .u8 0, .int .u8 0, .int .u8 0, .int .u8 0, .int .u8 0, .int .u8 0, .int .u8 0, .int .u8 0, .int .u8 0, .int .u8 0, .int .u8 0, .int .u8 0, .int .u8 0, .int .u8 0, .int .u8 0, .str [], .str [], .int .i64 0, .int .u64 0, .int .u64 0, .list true 0 [], .list true 0 [], .list true 0 [], .int .i64 0, .str []], []⟩
 | 43 => ⟨.slice 45, 1, 24, .list true 0 [], []⟩
 | 44 => ⟨.struct [(0, 5), (1, 9), (2, 3), (3, 35), (4, 43), (5, 36)], 6, 88, .agg [.int .u8 0, .str [], .int .i64 0, .int .u64 0, .list true 0 [], .list true 0 []], []⟩
 | 45 => ⟨.struct [(0, 5), (1, 9), (2, 3), (3, 35), (4, 43), (5, 36)], 6, 88, .agg [.int .u8 0, .str [], .int .i64 0, .int .u64 0, .list true 0 [], .list true 0 []], []⟩
 | 46 => ⟨.struct [(0, 9), (1, 45)], 7, 104, .agg [.str [], .int .u8 0, .str [], .int .i64 0, .int .u64 0, .list true 0 [], .list true 0 []], []⟩
 | 47 => ⟨.struct [(0, 9), (1, 45)], 7, 104, .agg [.str [], .int .u8 0, .str [], .int .i64 0, .int .u64 0, .list true 0 [], .list true 0 []], []⟩
 | 48 => ⟨.slice 42, 1, 24, .list true 0 [], []⟩
 | 49 => ⟨.struct [(0, 9), (1, 9), (2, 48)], 3, 56, .agg [.str [], .str [], .list true 0 []], []⟩
 | 50 => ⟨.struct [(0, 9), (1, 9), (2, 48)], 3, 56, .agg [.str [], .str [], .list true 0 []], []⟩
 | 51 => ⟨.slice 50, 1, 24, .list true 0 [], []⟩
 | 52 => ⟨.struct [(0, 36), (1, 51)], 2, 48, .agg [.list true 0 [], .list true 0 []], []⟩
 | 53 => ⟨.struct [(0, 36), (1, 51)], 2, 48, .agg [.list true 0 [], .list true 0 []], []⟩
 | 55 => ⟨.ptr 80, 1, 8, .nilptr, []⟩
 | 60 => ⟨.slice 9, 1, 24, .list true 0 [], []⟩
 | 64 => ⟨.slice 100, 1, 24, .list true 0 [], []⟩
 | 71 => ⟨.ptr 112, 1, 8, .nilptr, []⟩
 | 76 => ⟨.slice 86, 1, 24, .list true 0 [], []⟩
 | 79 => ⟨.struct [(0, 76)], 1, 24, .agg [.list true 0 []], []⟩
 | 80 => ⟨.struct [(0, 76)], 1, 24, .agg [.list true 0 []], []⟩
 | 83 => ⟨.struct [(0, 3), (1, 3)], 2, 16, .agg [.int .i64 0, .int .i64 0], [.kI .i64, .kI .i64]⟩
 | 84 => ⟨.struct [(0, 3), (1, 3)], 2, 16, .agg [.int .i64 0, .int .i64 0], [.kI .i64, .kI .i64]⟩
 | 85 => ⟨.struct [(0, 3), (1, 3), (2, 35), (3, 9)], 4, 40, .agg [.int .i64 0, .int .i64 0, .int .u64 0, .str []], [.kI .i64, .kI .i64, .kI .u64, .kS]⟩
 | 86 => ⟨.struct [(0, 3), (1, 3), (2, 35), (3, 9)], 4, 40, .agg [.int .i64 0, .int .i64 0, .int .u64 0, .str []], [.kI .i64, .kI .i64, .kI .u64, .kS]⟩
 | 97 => ⟨.struct [(0, 9), (1, 3), (2, 3), (3, 26)], 4, 40, .agg [.str [], .int .i64 0, .int .i64 0, .int .i64 0], [.kS, .kI .i64, .kI .i64, .kI .i64]⟩
 | 98 => ⟨.struct [(0, 9), (1, 3), (2, 3), (3, 26)], 4, 40, .agg [.str [], .int .i64 0, .int .i64 0, .int .i64 0], [.kS, .kI .i64, .kI .i64, .kI .i64]⟩
 | 100 => ⟨.struct [(0, 3), (1, 3), (2, 35), (3, 9)], 4, 40, .agg [.int .i64 0, .int .i64 0, .int .u64 0, .str []], [.kI .i64, .kI .i64, .kI .u64, .kS]⟩
 | 110 => ⟨.slice 149, 1, 24, .list true 0 [], []⟩
 | 111 => ⟨.struct [(0, 110), (1, 3)], 2, 32, .agg [.list true 0 [], .int .i64 0], []⟩
 | 112 => ⟨.struct [(0, 110), (1, 3)], 2, 32, .agg [.list true 0 [], .int .i64 0], []⟩
 | 113 => ⟨.struct [(0, 3), (1, 3)], 2, 16, .agg [.int .i64 0, .int .i64 0], [.kI .i64, .kI .i64]⟩
 | 115 => ⟨.struct [(0, 113), (2, 71), (3, 3)], 4, 32, .agg [.int .i64 0, .int .i64 0, .nilptr, .int .i64 0], []⟩
 | 116 => ⟨.struct [(0, 113), (2, 71), (3, 3)], 4, 32, .agg [.int .i64 0, .int .i64 0, .nilptr, .int .i64 0], []⟩
 | 119 => ⟨.slice 5, 1, 24, .list true 0 [], []⟩
 | 121 => ⟨.ptr 155, 1, 8, .nilptr, []⟩
 | 132 => ⟨.map 9 3, 1, 8, .nilmap, [.kS]⟩
 | 144 => ⟨.struct [(0, 35), (1, 9), (2, 36)], 3, 48, .agg [.int .u64 0, .str [], .list true 0 []], []⟩
 | 145 => ⟨.struct [(0, 35), (1, 9), (2, 36)], 3, 48, .agg [.int .u64 0, .str [], .list true 0 []], []⟩
 | 146 => ⟨.struct [(0, 32), (16, 34), (24, 9), (25, 36)], 26, 64, .agg [.int .u8 0, .int .u8 0, .int .u8 0, .int .u8 0, .int .u8 0, .int .u8 0, .int .u8 0, .int .u8 0, .int .u8 0, .int .u8 0, .int .u8 0, .int .u8 0, .int .u8 0, .int .u8 0, .int .u8 0, .int .u8 0, .int .u8 0, .int .u8 0, .int .u8 0, .int .u8 0, .int .u8 0, .int .u8 0, .int .u8 0, .int .u8 0, .str [], .list true 0 []], []⟩
 | 147 => ⟨.struct [(0, 32), (16, 34), (24, 9), (25, 36)], 26, 64, .agg [.int .u8 0, .int .u8 0, .int .u8 0, .int .u8 0, .int .u8 0, .int .u8 0, .int .u8 0, .int .u8 0, .int .u8 0, .int .u8 0, .int .u8 0, .int .u8 0, .int .u8 0, .int .u8 0, .int .u8 0, .int .u8 0, .int .u8 0, .int .u8 0, .int .u8 0, .int .u8 0, .int .u8 0, .int .u8 0, .int .u8 0, .int .u8 0, .str [], .list true 0 []], []⟩
 | 148 => ⟨.iface, 1, 16, .nilIface, []⟩
 | 149 => ⟨.iface, 1, 16, .nilIface, []⟩
 | 154 => ⟨.struct [(0, 9), (1, 3), (2, 3), (3, 26)], 4, 40, .agg [.str [], .int .i64 0, .int .i64 0, .int .i64 0], [.kS, .kI .i64, .kI .i64, .kI .i64]⟩
 | 155 => ⟨.struct [(0, 9), (1, 3), (2, 3), (3, 26)], 4, 40, .agg [.str [], .int .i64 0, .int .i64 0, .int .i64 0], [.kS, .kI .i64, .kI .i64, .kI .i64]⟩
 | 157 => ⟨.ptr 160, 1, 8, .nilptr, []⟩
 | 159 => ⟨.struct [(0, 55), (1, 26)], 2, 16, .agg [.nilptr, .int .i64 0], []⟩
 | 160 => ⟨.struct [(0, 55), (1, 26)], 2, 16, .agg [.nilptr, .int .i64 0], []⟩
 | 177 => ⟨.int .u64, 1, 8, .int .u64 0, []⟩
 | 184 => ⟨.func, 1, 8, .nilFunc, []⟩
 | 195 => ⟨.array 8 3, 8, 64, .agg [.int .i64 0, .int .i64 0, .int .i64 0, .int .i64 0, .int .i64 0, .int .i64 0, .int .i64 0, .int .i64 0], [.kI .i64, .kI .i64, .kI .i64, .kI .i64, .kI .i64, .kI .i64, .kI .i64, .kI .i64]⟩
 | 202 => ⟨.int .u32, 1, 4, .int .u32 0, []⟩
 | 205 => ⟨.slice 113, 1, 24, .list true 0 [], []⟩
 | 215 => ⟨.int .i64, 1, 8, .int .i64 0, []⟩
 | 236 => ⟨.int .u64, 1, 8, .int .u64 0, []⟩
 | 240 => ⟨.ptr 3, 1, 8, .nilptr, []⟩
 | 243 => ⟨.struct [(0, 86)], 4, 40, .agg [.int .i64 0, .int .i64 0, .int .u64 0, .str []], [.kI .i64, .kI .i64, .kI .u64, .kS]⟩
 | 248 => ⟨.ptr 236, 1, 8, .nilptr, []⟩
 | 251 => ⟨.struct [(0, 17), (1, 17), (2, 17), (3, 9)], 4, 40, .agg [.nilptr, .nilptr, .nilptr, .str []], []⟩
 | 252 => ⟨.struct [(0, 17), (1, 17), (2, 17), (3, 9)], 4, 40, .agg [.nilptr, .nilptr, .nilptr, .str []], []⟩
 | 256 => ⟨.int .u8, 1, 1, .int .u8 0, []⟩
 | 257 => ⟨.int .u8, 1, 1, .int .u8 0, []⟩
 | 258 => ⟨.func, 1, 8, .nilFunc, []⟩
 | 259 => ⟨.ptr 5, 1, 8, .nilptr, []⟩
 | 260 => ⟨.int .i32, 1, 4, .int .i32 0, []⟩
 | 261 => ⟨.int .i32, 1, 4, .int .i32 0, []⟩
 | 263 => ⟨.struct [(0, 12), (1, 12), (2, 202), (3, 256), (4, 5), (5, 5), (6, 257), (7, 258), (8, 259), (9, 260), (10, 261)], 11, 48, .agg [.int .u64 0, .int .u64 0, .int .u32 0, .int .u8 0, .int .u8 0, .int .u8 0, .int .u8 0, .nilFunc, .nilptr, .int .i32 0, .int .i32 0], []⟩
 | _ => ⟨.other, 0, 0, .undef, []⟩
theorem tt1 : aM Tryz.prog 1 (tt 1) := ⟨⟨_, _, _, Tryz.underlying1⟩, ⟨Tryz.t1, by kernel_rfl, by kernel_rfl, by kernel_rfl, .nilFunc, by kernel_rfl, vu⟩, fun h => absurd rfl h⟩
theorem tt2 : aM Tryz.prog 2 (tt 2) := ⟨Tryz.underlying2, ⟨Tryz.t2, by kernel_rfl, by kernel_rfl, by kernel_rfl, .int .i64 0, by kernel_rfl, ak⟩, fun h => absurd rfl h⟩
theorem tt3 : aM Tryz.prog 3 (tt 3) := ⟨Tryz.underlying3, ⟨Tryz.t3, by kernel_rfl, by kernel_rfl, by kernel_rfl, .int .i64 0, by kernel_rfl, ak⟩, fun h => absurd rfl h⟩
theorem tt4 : aM Tryz.prog 4 (tt 4) := ⟨Tryz.underlying4, ⟨Tryz.t4, by kernel_rfl, by kernel_rfl, by kernel_rfl, .bool false, by kernel_rfl, A4⟩, fun h => absurd rfl h⟩
theorem tt5 : aM Tryz.prog 5 (tt 5) := ⟨Tryz.underlying5, ⟨Tryz.t5, by kernel_rfl, by kernel_rfl, by kernel_rfl, .int .u8 0, by kernel_rfl, ak⟩, fun h => absurd rfl h⟩
theorem tt6 : aM Tryz.prog 6 (tt 6) := ⟨Tryz.underlying6, ⟨Tryz.t6, by kernel_rfl, by kernel_rfl, by kernel_rfl, .int .u8 0, by kernel_rfl, ak⟩, fun h => absurd rfl h⟩
theorem tt7 : aM Tryz.prog 7 (tt 7) := ⟨⟨_, Tryz.underlying7, by kernel_rfl, by kernel_rfl⟩, ⟨Tryz.t7, by kernel_rfl, by kernel_rfl, by kernel_rfl, .agg #[.int .i64 0, .int .i64 0, .bool false, .int .u8 0], by kernel_rfl, bG (ah ak (ah ak (ah A4 (ah ak bH))))⟩, fun h => absurd rfl h⟩
theorem tt8 : aM Tryz.prog 8 (tt 8) := ⟨⟨_, Tryz.underlying8, by kernel_rfl, by kernel_rfl⟩, ⟨Tryz.t8, by kernel_rfl, by kernel_rfl, by kernel_rfl, .agg #[.int .i64 0, .int .i64 0, .bool false, .int .u8 0], by kernel_rfl, bG (ah ak (ah ak (ah A4 (ah ak bH))))⟩, fun h => absurd rfl h⟩
theorem tt9 : aM Tryz.prog 9 (tt 9) := ⟨Tryz.underlying9, ⟨Tryz.t9, by kernel_rfl, by kernel_rfl, by kernel_rfl, .string ⟨#[]⟩, by kernel_rfl, cG⟩, fun h => absurd rfl h⟩
theorem tt10 : aM Tryz.prog 10 (tt 10) := ⟨Tryz.underlying10, ⟨Tryz.t10, by kernel_rfl, by kernel_rfl, by kernel_rfl, .string ⟨#[]⟩, by kernel_rfl, cG⟩, fun h => absurd rfl h⟩
theorem tt11 : aM Tryz.prog 11 (tt 11) := ⟨Tryz.underlying11, ⟨Tryz.t11, by kernel_rfl, by kernel_rfl, by kernel_rfl, .string ⟨#[]⟩, by kernel_rfl, cG⟩, fun h => absurd rfl h⟩
theorem tt12 : aM Tryz.prog 12 (tt 12) := ⟨Tryz.underlying12, ⟨Tryz.t12, by kernel_rfl, by kernel_rfl, by kernel_rfl, .int .u64 0, by kernel_rfl, ak⟩, fun h => absurd rfl h⟩
theorem tt13 : aM Tryz.prog 13 (tt 13) := ⟨⟨_, Tryz.underlying13, by kernel_rfl, by kernel_rfl⟩, ⟨Tryz.t13, by kernel_rfl, by kernel_rfl, by kernel_rfl, .agg #[.string ⟨#[]⟩, .int .u64 0], by kernel_rfl, bG (ah cG (ah ak bH))⟩, fun h => absurd rfl h⟩
theorem tt14 : aM Tryz.prog 14 (tt 14) := ⟨⟨_, Tryz.underlying14, by kernel_rfl, by kernel_rfl⟩, ⟨Tryz.t14, by kernel_rfl, by kernel_rfl, by kernel_rfl, .agg #[.string ⟨#[]⟩, .int .u64 0], by kernel_rfl, bG (ah cG (ah ak bH))⟩, fun h => absurd rfl h⟩
theorem tt15 : aM Tryz.prog 15 (tt 15) := ⟨Tryz.underlying15, ⟨Tryz.t15, by kernel_rfl, by kernel_rfl, by kernel_rfl, .pointer none, by kernel_rfl, ew⟩, fun h => absurd rfl h⟩
theorem tt16 : aM Tryz.prog 16 (tt 16) := ⟨Tryz.underlying16, ⟨Tryz.t16, by kernel_rfl, by kernel_rfl, by kernel_rfl, .pointer none, by kernel_rfl, ew⟩, fun h => absurd rfl h⟩
theorem tt17 : aM Tryz.prog 17 (tt 17) := ⟨Tryz.underlying17, ⟨Tryz.t17, by kernel_rfl, by kernel_rfl, by kernel_rfl, .pointer none, by kernel_rfl, ew⟩, fun h => absurd rfl h⟩
theorem tt18 : aM Tryz.prog 18 (tt 18) := ⟨⟨_, Tryz.underlying18, by kernel_rfl, by kernel_rfl⟩, ⟨Tryz.t18, by kernel_rfl, by kernel_rfl, by kernel_rfl, .agg #[.pointer none], by kernel_rfl, bG (ah ew bH)⟩, fun h => absurd rfl h⟩
theorem tt19 : aM Tryz.prog 19 (tt 19) := ⟨⟨_, Tryz.underlying19, by kernel_rfl, by kernel_rfl⟩, ⟨Tryz.t19, by kernel_rfl, by kernel_rfl, by kernel_rfl, .agg #[.pointer none], by kernel_rfl, bG (ah ew bH)⟩, fun h => absurd rfl h⟩
theorem tt20 : aM Tryz.prog 20 (tt 20) := ⟨⟨_, Tryz.underlying20⟩, ⟨Tryz.t20, by kernel_rfl, by kernel_rfl, by kernel_rfl, .nilIface, by kernel_rfl, A5⟩, fun h => absurd rfl h⟩
theorem tt21 : aM Tryz.prog 21 (tt 21) := ⟨Tryz.underlying21, ⟨Tryz.t21, by kernel_rfl, by kernel_rfl, by kernel_rfl, .int .i32 0, by kernel_rfl, ak⟩, fun h => absurd rfl h⟩
theorem tt23 : aM Tryz.prog 23 (tt 23) := ⟨Tryz.underlying23, ⟨Tryz.t23, by kernel_rfl, by kernel_rfl, by kernel_rfl, .slice none 0 0, by kernel_rfl, cn⟩, fun h => absurd rfl h⟩
theorem tt24 : aM Tryz.prog 24 (tt 24) := ⟨⟨_, Tryz.underlying24, by kernel_rfl, by kernel_rfl⟩, ⟨Tryz.t24, by kernel_rfl, by kernel_rfl, by kernel_rfl, .agg #[.slice none 0 0], by kernel_rfl, bG (ah cn bH)⟩, fun h => absurd rfl h⟩
theorem tt25 : aM Tryz.prog 25 (tt 25) := ⟨⟨_, Tryz.underlying25, by kernel_rfl, by kernel_rfl⟩, ⟨Tryz.t25, by kernel_rfl, by kernel_rfl, by kernel_rfl, .agg #[.slice none 0 0], by kernel_rfl, bG (ah cn bH)⟩, fun h => absurd rfl h⟩
theorem tt26 : aM Tryz.prog 26 (tt 26) := ⟨Tryz.underlying26, ⟨Tryz.t26, by kernel_rfl, by kernel_rfl, by kernel_rfl, .int .i64 0, by kernel_rfl, ak⟩, fun h => absurd rfl h⟩
theorem tt31 : aM Tryz.prog 31 (tt 31) := ⟨Tryz.underlying31, ⟨Tryz.t31, by kernel_rfl, by kernel_rfl, by kernel_rfl, .agg #[.int .u8 0, .int .u8 0, .int .u8 0, .int .u8 0, .int .u8 0, .int .u8 0, .int .u8 0, .int .u8 0, .int .u8 0, .int .u8 0, .int .u8 0, .int .u8 0, .int .u8 0, .int .u8 0, .int .u8 0, .int .u8 0], by kernel_rfl, bG (ah ak (ah ak (ah ak (ah ak (ah ak (ah ak (ah ak (ah ak (ah ak (ah ak (ah ak (ah ak (ah ak (ah ak (ah ak (ah ak bH))))))))))))))))⟩, fun h => fM h (by kernel_rfl) (by kernel_rfl) (by kernel_rfl) (by kernel_rfl)⟩
theorem tt32 : aM Tryz.prog 32 (tt 32) := ⟨Tryz.underlying32, ⟨Tryz.t32, by kernel_rfl, by kernel_rfl, by kernel_rfl, .agg #[.int .u8 0, .int .u8 0, .int .u8 0, .int .u8 0, .int .u8 0, .int .u8 0, .int .u8 0, .int .u8 0, .int .u8 0, .int .u8 0, .int .u8 0, .int .u8 0, .int .u8 0, .int .u8 0, .int .u8 0, .int .u8 0], by kernel_rfl, bG (ah ak (ah ak (ah ak (ah ak (ah ak (ah ak (ah ak (ah ak (ah ak (ah ak (ah ak (ah ak (ah ak (ah ak (ah ak (ah ak bH))))))))))))))))⟩, fun h => fM h (by kernel_rfl) (by kernel_rfl) (by kernel_rfl) (by kernel_rfl)⟩
theorem tt33 : aM Tryz.prog 33 (tt 33) := ⟨Tryz.underlying33, ⟨Tryz.t33, by kernel_rfl, by kernel_rfl, by kernel_rfl, .agg #[.int .u8 0, .int .u8 0, .int .u8 0, .int .u8 0, .int .u8 0, .int .u8 0, .int .u8 0, .int .u8 0], by kernel_rfl, bG (ah ak (ah ak (ah ak (ah ak (ah ak (ah ak (ah ak (ah ak bH))))))))⟩, fun h => fM h (by kernel_rfl) (by kernel_rfl) (by kernel_rfl) (by kernel_rfl)⟩
theorem tt34 : aM Tryz.prog 34 (tt 34) := ⟨Tryz.underlying34, ⟨Tryz.t34, by kernel_rfl, by kernel_rfl, by kernel_rfl, .agg #[.int .u8 0, .int .u8 0, .int .u8 0, .int .u8 0, .int .u8 0, .int .u8 0, .int .u8 0, .int .u8 0], by kernel_rfl, bG (ah ak (ah ak (ah ak (ah ak (ah ak (ah ak (ah ak (ah ak bH))))))))⟩, fun h => fM h (by kernel_rfl) (by kernel_rfl) (by kernel_rfl) (by kernel_rfl)⟩
theorem tt35 : aM Tryz.prog 35 (tt 35) := ⟨Tryz.underlying35, ⟨Tryz.t35, by kernel_rfl, by kernel_rfl, by kernel_rfl, .int .u64 0, by kernel_rfl, ak⟩, fun h => absurd rfl h⟩
theorem tt36 : aM Tryz.prog 36 (tt 36) := ⟨Tryz.underlying36, ⟨Tryz.t36, by kernel_rfl, by kernel_rfl, by kernel_rfl, .slice none 0 0, by kernel_rfl, cn⟩, fun h => absurd rfl h⟩
theorem tt37 : aM Tryz.prog 37 (tt 37) := ⟨Tryz.underlying37, ⟨Tryz.t37, by kernel_rfl, by kernel_rfl, by kernel_rfl, .slice none 0 0, by kernel_rfl, cn⟩, fun h => absurd rfl h⟩
theorem tt38 : aM Tryz.prog 38 (tt 38) := ⟨Tryz.underlying38, ⟨Tryz.t38, by kernel_rfl, by kernel_rfl, by kernel_rfl, .slice none 0 0, by kernel_rfl, cn⟩, fun h => absurd rfl h⟩
theorem tt39 : aM Tryz.prog 39 (tt 39) := ⟨⟨_, Tryz.underlying39, by kernel_rfl, by kernel_rfl⟩, ⟨Tryz.t39, by kernel_rfl, by kernel_rfl, by kernel_rfl, .agg #[.int .i64 0, .string ⟨#[]⟩], by kernel_rfl, bG (ah ak (ah cG bH))⟩, fun h => fM h (by kernel_rfl) (by kernel_rfl) (by kernel_rfl) (by kernel_rfl)⟩
theorem tt40 : aM Tryz.prog 40 (tt 40) := ⟨⟨_, Tryz.underlying40, by kernel_rfl, by kernel_rfl⟩, ⟨Tryz.t40, by kernel_rfl, by kernel_rfl, by kernel_rfl, .agg #[.int .i64 0, .string ⟨#[]⟩], by kernel_rfl, bG (ah ak (ah cG bH))⟩, fun h => fM h (by kernel_rfl) (by kernel_rfl) (by kernel_rfl) (by kernel_rfl)⟩
theorem tt41 : aM Tryz.prog 41 (tt 41) := ⟨⟨_, Tryz.underlying41, by kernel_rfl, by kernel_rfl⟩, ⟨Tryz.t41, by kernel_rfl, by kernel_rfl, by kernel_rfl, .agg #[.int .u8 0, .int .u8 0, .int .u8 0, .int .u8 0, .int .u8 0, .int .u8 0, .int .u8 0, .int .u8 0, .int .u8 0, .int .u8 0, .int .u8 0, .int .u8 0, .int .u8 0, .int .u8 0, .int .u8 0, .int .u8 0, .int .u8 0, .int .u8 0, .int .u8 0, .int .u8 0, .int .u8 0, .int .u8 0, .int .u8 0, .int .u8 0, .int .u8 0, .int .u8 0, .int .u8 0, .int .u8 0, .int .u8 0, .int .u8 0, .int .u8 0, .int .u8 0, .string ⟨#[]⟩, .string ⟨#[]⟩, .int .i64 0, .int .u64 0, .int .u64 0, .slice none 0 0, .slice none 0 0, .slice none 0 0, .int .i64 0, .string ⟨#[]⟩], by kernel_rfl, bG (ah ak (ah ak (ah ak (ah ak (ah ak (ah ak (ah ak (ah ak (ah ak (ah ak (ah ak (ah ak (ah ak (ah ak (ah ak (ah ak (ah ak (ah ak (ah ak (ah ak (ah ak (ah ak (ah ak (ah ak (ah ak (ah ak (ah ak (ah ak (ah ak (ah ak (ah ak (ah ak (ah cG (ah cG (ah ak (ah ak (ah ak (ah cn (ah cn (ah cn (ah ak (ah cG bH))))))))))))))))))))))))))))))))))))))))))⟩, fun h => absurd rfl h⟩
theorem tt42 : aM Tryz.prog 42 (tt 42) := ⟨⟨_, Tryz.underlying42, by kernel_rfl, by kernel_rfl⟩, ⟨Tryz.t42, by kernel_rfl, by kernel_rfl, by kernel_rfl, .agg #[.int .u8 0, .int .u8 0, .int .u8 0, .int .u8 0, .int .u8 0, .int .u8 0, .int .u8 0, .int .u8 0, .int .u8 0, .int .u8 0, .int .u8 0, .int .u8 0, .int .u8 0, .int .u8 0, .int .u8 0, .int .u8 0, .int .u8 0, .int .u8 0, .int .u8 0, .int .u8 0, .int .u8 0, .int .u8 0, .int .u8 0, .int .u8 0, .int .u8 0, .int .u8 0, .int .u8 0, .int .u8 0, .int .u8 0, .int .u8 0, .int .u8 0, .int .u8 0, .string ⟨#[]⟩, .string ⟨#[]⟩, .int .i64 0, .int .u64 0, .int .u64 0, .slice none 0 0, .slice none 0 0, .slice none 0 0, .int .i64 0, .string ⟨#[]⟩], by kernel_rfl, bG (ah ak (ah ak (ah ak (ah ak (ah ak (ah ak (ah ak (ah ak (ah ak (ah ak (ah ak (ah ak (ah ak (ah ak (ah ak (ah ak (ah ak (ah ak (ah ak (ah ak (ah ak (ah ak (ah ak (ah ak (ah ak (ah ak (ah ak (ah ak (ah ak (ah ak (ah ak (ah ak (ah cG (ah cG (ah ak (ah ak (ah ak (ah cn (ah cn (ah cn (ah ak (ah cG bH))))))))))))))))))))))))))))))))))))))))))⟩, fun h => absurd rfl h⟩
theorem tt43 : aM Tryz.prog 43 (tt 43) := ⟨Tryz.underlying43, ⟨Tryz.t43, by kernel_rfl, by kernel_rfl, by kernel_rfl, .slice none 0 0, by kernel_rfl, cn⟩, fun h => absurd rfl h⟩
theorem tt44 : aM Tryz.prog 44 (tt 44) := ⟨⟨_, Tryz.underlying44, by kernel_rfl, by kernel_rfl⟩, ⟨Tryz.t44, by kernel_rfl, by kernel_rfl, by kernel_rfl, .agg #[.int .u8 0, .string ⟨#[]⟩, .int .i64 0, .int .u64 0, .slice none 0 0, .slice none 0 0], by kernel_rfl, bG (ah ak (ah cG (ah ak (ah ak (ah cn (ah cn bH))))))⟩, fun h => absurd rfl h⟩
theorem tt45 : aM Tryz.prog 45 (tt 45) := ⟨⟨_, Tryz.underlying45, by kernel_rfl, by kernel_rfl⟩, ⟨Tryz.t45, by kernel_rfl, by kernel_rfl, by kernel_rfl, .agg #[.int .u8 0, .string ⟨#[]⟩, .int .i64 0, .int .u64 0, .slice none 0 0, .slice none 0 0], by kernel_rfl, bG (ah ak (ah cG (ah ak (ah ak (ah cn (ah cn bH))))))⟩, fun h => absurd rfl h⟩
theorem tt46 : aM Tryz.prog 46 (tt 46) := ⟨⟨_, Tryz.underlying46, by kernel_rfl, by kernel_rfl⟩, ⟨Tryz.t46, by kernel_rfl, by kernel_rfl, by kernel_rfl, .agg #[.string ⟨#[]⟩, .int .u8 0, .string ⟨#[]⟩, .int .i64 0, .int .u64 0, .slice none 0 0, .slice none 0 0], by kernel_rfl, bG (ah cG (ah ak (ah cG (ah ak (ah ak (ah cn (ah cn bH)))))))⟩, fun h => absurd rfl h⟩
theorem tt47 : aM Tryz.prog 47 (tt 47) := ⟨⟨_, Tryz.underlying47, by kernel_rfl, by kernel_rfl⟩, ⟨Tryz.t47, by kernel_rfl, by kernel_rfl, by kernel_rfl, .agg #[.string ⟨#[]⟩, .int .u8 0, .string ⟨#[]⟩, .int .i64 0, .int .u64 0, .slice none 0 0, .slice none 0 0], by kernel_rfl, bG (ah cG (ah ak (ah cG (ah ak (ah ak (ah cn (ah cn bH)))))))⟩, fun h => absurd rfl h⟩
theorem tt48 : aM Tryz.prog 48 (tt 48) := ⟨Tryz.underlying48, ⟨Tryz.t48, by kernel_rfl, by kernel_rfl, by kernel_rfl, .slice none 0 0, by kernel_rfl, cn⟩, fun h => absurd rfl h⟩
theorem tt49 : aM Tryz.prog 49 (tt 49) := ⟨⟨_, Tryz.underlying49, by kernel_rfl, by kernel_rfl⟩, ⟨Tryz.t49, by kernel_rfl, by kernel_rfl, by kernel_rfl, .agg #[.string ⟨#[]⟩, .string ⟨#[]⟩, .slice none 0 0], by kernel_rfl, bG (ah cG (ah cG (ah cn bH)))⟩, fun h => absurd rfl h⟩
theorem tt50 : aM Tryz.prog 50 (tt 50) := ⟨⟨_, Tryz.underlying50, by kernel_rfl, by kernel_rfl⟩, ⟨Tryz.t50, by kernel_rfl, by kernel_rfl, by kernel_rfl, .agg #[.string ⟨#[]⟩, .string ⟨#[]⟩, .slice none 0 0], by kernel_rfl, bG (ah cG (ah cG (ah cn bH)))⟩, fun h => absurd rfl h⟩
theorem tt51 : aM Tryz.prog 51 (tt 51) := ⟨Tryz.underlying51, ⟨Tryz.t51, by kernel_rfl, by kernel_rfl, by kernel_rfl, .slice none 0 0, by kernel_rfl, cn⟩, fun h => absurd rfl h⟩
theorem tt52 : aM Tryz.prog 52 (tt 52) := ⟨⟨_, Tryz.underlying52, by kernel_rfl, by kernel_rfl⟩, ⟨Tryz.t52, by kernel_rfl, by kernel_rfl, by kernel_rfl, .agg #[.slice none 0 0, .slice none 0 0], by kernel_rfl, bG (ah cn (ah cn bH))⟩, fun h => absurd rfl h⟩
theorem tt53 : aM Tryz.prog 53 (tt 53) := ⟨⟨_, Tryz.underlying53, by kernel_rfl, by kernel_rfl⟩, ⟨Tryz.t53, by kernel_rfl, by kernel_rfl, by kernel_rfl, .agg #[.slice none 0 0, .slice none 0 0], by kernel_rfl, bG (ah cn (ah cn bH))⟩, fun h => absurd rfl h⟩
theorem tt55 : aM Tryz.prog 55 (tt 55) := ⟨Tryz.underlying55, ⟨Tryz.t55, by kernel_rfl, by kernel_rfl, by kernel_rfl, .pointer none, by kernel_rfl, ew⟩, fun h => absurd rfl h⟩
theorem tt60 : aM Tryz.prog 60 (tt 60) := ⟨Tryz.underlying60, ⟨Tryz.t60, by kernel_rfl, by kernel_rfl, by kernel_rfl, .slice none 0 0, by kernel_rfl, cn⟩, fun h => absurd rfl h⟩
theorem tt64 : aM Tryz.prog 64 (tt 64) := ⟨Tryz.underlying64, ⟨Tryz.t64, by kernel_rfl, by kernel_rfl, by kernel_rfl, .slice none 0 0, by kernel_rfl, cn⟩, fun h => absurd rfl h⟩
theorem tt71 : aM Tryz.prog 71 (tt 71) := ⟨Tryz.underlying71, ⟨Tryz.t71, by kernel_rfl, by kernel_rfl, by kernel_rfl, .pointer none, by kernel_rfl, ew⟩, fun h => absurd rfl h⟩
theorem tt76 : aM Tryz.prog 76 (tt 76) := ⟨Tryz.underlying76, ⟨Tryz.t76, by kernel_rfl, by kernel_rfl, by kernel_rfl, .slice none 0 0, by kernel_rfl, cn⟩, fun h => absurd rfl h⟩
theorem tt79 : aM Tryz.prog 79 (tt 79) := ⟨⟨_, Tryz.underlying79, by kernel_rfl, by kernel_rfl⟩, ⟨Tryz.t79, by kernel_rfl, by kernel_rfl, by kernel_rfl, .agg #[.slice none 0 0], by kernel_rfl, bG (ah cn bH)⟩, fun h => absurd rfl h⟩
theorem tt80 : aM Tryz.prog 80 (tt 80) := ⟨⟨_, Tryz.underlying80, by kernel_rfl, by kernel_rfl⟩, ⟨Tryz.t80, by kernel_rfl, by kernel_rfl, by kernel_rfl, .agg #[.slice none 0 0], by kernel_rfl, bG (ah cn bH)⟩, fun h => absurd rfl h⟩
theorem tt83 : aM Tryz.prog 83 (tt 83) := ⟨⟨_, Tryz.underlying83, by kernel_rfl, by kernel_rfl⟩, ⟨Tryz.t83, by kernel_rfl, by kernel_rfl, by kernel_rfl, .agg #[.int .i64 0, .int .i64 0], by kernel_rfl, bG (ah ak (ah ak bH))⟩, fun h => fM h (by kernel_rfl) (by kernel_rfl) (by kernel_rfl) (by kernel_rfl)⟩
theorem tt84 : aM Tryz.prog 84 (tt 84) := ⟨⟨_, Tryz.underlying84, by kernel_rfl, by kernel_rfl⟩, ⟨Tryz.t84, by kernel_rfl, by kernel_rfl, by kernel_rfl, .agg #[.int .i64 0, .int .i64 0], by kernel_rfl, bG (ah ak (ah ak bH))⟩, fun h => fM h (by kernel_rfl) (by kernel_rfl) (by kernel_rfl) (by kernel_rfl)⟩
theorem tt85 : aM Tryz.prog 85 (tt 85) := ⟨⟨_, Tryz.underlying85, by kernel_rfl, by kernel_rfl⟩, ⟨Tryz.t85, by kernel_rfl, by kernel_rfl, by kernel_rfl, .agg #[.int .i64 0, .int .i64 0, .int .u64 0, .string ⟨#[]⟩], by kernel_rfl, bG (ah ak (ah ak (ah ak (ah cG bH))))⟩, fun h => fM h (by kernel_rfl) (by kernel_rfl) (by kernel_rfl) (by kernel_rfl)⟩
theorem tt86 : aM Tryz.prog 86 (tt 86) := ⟨⟨_, Tryz.underlying86, by kernel_rfl, by kernel_rfl⟩, ⟨Tryz.t86, by kernel_rfl, by kernel_rfl, by kernel_rfl, .agg #[.int .i64 0, .int .i64 0, .int .u64 0, .string ⟨#[]⟩], by kernel_rfl, bG (ah ak (ah ak (ah ak (ah cG bH))))⟩, fun h => fM h (by kernel_rfl) (by kernel_rfl) (by kernel_rfl) (by kernel_rfl)⟩
theorem tt97 : aM Tryz.prog 97 (tt 97) := ⟨⟨_, Tryz.underlying97, by kernel_rfl, by kernel_rfl⟩, ⟨Tryz.t97, by kernel_rfl, by kernel_rfl, by kernel_rfl, .agg #[.string ⟨#[]⟩, .int .i64 0, .int .i64 0, .int .i64 0], by kernel_rfl, bG (ah cG (ah ak (ah ak (ah ak bH))))⟩, fun h => fM h (by kernel_rfl) (by kernel_rfl) (by kernel_rfl) (by kernel_rfl)⟩
theorem tt98 : aM Tryz.prog 98 (tt 98) := ⟨⟨_, Tryz.underlying98, by kernel_rfl, by kernel_rfl⟩, ⟨Tryz.t98, by kernel_rfl, by kernel_rfl, by kernel_rfl, .agg #[.string ⟨#[]⟩, .int .i64 0, .int .i64 0, .int .i64 0], by kernel_rfl, bG (ah cG (ah ak (ah ak (ah ak bH))))⟩, fun h => fM h (by kernel_rfl) (by kernel_rfl) (by kernel_rfl) (by kernel_rfl)⟩
theorem tt100 : aM Tryz.prog 100 (tt 100) := ⟨⟨_, Tryz.underlying100, by kernel_rfl, by kernel_rfl⟩, ⟨Tryz.t100, by kernel_rfl, by kernel_rfl, by kernel_rfl, .agg #[.int .i64 0, .int .i64 0, .int .u64 0, .string ⟨#[]⟩], by kernel_rfl, bG (ah ak (ah ak (ah ak (ah cG bH))))⟩, fun h => fM h (by kernel_rfl) (by kernel_rfl) (by kernel_rfl) (by kernel_rfl)⟩
theorem tt110 : aM Tryz.prog 110 (tt 110) := ⟨Tryz.underlying110, ⟨Tryz.t110, by kernel_rfl, by kernel_rfl, by kernel_rfl, .slice none 0 0, by kernel_rfl, cn⟩, fun h => absurd rfl h⟩
theorem tt111 : aM Tryz.prog 111 (tt 111) := ⟨⟨_, Tryz.underlying111, by kernel_rfl, by kernel_rfl⟩, ⟨Tryz.t111, by kernel_rfl, by kernel_rfl, by kernel_rfl, .agg #[.slice none 0 0, .int .i64 0], by kernel_rfl, bG (ah cn (ah ak bH))⟩, fun h => absurd rfl h⟩
theorem tt112 : aM Tryz.prog 112 (tt 112) := ⟨⟨_, Tryz.underlying112, by kernel_rfl, by kernel_rfl⟩, ⟨Tryz.t112, by kernel_rfl, by kernel_rfl, by kernel_rfl, .agg #[.slice none 0 0, .int .i64 0], by kernel_rfl, bG (ah cn (ah ak bH))⟩, fun h => absurd rfl h⟩
theorem tt113 : aM Tryz.prog 113 (tt 113) := ⟨⟨_, Tryz.underlying113, by kernel_rfl, by kernel_rfl⟩, ⟨Tryz.t113, by kernel_rfl, by kernel_rfl, by kernel_rfl, .agg #[.int .i64 0, .int .i64 0], by kernel_rfl, bG (ah ak (ah ak bH))⟩, fun h => fM h (by kernel_rfl) (by kernel_rfl) (by kernel_rfl) (by kernel_rfl)⟩
theorem tt115 : aM Tryz.prog 115 (tt 115) := ⟨⟨_, Tryz.underlying115, by kernel_rfl, by kernel_rfl⟩, ⟨Tryz.t115, by kernel_rfl, by kernel_rfl, by kernel_rfl, .agg #[.int .i64 0, .int .i64 0, .pointer none, .int .i64 0], by kernel_rfl, bG (ah ak (ah ak (ah ew (ah ak bH))))⟩, fun h => absurd rfl h⟩
theorem tt116 : aM Tryz.prog 116 (tt 116) := ⟨⟨_, Tryz.underlying116, by kernel_rfl, by kernel_rfl⟩, ⟨Tryz.t116, by kernel_rfl, by kernel_rfl, by kernel_rfl, .agg #[.int .i64 0, .int .i64 0, .pointer none, .int .i64 0], by kernel_rfl, bG (ah ak (ah ak (ah ew (ah ak bH))))⟩, fun h => absurd rfl h⟩
theorem tt119 : aM Tryz.prog 119 (tt 119) := ⟨Tryz.underlying119, ⟨Tryz.t119, by kernel_rfl, by kernel_rfl, by kernel_rfl, .slice none 0 0, by kernel_rfl, cn⟩, fun h => absurd rfl h⟩
theorem tt121 : aM Tryz.prog 121 (tt 121) := ⟨Tryz.underlying121, ⟨Tryz.t121, by kernel_rfl, by kernel_rfl, by kernel_rfl, .pointer none, by kernel_rfl, ew⟩, fun h => absurd rfl h⟩
theorem tt132 : aM Tryz.prog 132 (tt 132) := ⟨Tryz.underlying132, ⟨Tryz.t132, by kernel_rfl, by kernel_rfl, by kernel_rfl, .map none, by kernel_rfl, zMap⟩, fun _ => Mk Tryz.underlying9⟩
theorem tt144 : aM Tryz.prog 144 (tt 144) := ⟨⟨_, Tryz.underlying144, by kernel_rfl, by kernel_rfl⟩, ⟨Tryz.t144, by kernel_rfl, by kernel_rfl, by kernel_rfl, .agg #[.int .u64 0, .string ⟨#[]⟩, .slice none 0 0], by kernel_rfl, bG (ah ak (ah cG (ah cn bH)))⟩, fun h => absurd rfl h⟩
theorem tt145 : aM Tryz.prog 145 (tt 145) := ⟨⟨_, Tryz.underlying145, by kernel_rfl, by kernel_rfl⟩, ⟨Tryz.t145, by kernel_rfl, by kernel_rfl, by kernel_rfl, .agg #[.int .u64 0, .string ⟨#[]⟩, .slice none 0 0], by kernel_rfl, bG (ah ak (ah cG (ah cn bH)))⟩, fun h => absurd rfl h⟩
theorem tt146 : aM Tryz.prog 146 (tt 146) := ⟨⟨_, Tryz.underlying146, by kernel_rfl, by kernel_rfl⟩, ⟨Tryz.t146, by kernel_rfl, by kernel_rfl, by kernel_rfl, .agg #[.int .u8 0, .int .u8 0, .int .u8 0, .int .u8 0, .int .u8 0, .int .u8 0, .int .u8 0, .int .u8 0, .int .u8 0, .int .u8 0, .int .u8 0, .int .u8 0, .int .u8 0, .int .u8 0, .int .u8 0, .int .u8 0, .int .u8 0, .int .u8 0, .int .u8 0, .int .u8 0, .int .u8 0, .int .u8 0, .int .u8 0, .int .u8 0, .string ⟨#[]⟩, .slice none 0 0], by kernel_rfl, bG (ah ak (ah ak (ah ak (ah ak (ah ak (ah ak (ah ak (ah ak (ah ak (ah ak (ah ak (ah ak (ah ak (ah ak (ah ak (ah ak (ah ak (ah ak (ah ak (ah ak (ah ak (ah ak (ah ak (ah ak (ah cG (ah cn bH))))))))))))))))))))))))))⟩, fun h => absurd rfl h⟩
theorem tt147 : aM Tryz.prog 147 (tt 147) := ⟨⟨_, Tryz.underlying147, by kernel_rfl, by kernel_rfl⟩, ⟨Tryz.t147, by kernel_rfl, by kernel_rfl, by kernel_rfl, .agg #[.int .u8 0, .int .u8 0, .int .u8 0, .int .u8 0, .int .u8 0, .int .u8 0, .int .u8 0, .int .u8 0, .int .u8 0, .int .u8 0, .int .u8 0, .int .u8 0, .int .u8 0, .int .u8 0, .int .u8 0, .int .u8 0, .int .u8 0, .int .u8 0, .int .u8 0, .int .u8 0, .int .u8 0, .int .u8 0, .int .u8 0, .int .u8 0, .string ⟨#[]⟩, .slice none 0 0], by kernel_rfl, bG (ah ak (ah ak (ah ak (ah ak (ah ak (ah ak (ah ak (ah ak (ah ak (ah ak (ah ak (ah ak (ah ak (ah ak (ah ak (ah ak (ah ak (ah ak (ah ak (ah ak (ah ak (ah ak (ah ak (ah ak (ah cG (ah cn bH))))))))))))))))))))))))))⟩, fun h => absurd rfl h⟩
theorem tt148 : aM Tryz.prog 148 (tt 148) := ⟨⟨_, Tryz.underlying148⟩, ⟨Tryz.t148, by kernel_rfl, by kernel_rfl, by kernel_rfl, .nilIface, by kernel_rfl, A5⟩, fun h => absurd rfl h⟩
theorem tt149 : aM Tryz.prog 149 (tt 149) := ⟨⟨_, Tryz.underlying149⟩, ⟨Tryz.t149, by kernel_rfl, by kernel_rfl, by kernel_rfl, .nilIface, by kernel_rfl, A5⟩, fun h => absurd rfl h⟩
theorem tt154 : aM Tryz.prog 154 (tt 154) := ⟨⟨_, Tryz.underlying154, by kernel_rfl, by kernel_rfl⟩, ⟨Tryz.t154, by kernel_rfl, by kernel_rfl, by kernel_rfl, .agg #[.string ⟨#[]⟩, .int .i64 0, .int .i64 0, .int .i64 0], by kernel_rfl, bG (ah cG (ah ak (ah ak (ah ak bH))))⟩, fun h => fM h (by kernel_rfl) (by kernel_rfl) (by kernel_rfl) (by kernel_rfl)⟩
theorem tt155 : aM Tryz.prog 155 (tt 155) := ⟨⟨_, Tryz.underlying155, by kernel_rfl, by kernel_rfl⟩, ⟨Tryz.t155, by kernel_rfl, by kernel_rfl, by kernel_rfl, .agg #[.string ⟨#[]⟩, .int .i64 0, .int .i64 0, .int .i64 0], by kernel_rfl, bG (ah cG (ah ak (ah ak (ah ak bH))))⟩, fun h => fM h (by kernel_rfl) (by kernel_rfl) (by kernel_rfl) (by kernel_rfl)⟩
theorem tt157 : aM Tryz.prog 157 (tt 157) := ⟨Tryz.underlying157, ⟨Tryz.t157, by kernel_rfl, by kernel_rfl, by kernel_rfl, .pointer none, by kernel_rfl, ew⟩, fun h => absurd rfl h⟩
theorem tt159 : aM Tryz.prog 159 (tt 159) := ⟨⟨_, Tryz.underlying159, by kernel_rfl, by kernel_rfl⟩, ⟨Tryz.t159, by kernel_rfl, by kernel_rfl, by kernel_rfl, .agg #[.pointer none, .int .i64 0], by kernel_rfl, bG (ah ew (ah ak bH))⟩, fun h => absurd rfl h⟩
theorem tt160 : aM Tryz.prog 160 (tt 160) := ⟨⟨_, Tryz.underlying160, by kernel_rfl, by kernel_rfl⟩, ⟨Tryz.t160, by kernel_rfl, by kernel_rfl, by kernel_rfl, .agg #[.pointer none, .int .i64 0], by kernel_rfl, bG (ah ew (ah ak bH))⟩, fun h => absurd rfl h⟩
theorem tt177 : aM Tryz.prog 177 (tt 177) := ⟨Tryz.underlying177, ⟨Tryz.t177, by kernel_rfl, by kernel_rfl, by kernel_rfl, .int .u64 0, by kernel_rfl, ak⟩, fun h => absurd rfl h⟩
theorem tt184 : aM Tryz.prog 184 (tt 184) := ⟨⟨_, _, _, Tryz.underlying184⟩, ⟨Tryz.t184, by kernel_rfl, by kernel_rfl, by kernel_rfl, .nilFunc, by kernel_rfl, vu⟩, fun h => absurd rfl h⟩
theorem tt195 : aM Tryz.prog 195 (tt 195) := ⟨Tryz.underlying195, ⟨Tryz.t195, by kernel_rfl, by kernel_rfl, by kernel_rfl, .agg #[.int .i64 0, .int .i64 0, .int .i64 0, .int .i64 0, .int .i64 0, .int .i64 0, .int .i64 0, .int .i64 0], by kernel_rfl, bG (ah ak (ah ak (ah ak (ah ak (ah ak (ah ak (ah ak (ah ak bH))))))))⟩, fun h => fM h (by kernel_rfl) (by kernel_rfl) (by kernel_rfl) (by kernel_rfl)⟩
theorem tt202 : aM Tryz.prog 202 (tt 202) := ⟨Tryz.underlying202, ⟨Tryz.t202, by kernel_rfl, by kernel_rfl, by kernel_rfl, .int .u32 0, by kernel_rfl, ak⟩, fun h => absurd rfl h⟩
theorem tt205 : aM Tryz.prog 205 (tt 205) := ⟨Tryz.underlying205, ⟨Tryz.t205, by kernel_rfl, by kernel_rfl, by kernel_rfl, .slice none 0 0, by kernel_rfl, cn⟩, fun h => absurd rfl h⟩
theorem tt215 : aM Tryz.prog 215 (tt 215) := ⟨Tryz.underlying215, ⟨Tryz.t215, by kernel_rfl, by kernel_rfl, by kernel_rfl, .int .i64 0, by kernel_rfl, ak⟩, fun h => absurd rfl h⟩
theorem tt236 : aM Tryz.prog 236 (tt 236) := ⟨Tryz.underlying236, ⟨Tryz.t236, by kernel_rfl, by kernel_rfl, by kernel_rfl, .int .u64 0, by kernel_rfl, ak⟩, fun h => absurd rfl h⟩
theorem tt240 : aM Tryz.prog 240 (tt 240) := ⟨Tryz.underlying240, ⟨Tryz.t240, by kernel_rfl, by kernel_rfl, by kernel_rfl, .pointer none, by kernel_rfl, ew⟩, fun h => absurd rfl h⟩
theorem tt243 : aM Tryz.prog 243 (tt 243) := ⟨⟨_, Tryz.underlying243, by kernel_rfl, by kernel_rfl⟩, ⟨Tryz.t243, by kernel_rfl, by kernel_rfl, by kernel_rfl, .agg #[.int .i64 0, .int .i64 0, .int .u64 0, .string ⟨#[]⟩], by kernel_rfl, bG (ah ak (ah ak (ah ak (ah cG bH))))⟩, fun h => fM h (by kernel_rfl) (by kernel_rfl) (by kernel_rfl) (by kernel_rfl)⟩
theorem tt248 : aM Tryz.prog 248 (tt 248) := ⟨Tryz.underlying248, ⟨Tryz.t248, by kernel_rfl, by kernel_rfl, by kernel_rfl, .pointer none, by kernel_rfl, ew⟩, fun h => absurd rfl h⟩
theorem tt251 : aM Tryz.prog 251 (tt 251) := ⟨⟨_, Tryz.underlying251, by kernel_rfl, by kernel_rfl⟩, ⟨Tryz.t251, by kernel_rfl, by kernel_rfl, by kernel_rfl, .agg #[.pointer none, .pointer none, .pointer none, .string ⟨#[]⟩], by kernel_rfl, bG (ah ew (ah ew (ah ew (ah cG bH))))⟩, fun h => absurd rfl h⟩
theorem tt252 : aM Tryz.prog 252 (tt 252) := ⟨⟨_, Tryz.underlying252, by kernel_rfl, by kernel_rfl⟩, ⟨Tryz.t252, by kernel_rfl, by kernel_rfl, by kernel_rfl, .agg #[.pointer none, .pointer none, .pointer none, .string ⟨#[]⟩], by kernel_rfl, bG (ah ew (ah ew (ah ew (ah cG bH))))⟩, fun h => absurd rfl h⟩
theorem tt256 : aM Tryz.prog 256 (tt 256) := ⟨Tryz.underlying256, ⟨Tryz.t256, by kernel_rfl, by kernel_rfl, by kernel_rfl, .int .u8 0, by kernel_rfl, ak⟩, fun h => absurd rfl h⟩
theorem tt257 : aM Tryz.prog 257 (tt 257) := ⟨Tryz.underlying257, ⟨Tryz.t257, by kernel_rfl, by kernel_rfl, by kernel_rfl, .int .u8 0, by kernel_rfl, ak⟩, fun h => absurd rfl h⟩
theorem tt258 : aM Tryz.prog 258 (tt 258) := ⟨⟨_, _, _, Tryz.underlying258⟩, ⟨Tryz.t258, by kernel_rfl, by kernel_rfl, by kernel_rfl, .nilFunc, by kernel_rfl, vu⟩, fun h => absurd rfl h⟩
theorem tt259 : aM Tryz.prog 259 (tt 259) := ⟨Tryz.underlying259, ⟨Tryz.t259, by kernel_rfl, by kernel_rfl, by kernel_rfl, .pointer none, by kernel_rfl, ew⟩, fun h => absurd rfl h⟩
theorem tt260 : aM Tryz.prog 260 (tt 260) := ⟨Tryz.underlying260, ⟨Tryz.t260, by kernel_rfl, by kernel_rfl, by kernel_rfl, .int .i32 0, by kernel_rfl, ak⟩, fun h => absurd rfl h⟩
theorem tt261 : aM Tryz.prog 261 (tt 261) := ⟨Tryz.underlying261, ⟨Tryz.t261, by kernel_rfl, by kernel_rfl, by kernel_rfl, .int .i32 0, by kernel_rfl, ak⟩, fun h => absurd rfl h⟩
theorem tt263 : aM Tryz.prog 263 (tt 263) := ⟨⟨_, Tryz.underlying263, by kernel_rfl, by kernel_rfl⟩, ⟨Tryz.t263, by kernel_rfl, by kernel_rfl, by kernel_rfl, .agg #[.int .u64 0, .int .u64 0, .int .u32 0, .int .u8 0, .int .u8 0, .int .u8 0, .int .u8 0, .nilFunc, .pointer none, .int .i32 0, .int .i32 0], by kernel_rfl, bG (ah ak (ah ak (ah ak (ah ak (ah ak (ah ak (ah ak (ah vu (ah ew (ah ak (ah ak bH)))))))))))⟩, fun h => absurd rfl h⟩
theorem sM : ∀ t, aM Tryz.prog t (tt t) := fun t => by
 unfold tt
 split
 . exact tt1
 . exact tt2
 . exact tt3
 . exact tt4
 . exact tt5
 . exact tt6
 . exact tt7
 . exact tt8
 . exact tt9
 . exact tt10
 . exact tt11
 . exact tt12
 . exact tt13
 . exact tt14
 . exact tt15
 . exact tt16
 . exact tt17
 . exact tt18
 . exact tt19
 . exact tt20
 . exact tt21
 . exact tt23
 . exact tt24
 . exact tt25
 . exact tt26
 . exact tt31
 . exact tt32
 . exact tt33
 . exact tt34
 . exact tt35
 . exact tt36
 . exact tt37
 . exact tt38
 . exact tt39
 . exact tt40
 . exact tt41
 . exact tt42
 . exact tt43
 . exact tt44
 . exact tt45
 . exact tt46
 . exact tt47
 . exact tt48
 . exact tt49
 . exact tt50
 . exact tt51
 . exact tt52
 . exact tt53
 . exact tt55
 . exact tt60
 . exact tt64
 . exact tt71
 . exact tt76
 . exact tt79
 . exact tt80
 . exact tt83
 . exact tt84
 . exact tt85
 . exact tt86
 . exact tt97
 . exact tt98
 . exact tt100
 . exact tt110
 . exact tt111
 . exact tt112
 . exact tt113
 . exact tt115
 . exact tt116
 . exact tt119
 . exact tt121
 . exact tt132
 . exact tt144
 . exact tt145
 . exact tt146
 . exact tt147
 . exact tt148
 . exact tt149
 . exact tt154
 . exact tt155
 . exact tt157
 . exact tt159
 . exact tt160
 . exact tt177
 . exact tt184
 . exact tt195
 . exact tt202
 . exact tt205
 . exact tt215
 . exact tt236
 . exact tt240
 . exact tt243
 . exact tt248
 . exact tt251
 . exact tt252
 . exact tt256
 . exact tt257
 . exact tt258
 . exact tt259
 . exact tt260
 . exact tt261
 . exact tt263
 . trivial
def p7 : TypeId → Bool := fun t => match t with
 | 2 => true
 | 3 => true
 | 4 => true
 | 5 => true
 | 6 => true
 | 7 => true
 | 8 => true
 | 9 => true
 | 10 => true
 | 11 => true
 | 12 => true
 | 13 => true
 | 14 => true
 | 21 => true
 | 23 => true
 | 24 => true
 | 25 => true
 | 26 => true
 | 31 => true
 | 32 => true
 | 33 => true
 | 34 => true
 | 35 => true
 | 36 => true
 | 37 => true
 | 38 => true
 | 39 => true
 | 40 => true
 | 41 => true
 | 42 => true
 | 43 => true
 | 44 => true
 | 45 => true
 | 46 => true
 | 47 => true
 | 48 => true
 | 49 => true
 | 50 => true
 | 51 => true
 | 52 => true
 | 53 => true
 | 60 => true
 | 64 => true
 | 76 => true
 | 79 => true
 | 80 => true
 | 83 => true
 | 84 => true
 | 85 => true
 | 86 => true
 | 97 => true
 | 98 => true
 | 100 => true
 | 113 => true
 | 119 => true
 | 144 => true
 | 145 => true
 | 146 => true
 | 147 => true
 | 154 => true
 | 155 => true
 | 177 => true
 | 195 => true
 | 202 => true
 | 205 => true
 | 215 => true
 | 236 => true
 | 243 => true
 | 256 => true
 | 257 => true
 | 260 => true
 | 261 => true
 | _ => false
theorem FO : oQ Tryz.prog tt p7 where
 tys := sM
 kids := fun t h => by
  unfold p7 at h; split at h <;> first | (cases h; done) | rfl
 pos := fun t h => by
  unfold p7 at h; split at h <;> first
   | (cases h; done)
   | exact .inl ⟨_, rfl, by decide⟩
   | (refine .inr (.inr (And.intro ?_ ?_)) <;> (intro e hh; cases hh))
 fields := fun t fs h k => by
  unfold p7 at h; split at h <;> first
   | (cases h; done)
   | (cases k; rfl)
   | (cases k; done)
 array := fun t m e h k => by
  unfold p7 at h; split at h <;> first
   | (cases h; done)
   | (cases k; rfl)
   | (cases k; done)
end Go.Proofs.YtdjolnjlhbfnmaaGreatDoor
