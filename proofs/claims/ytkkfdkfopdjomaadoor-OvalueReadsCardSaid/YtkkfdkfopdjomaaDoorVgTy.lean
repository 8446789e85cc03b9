/-
  The table of the seat's types, and that it is the program's. Printed by a program of mine (tygen.py).
-/
import Derived.Test.YtkkfdkfopdjomaaDoorVgX
import Derived.Test.YtkkfdkfopdjomaaDoorVgMA
import Derived.Test.YtkkfdkfopdjomaaDoorProg
import Derived.KernelRfl
set_option maxHeartbeats 4000000
namespace Go.Proofs.YtkkfdkfopdjomaaDoor
open Go Go.VG
set_option maxRecDepth 100000
def tt : TypeId → TI := fun t => match t with
  | 1 => ⟨.func, 1, 8, .nilFunc, []⟩
  | 2 => ⟨.int .i64, 1, 8, .int .i64 0, []⟩
  | 3 => ⟨.int .i64, 1, 8, .int .i64 0, []⟩
  | 4 => ⟨.bool, 1, 1, .bool false, []⟩
  | 5 => ⟨.int .u8, 1, 1, .int .u8 0, []⟩
  | 6 => ⟨.int .u8, 1, 1, .int .u8 0, []⟩
  | 7 => ⟨.struct [(0, 2), (1, 3), (2, 4), (3, 6)], 4, 24, .agg [.int .i64 0, .int .i64 0, .bool false, .int .u8 0], []⟩
  | 8 => ⟨.struct [(0, 2), (1, 3), (2, 4), (3, 6)], 4, 24, .agg [.int .i64 0, .int .i64 0, .bool false, .int .u8 0], []⟩
  | 9 => ⟨.string, 1, 16, .str [], []⟩
  | 10 => ⟨.string, 1, 16, .str [], []⟩
  | 11 => ⟨.string, 1, 16, .str [], []⟩
  | 12 => ⟨.int .u64, 1, 8, .int .u64 0, []⟩
  | 13 => ⟨.struct [(0, 9), (1, 12)], 2, 24, .agg [.str [], .int .u64 0], []⟩
  | 14 => ⟨.struct [(0, 9), (1, 12)], 2, 24, .agg [.str [], .int .u64 0], []⟩
  | 15 => ⟨.ptr 142, 1, 8, .nilptr, []⟩
  | 16 => ⟨.ptr 145, 1, 8, .nilptr, []⟩
  | 17 => ⟨.ptr 153, 1, 8, .nilptr, []⟩
  | 18 => ⟨.struct [(0, 17)], 1, 8, .agg [.nilptr], []⟩
  | 19 => ⟨.struct [(0, 17)], 1, 8, .agg [.nilptr], []⟩
  | 20 => ⟨.iface, 1, 16, .nilIface, []⟩
  | 21 => ⟨.int .i32, 1, 4, .int .i32 0, []⟩
  | 22 => ⟨.slice 9, 1, 24, .list true 0 [], []⟩
  | 23 => ⟨.func, 1, 8, .nilFunc, []⟩
  | 24 => ⟨.int .u64, 1, 8, .int .u64 0, []⟩
  | 25 => ⟨.slice 28, 1, 24, .list true 0 [], []⟩
  | 26 => ⟨.slice 41, 1, 24, .list true 0 [], []⟩
  | 27 => ⟨.struct [(0, 5), (1, 9), (2, 3), (3, 24), (4, 25), (5, 26)], 6, 88, .agg [.int .u8 0, .str [], .int .i64 0, .int .u64 0, .list true 0 [], .list true 0 []], []⟩
  | 28 => ⟨.struct [(0, 5), (1, 9), (2, 3), (3, 24), (4, 25), (5, 26)], 6, 88, .agg [.int .u8 0, .str [], .int .i64 0, .int .u64 0, .list true 0 [], .list true 0 []], []⟩
  | 29 => ⟨.int .i64, 1, 8, .int .i64 0, []⟩
  | 31 => ⟨.func, 1, 8, .nilFunc, []⟩
  | 33 => ⟨.func, 1, 8, .nilFunc, []⟩
  | 34 => ⟨.func, 1, 8, .nilFunc, []⟩
  | 35 => ⟨.func, 1, 8, .nilFunc, []⟩
  | 36 => ⟨.func, 1, 8, .nilFunc, []⟩
  | 37 => ⟨.ptr 70, 1, 8, .nilptr, []⟩
  | 38 => ⟨.func, 1, 8, .nilFunc, []⟩
  | 39 => ⟨.func, 1, 8, .nilFunc, []⟩
  | 40 => ⟨.struct [(0, 9), (1, 28)], 7, 104, .agg [.str [], .int .u8 0, .str [], .int .i64 0, .int .u64 0, .list true 0 [], .list true 0 []], []⟩
  | 41 => ⟨.struct [(0, 9), (1, 28)], 7, 104, .agg [.str [], .int .u8 0, .str [], .int .i64 0, .int .u64 0, .list true 0 [], .list true 0 []], []⟩
  | 42 => ⟨.func, 1, 8, .nilFunc, []⟩
  | 43 => ⟨.func, 1, 8, .nilFunc, []⟩
  | 44 => ⟨.ptr 80, 1, 8, .nilptr, []⟩
  | 46 => ⟨.func, 1, 8, .nilFunc, []⟩
  | 47 => ⟨.slice 50, 1, 24, .list true 0 [], []⟩
  | 48 => ⟨.array 8 3, 8, 64, .agg [.int .i64 0, .int .i64 0, .int .i64 0, .int .i64 0, .int .i64 0, .int .i64 0, .int .i64 0, .int .i64 0], []⟩
  | 49 => ⟨.struct [(0, 3), (1, 3)], 2, 16, .agg [.int .i64 0, .int .i64 0], [.kI .i64, .kI .i64]⟩
  | 50 => ⟨.struct [(0, 3), (1, 3)], 2, 16, .agg [.int .i64 0, .int .i64 0], [.kI .i64, .kI .i64]⟩
  | 51 => ⟨.struct [(0, 3), (1, 3), (2, 24), (3, 9)], 4, 40, .agg [.int .i64 0, .int .i64 0, .int .u64 0, .str []], [.kI .i64, .kI .i64, .kI .u64, .kS]⟩
  | 52 => ⟨.struct [(0, 3), (1, 3), (2, 24), (3, 9)], 4, 40, .agg [.int .i64 0, .int .i64 0, .int .u64 0, .str []], [.kI .i64, .kI .i64, .kI .u64, .kS]⟩
  | 54 => ⟨.func, 1, 8, .nilFunc, []⟩
  | 56 => ⟨.func, 1, 8, .nilFunc, []⟩
  | 57 => ⟨.func, 1, 8, .nilFunc, []⟩
  | 58 => ⟨.slice 62, 1, 24, .list true 0 [], []⟩
  | 60 => ⟨.func, 1, 8, .nilFunc, []⟩
  | 61 => ⟨.func, 1, 8, .nilFunc, []⟩
  | 62 => ⟨.struct [(0, 3), (1, 3), (2, 24), (3, 9)], 4, 40, .agg [.int .i64 0, .int .i64 0, .int .u64 0, .str []], [.kI .i64, .kI .i64, .kI .u64, .kS]⟩
  | 63 => ⟨.func, 1, 8, .nilFunc, []⟩
  | 65 => ⟨.func, 1, 8, .nilFunc, []⟩
  | 67 => ⟨.func, 1, 8, .nilFunc, []⟩
  | 68 => ⟨.slice 99, 1, 24, .list true 0 [], []⟩
  | 69 => ⟨.struct [(0, 68), (1, 3)], 2, 32, .agg [.list true 0 [], .int .i64 0], []⟩
  | 70 => ⟨.struct [(0, 68), (1, 3)], 2, 32, .agg [.list true 0 [], .int .i64 0], []⟩
  | 71 => ⟨.func, 1, 8, .nilFunc, []⟩
  | 72 => ⟨.func, 1, 8, .nilFunc, []⟩
  | 73 => ⟨.func, 1, 8, .nilFunc, []⟩
  | 74 => ⟨.slice 5, 1, 24, .list true 0 [], []⟩
  | 75 => ⟨.func, 1, 8, .nilFunc, []⟩
  | 76 => ⟨.slice 52, 1, 24, .list true 0 [], []⟩
  | 78 => ⟨.func, 1, 8, .nilFunc, []⟩
  | 79 => ⟨.struct [(0, 76)], 1, 24, .agg [.list true 0 []], []⟩
  | 80 => ⟨.struct [(0, 76)], 1, 24, .agg [.list true 0 []], []⟩
  | 81 => ⟨.func, 1, 8, .nilFunc, []⟩
  | 82 => ⟨.func, 1, 8, .nilFunc, []⟩
  | 83 => ⟨.func, 1, 8, .nilFunc, []⟩
  | 84 => ⟨.func, 1, 8, .nilFunc, []⟩
  | 85 => ⟨.func, 1, 8, .nilFunc, []⟩
  | 86 => ⟨.struct [(0, 9), (1, 3), (2, 3), (3, 29)], 4, 40, .agg [.str [], .int .i64 0, .int .i64 0, .int .i64 0], [.kS, .kI .i64, .kI .i64, .kI .i64]⟩
  | 87 => ⟨.struct [(0, 9), (1, 3), (2, 3), (3, 29)], 4, 40, .agg [.str [], .int .i64 0, .int .i64 0, .int .i64 0], [.kS, .kI .i64, .kI .i64, .kI .i64]⟩
  | 88 => ⟨.func, 1, 8, .nilFunc, []⟩
  | 90 => ⟨.func, 1, 8, .nilFunc, []⟩
  | 91 => ⟨.func, 1, 8, .nilFunc, []⟩
  | 92 => ⟨.func, 1, 8, .nilFunc, []⟩
  | 93 => ⟨.func, 1, 8, .nilFunc, []⟩
  | 94 => ⟨.func, 1, 8, .nilFunc, []⟩
  | 95 => ⟨.func, 1, 8, .nilFunc, []⟩
  | 96 => ⟨.struct [(0, 50), (2, 37), (3, 3)], 4, 32, .agg [.int .i64 0, .int .i64 0, .nilptr, .int .i64 0], []⟩
  | 97 => ⟨.struct [(0, 50), (2, 37), (3, 3)], 4, 32, .agg [.int .i64 0, .int .i64 0, .nilptr, .int .i64 0], []⟩
  | 98 => ⟨.iface, 1, 16, .nilIface, []⟩
  | 99 => ⟨.iface, 1, 16, .nilIface, []⟩
  | 100 => ⟨.ptr 114, 1, 8, .nilptr, []⟩
  | 101 => ⟨.func, 1, 8, .nilFunc, []⟩
  | 102 => ⟨.func, 1, 8, .nilFunc, []⟩
  | 103 => ⟨.func, 1, 8, .nilFunc, []⟩
  | 104 => ⟨.func, 1, 8, .nilFunc, []⟩
  | 105 => ⟨.func, 1, 8, .nilFunc, []⟩
  | 106 => ⟨.func, 1, 8, .nilFunc, []⟩
  | 107 => ⟨.struct [(0, 3), (1, 3)], 2, 16, .agg [.int .i64 0, .int .i64 0], [.kI .i64, .kI .i64]⟩
  | 109 => ⟨.func, 1, 8, .nilFunc, []⟩
  | 110 => ⟨.func, 1, 8, .nilFunc, []⟩
  | 111 => ⟨.struct [(0, 52)], 4, 40, .agg [.int .i64 0, .int .i64 0, .int .u64 0, .str []], [.kI .i64, .kI .i64, .kI .u64, .kS]⟩
  | 112 => ⟨.struct [(0, 52)], 4, 40, .agg [.int .i64 0, .int .i64 0, .int .u64 0, .str []], [.kI .i64, .kI .i64, .kI .u64, .kS]⟩
  | 113 => ⟨.struct [(0, 9), (1, 3), (2, 3), (3, 29)], 4, 40, .agg [.str [], .int .i64 0, .int .i64 0, .int .i64 0], [.kS, .kI .i64, .kI .i64, .kI .i64]⟩
  | 114 => ⟨.struct [(0, 9), (1, 3), (2, 3), (3, 29)], 4, 40, .agg [.str [], .int .i64 0, .int .i64 0, .int .i64 0], [.kS, .kI .i64, .kI .i64, .kI .i64]⟩
  | 115 => ⟨.func, 1, 8, .nilFunc, []⟩
  | 117 => ⟨.func, 1, 8, .nilFunc, []⟩
  | 118 => ⟨.func, 1, 8, .nilFunc, []⟩
  | 119 => ⟨.func, 1, 8, .nilFunc, []⟩
  | 120 => ⟨.func, 1, 8, .nilFunc, []⟩
  | 122 => ⟨.func, 1, 8, .nilFunc, []⟩
  | 123 => ⟨.func, 1, 8, .nilFunc, []⟩
  | 124 => ⟨.func, 1, 8, .nilFunc, []⟩
  | 125 => ⟨.int .u32, 1, 4, .int .u32 0, []⟩
  | 126 => ⟨.func, 1, 8, .nilFunc, []⟩
  | 127 => ⟨.func, 1, 8, .nilFunc, []⟩
  | 128 => ⟨.func, 1, 8, .nilFunc, []⟩
  | 129 => ⟨.func, 1, 8, .nilFunc, []⟩
  | 130 => ⟨.func, 1, 8, .nilFunc, []⟩
  | 131 => ⟨.func, 1, 8, .nilFunc, []⟩
  | 132 => ⟨.func, 1, 8, .nilFunc, []⟩
  | 133 => ⟨.func, 1, 8, .nilFunc, []⟩
  | 134 => ⟨.func, 1, 8, .nilFunc, []⟩
  | 135 => ⟨.func, 1, 8, .nilFunc, []⟩
  | 136 => ⟨.int .u64, 1, 8, .int .u64 0, []⟩
  | 137 => ⟨.func, 1, 8, .nilFunc, []⟩
  | 138 => ⟨.func, 1, 8, .nilFunc, []⟩
  | 139 => ⟨.func, 1, 8, .nilFunc, []⟩
  | 141 => ⟨.struct [(0, 17), (1, 17), (2, 17), (3, 9)], 4, 40, .agg [.nilptr, .nilptr, .nilptr, .str []], []⟩
  | 142 => ⟨.struct [(0, 17), (1, 17), (2, 17), (3, 9)], 4, 40, .agg [.nilptr, .nilptr, .nilptr, .str []], []⟩
  | 146 => ⟨.int .u8, 1, 1, .int .u8 0, []⟩
  | 147 => ⟨.int .u8, 1, 1, .int .u8 0, []⟩
  | 148 => ⟨.func, 1, 8, .nilFunc, []⟩
  | 149 => ⟨.ptr 5, 1, 8, .nilptr, []⟩
  | 150 => ⟨.int .i32, 1, 4, .int .i32 0, []⟩
  | 151 => ⟨.int .i32, 1, 4, .int .i32 0, []⟩
  | 152 => ⟨.struct [(0, 12), (1, 12), (2, 125), (3, 146), (4, 5), (5, 5), (6, 147), (7, 148), (8, 149), (9, 150), (10, 151)], 11, 48, .agg [.int .u64 0, .int .u64 0, .int .u32 0, .int .u8 0, .int .u8 0, .int .u8 0, .int .u8 0, .nilFunc, .nilptr, .int .i32 0, .int .i32 0], []⟩
  | 153 => ⟨.struct [(0, 12), (1, 12), (2, 125), (3, 146), (4, 5), (5, 5), (6, 147), (7, 148), (8, 149), (9, 150), (10, 151)], 11, 48, .agg [.int .u64 0, .int .u64 0, .int .u32 0, .int .u8 0, .int .u8 0, .int .u8 0, .int .u8 0, .nilFunc, .nilptr, .int .i32 0, .int .i32 0], []⟩
  | 154 => ⟨.func, 1, 8, .nilFunc, []⟩
  | 155 => ⟨.func, 1, 8, .nilFunc, []⟩
  | 156 => ⟨.func, 1, 8, .nilFunc, []⟩
  | 157 => ⟨.func, 1, 8, .nilFunc, []⟩
  | 158 => ⟨.func, 1, 8, .nilFunc, []⟩
  | 159 => ⟨.func, 1, 8, .nilFunc, []⟩
  | 160 => ⟨.func, 1, 8, .nilFunc, []⟩
  | 161 => ⟨.func, 1, 8, .nilFunc, []⟩
  | 162 => ⟨.array 8 5, 8, 8, .agg [.int .u8 0, .int .u8 0, .int .u8 0, .int .u8 0, .int .u8 0, .int .u8 0, .int .u8 0, .int .u8 0], []⟩
  | _ => ⟨.other, 0, 0, .undef, []⟩
theorem tt1 : TIok Tryd.prog 1 (tt 1) := ⟨⟨_, _, _, Tryd.underlying1⟩, ⟨Tryd.t1, by kernel_rfl, by kernel_rfl, by kernel_rfl, .nilFunc, by kernel_rfl, zFunc⟩, fun h => absurd rfl h⟩
theorem tt2 : TIok Tryd.prog 2 (tt 2) := ⟨Tryd.underlying2, ⟨Tryd.t2, by kernel_rfl, by kernel_rfl, by kernel_rfl, .int .i64 0, by kernel_rfl, zInt⟩, fun h => absurd rfl h⟩
theorem tt3 : TIok Tryd.prog 3 (tt 3) := ⟨Tryd.underlying3, ⟨Tryd.t3, by kernel_rfl, by kernel_rfl, by kernel_rfl, .int .i64 0, by kernel_rfl, zInt⟩, fun h => absurd rfl h⟩
theorem tt4 : TIok Tryd.prog 4 (tt 4) := ⟨Tryd.underlying4, ⟨Tryd.t4, by kernel_rfl, by kernel_rfl, by kernel_rfl, .bool false, by kernel_rfl, zBool⟩, fun h => absurd rfl h⟩
theorem tt5 : TIok Tryd.prog 5 (tt 5) := ⟨Tryd.underlying5, ⟨Tryd.t5, by kernel_rfl, by kernel_rfl, by kernel_rfl, .int .u8 0, by kernel_rfl, zInt⟩, fun h => absurd rfl h⟩
theorem tt6 : TIok Tryd.prog 6 (tt 6) := ⟨Tryd.underlying6, ⟨Tryd.t6, by kernel_rfl, by kernel_rfl, by kernel_rfl, .int .u8 0, by kernel_rfl, zInt⟩, fun h => absurd rfl h⟩
theorem tt7 : TIok Tryd.prog 7 (tt 7) := ⟨⟨_, Tryd.underlying7, by kernel_rfl, by kernel_rfl⟩, ⟨Tryd.t7, by kernel_rfl, by kernel_rfl, by kernel_rfl, .agg #[.int .i64 0, .int .i64 0, .bool false, .int .u8 0], by kernel_rfl, zAgg (zCons zInt (zCons zInt (zCons zBool (zCons zInt zNil))))⟩, fun h => absurd rfl h⟩
theorem tt8 : TIok Tryd.prog 8 (tt 8) := ⟨⟨_, Tryd.underlying8, by kernel_rfl, by kernel_rfl⟩, ⟨Tryd.t8, by kernel_rfl, by kernel_rfl, by kernel_rfl, .agg #[.int .i64 0, .int .i64 0, .bool false, .int .u8 0], by kernel_rfl, zAgg (zCons zInt (zCons zInt (zCons zBool (zCons zInt zNil))))⟩, fun h => absurd rfl h⟩
theorem tt9 : TIok Tryd.prog 9 (tt 9) := ⟨Tryd.underlying9, ⟨Tryd.t9, by kernel_rfl, by kernel_rfl, by kernel_rfl, .string ⟨#[]⟩, by kernel_rfl, zStr⟩, fun h => absurd rfl h⟩
theorem tt10 : TIok Tryd.prog 10 (tt 10) := ⟨Tryd.underlying10, ⟨Tryd.t10, by kernel_rfl, by kernel_rfl, by kernel_rfl, .string ⟨#[]⟩, by kernel_rfl, zStr⟩, fun h => absurd rfl h⟩
theorem tt11 : TIok Tryd.prog 11 (tt 11) := ⟨Tryd.underlying11, ⟨Tryd.t11, by kernel_rfl, by kernel_rfl, by kernel_rfl, .string ⟨#[]⟩, by kernel_rfl, zStr⟩, fun h => absurd rfl h⟩
theorem tt12 : TIok Tryd.prog 12 (tt 12) := ⟨Tryd.underlying12, ⟨Tryd.t12, by kernel_rfl, by kernel_rfl, by kernel_rfl, .int .u64 0, by kernel_rfl, zInt⟩, fun h => absurd rfl h⟩
theorem tt13 : TIok Tryd.prog 13 (tt 13) := ⟨⟨_, Tryd.underlying13, by kernel_rfl, by kernel_rfl⟩, ⟨Tryd.t13, by kernel_rfl, by kernel_rfl, by kernel_rfl, .agg #[.string ⟨#[]⟩, .int .u64 0], by kernel_rfl, zAgg (zCons zStr (zCons zInt zNil))⟩, fun h => absurd rfl h⟩
theorem tt14 : TIok Tryd.prog 14 (tt 14) := ⟨⟨_, Tryd.underlying14, by kernel_rfl, by kernel_rfl⟩, ⟨Tryd.t14, by kernel_rfl, by kernel_rfl, by kernel_rfl, .agg #[.string ⟨#[]⟩, .int .u64 0], by kernel_rfl, zAgg (zCons zStr (zCons zInt zNil))⟩, fun h => absurd rfl h⟩
theorem tt15 : TIok Tryd.prog 15 (tt 15) := ⟨Tryd.underlying15, ⟨Tryd.t15, by kernel_rfl, by kernel_rfl, by kernel_rfl, .pointer none, by kernel_rfl, zPtr⟩, fun h => absurd rfl h⟩
theorem tt16 : TIok Tryd.prog 16 (tt 16) := ⟨Tryd.underlying16, ⟨Tryd.t16, by kernel_rfl, by kernel_rfl, by kernel_rfl, .pointer none, by kernel_rfl, zPtr⟩, fun h => absurd rfl h⟩
theorem tt17 : TIok Tryd.prog 17 (tt 17) := ⟨Tryd.underlying17, ⟨Tryd.t17, by kernel_rfl, by kernel_rfl, by kernel_rfl, .pointer none, by kernel_rfl, zPtr⟩, fun h => absurd rfl h⟩
theorem tt18 : TIok Tryd.prog 18 (tt 18) := ⟨⟨_, Tryd.underlying18, by kernel_rfl, by kernel_rfl⟩, ⟨Tryd.t18, by kernel_rfl, by kernel_rfl, by kernel_rfl, .agg #[.pointer none], by kernel_rfl, zAgg (zCons zPtr zNil)⟩, fun h => absurd rfl h⟩
theorem tt19 : TIok Tryd.prog 19 (tt 19) := ⟨⟨_, Tryd.underlying19, by kernel_rfl, by kernel_rfl⟩, ⟨Tryd.t19, by kernel_rfl, by kernel_rfl, by kernel_rfl, .agg #[.pointer none], by kernel_rfl, zAgg (zCons zPtr zNil)⟩, fun h => absurd rfl h⟩
theorem tt20 : TIok Tryd.prog 20 (tt 20) := ⟨⟨_, Tryd.underlying20⟩, ⟨Tryd.t20, by kernel_rfl, by kernel_rfl, by kernel_rfl, .nilIface, by kernel_rfl, zIface⟩, fun h => absurd rfl h⟩
theorem tt21 : TIok Tryd.prog 21 (tt 21) := ⟨Tryd.underlying21, ⟨Tryd.t21, by kernel_rfl, by kernel_rfl, by kernel_rfl, .int .i32 0, by kernel_rfl, zInt⟩, fun h => absurd rfl h⟩
theorem tt22 : TIok Tryd.prog 22 (tt 22) := ⟨Tryd.underlying22, ⟨Tryd.t22, by kernel_rfl, by kernel_rfl, by kernel_rfl, .slice none 0 0, by kernel_rfl, zList⟩, fun h => absurd rfl h⟩
theorem tt23 : TIok Tryd.prog 23 (tt 23) := ⟨⟨_, _, _, Tryd.underlying23⟩, ⟨Tryd.t23, by kernel_rfl, by kernel_rfl, by kernel_rfl, .nilFunc, by kernel_rfl, zFunc⟩, fun h => absurd rfl h⟩
theorem tt24 : TIok Tryd.prog 24 (tt 24) := ⟨Tryd.underlying24, ⟨Tryd.t24, by kernel_rfl, by kernel_rfl, by kernel_rfl, .int .u64 0, by kernel_rfl, zInt⟩, fun h => absurd rfl h⟩
theorem tt25 : TIok Tryd.prog 25 (tt 25) := ⟨Tryd.underlying25, ⟨Tryd.t25, by kernel_rfl, by kernel_rfl, by kernel_rfl, .slice none 0 0, by kernel_rfl, zList⟩, fun h => absurd rfl h⟩
theorem tt26 : TIok Tryd.prog 26 (tt 26) := ⟨Tryd.underlying26, ⟨Tryd.t26, by kernel_rfl, by kernel_rfl, by kernel_rfl, .slice none 0 0, by kernel_rfl, zList⟩, fun h => absurd rfl h⟩
theorem tt27 : TIok Tryd.prog 27 (tt 27) := ⟨⟨_, Tryd.underlying27, by kernel_rfl, by kernel_rfl⟩, ⟨Tryd.t27, by kernel_rfl, by kernel_rfl, by kernel_rfl, .agg #[.int .u8 0, .string ⟨#[]⟩, .int .i64 0, .int .u64 0, .slice none 0 0, .slice none 0 0], by kernel_rfl, zAgg (zCons zInt (zCons zStr (zCons zInt (zCons zInt (zCons zList (zCons zList zNil))))))⟩, fun h => absurd rfl h⟩
theorem tt28 : TIok Tryd.prog 28 (tt 28) := ⟨⟨_, Tryd.underlying28, by kernel_rfl, by kernel_rfl⟩, ⟨Tryd.t28, by kernel_rfl, by kernel_rfl, by kernel_rfl, .agg #[.int .u8 0, .string ⟨#[]⟩, .int .i64 0, .int .u64 0, .slice none 0 0, .slice none 0 0], by kernel_rfl, zAgg (zCons zInt (zCons zStr (zCons zInt (zCons zInt (zCons zList (zCons zList zNil))))))⟩, fun h => absurd rfl h⟩
theorem tt29 : TIok Tryd.prog 29 (tt 29) := ⟨Tryd.underlying29, ⟨Tryd.t29, by kernel_rfl, by kernel_rfl, by kernel_rfl, .int .i64 0, by kernel_rfl, zInt⟩, fun h => absurd rfl h⟩
theorem tt31 : TIok Tryd.prog 31 (tt 31) := ⟨⟨_, _, _, Tryd.underlying31⟩, ⟨Tryd.t31, by kernel_rfl, by kernel_rfl, by kernel_rfl, .nilFunc, by kernel_rfl, zFunc⟩, fun h => absurd rfl h⟩
theorem tt33 : TIok Tryd.prog 33 (tt 33) := ⟨⟨_, _, _, Tryd.underlying33⟩, ⟨Tryd.t33, by kernel_rfl, by kernel_rfl, by kernel_rfl, .nilFunc, by kernel_rfl, zFunc⟩, fun h => absurd rfl h⟩
theorem tt34 : TIok Tryd.prog 34 (tt 34) := ⟨⟨_, _, _, Tryd.underlying34⟩, ⟨Tryd.t34, by kernel_rfl, by kernel_rfl, by kernel_rfl, .nilFunc, by kernel_rfl, zFunc⟩, fun h => absurd rfl h⟩
theorem tt35 : TIok Tryd.prog 35 (tt 35) := ⟨⟨_, _, _, Tryd.underlying35⟩, ⟨Tryd.t35, by kernel_rfl, by kernel_rfl, by kernel_rfl, .nilFunc, by kernel_rfl, zFunc⟩, fun h => absurd rfl h⟩
theorem tt36 : TIok Tryd.prog 36 (tt 36) := ⟨⟨_, _, _, Tryd.underlying36⟩, ⟨Tryd.t36, by kernel_rfl, by kernel_rfl, by kernel_rfl, .nilFunc, by kernel_rfl, zFunc⟩, fun h => absurd rfl h⟩
theorem tt37 : TIok Tryd.prog 37 (tt 37) := ⟨Tryd.underlying37, ⟨Tryd.t37, by kernel_rfl, by kernel_rfl, by kernel_rfl, .pointer none, by kernel_rfl, zPtr⟩, fun h => absurd rfl h⟩
theorem tt38 : TIok Tryd.prog 38 (tt 38) := ⟨⟨_, _, _, Tryd.underlying38⟩, ⟨Tryd.t38, by kernel_rfl, by kernel_rfl, by kernel_rfl, .nilFunc, by kernel_rfl, zFunc⟩, fun h => absurd rfl h⟩
theorem tt39 : TIok Tryd.prog 39 (tt 39) := ⟨⟨_, _, _, Tryd.underlying39⟩, ⟨Tryd.t39, by kernel_rfl, by kernel_rfl, by kernel_rfl, .nilFunc, by kernel_rfl, zFunc⟩, fun h => absurd rfl h⟩
theorem tt40 : TIok Tryd.prog 40 (tt 40) := ⟨⟨_, Tryd.underlying40, by kernel_rfl, by kernel_rfl⟩, ⟨Tryd.t40, by kernel_rfl, by kernel_rfl, by kernel_rfl, .agg #[.string ⟨#[]⟩, .int .u8 0, .string ⟨#[]⟩, .int .i64 0, .int .u64 0, .slice none 0 0, .slice none 0 0], by kernel_rfl, zAgg (zCons zStr (zCons zInt (zCons zStr (zCons zInt (zCons zInt (zCons zList (zCons zList zNil)))))))⟩, fun h => absurd rfl h⟩
theorem tt41 : TIok Tryd.prog 41 (tt 41) := ⟨⟨_, Tryd.underlying41, by kernel_rfl, by kernel_rfl⟩, ⟨Tryd.t41, by kernel_rfl, by kernel_rfl, by kernel_rfl, .agg #[.string ⟨#[]⟩, .int .u8 0, .string ⟨#[]⟩, .int .i64 0, .int .u64 0, .slice none 0 0, .slice none 0 0], by kernel_rfl, zAgg (zCons zStr (zCons zInt (zCons zStr (zCons zInt (zCons zInt (zCons zList (zCons zList zNil)))))))⟩, fun h => absurd rfl h⟩
theorem tt42 : TIok Tryd.prog 42 (tt 42) := ⟨⟨_, _, _, Tryd.underlying42⟩, ⟨Tryd.t42, by kernel_rfl, by kernel_rfl, by kernel_rfl, .nilFunc, by kernel_rfl, zFunc⟩, fun h => absurd rfl h⟩
theorem tt43 : TIok Tryd.prog 43 (tt 43) := ⟨⟨_, _, _, Tryd.underlying43⟩, ⟨Tryd.t43, by kernel_rfl, by kernel_rfl, by kernel_rfl, .nilFunc, by kernel_rfl, zFunc⟩, fun h => absurd rfl h⟩
theorem tt44 : TIok Tryd.prog 44 (tt 44) := ⟨Tryd.underlying44, ⟨Tryd.t44, by kernel_rfl, by kernel_rfl, by kernel_rfl, .pointer none, by kernel_rfl, zPtr⟩, fun h => absurd rfl h⟩
theorem tt46 : TIok Tryd.prog 46 (tt 46) := ⟨⟨_, _, _, Tryd.underlying46⟩, ⟨Tryd.t46, by kernel_rfl, by kernel_rfl, by kernel_rfl, .nilFunc, by kernel_rfl, zFunc⟩, fun h => absurd rfl h⟩
theorem tt47 : TIok Tryd.prog 47 (tt 47) := ⟨Tryd.underlying47, ⟨Tryd.t47, by kernel_rfl, by kernel_rfl, by kernel_rfl, .slice none 0 0, by kernel_rfl, zList⟩, fun h => absurd rfl h⟩
theorem tt48 : TIok Tryd.prog 48 (tt 48) := ⟨Tryd.underlying48, ⟨Tryd.t48, by kernel_rfl, by kernel_rfl, by kernel_rfl, .agg #[.int .i64 0, .int .i64 0, .int .i64 0, .int .i64 0, .int .i64 0, .int .i64 0, .int .i64 0, .int .i64 0], by kernel_rfl, zAgg (zCons zInt (zCons zInt (zCons zInt (zCons zInt (zCons zInt (zCons zInt (zCons zInt (zCons zInt zNil))))))))⟩, fun h => absurd rfl h⟩
theorem tt49 : TIok Tryd.prog 49 (tt 49) := ⟨⟨_, Tryd.underlying49, by kernel_rfl, by kernel_rfl⟩, ⟨Tryd.t49, by kernel_rfl, by kernel_rfl, by kernel_rfl, .agg #[.int .i64 0, .int .i64 0], by kernel_rfl, zAgg (zCons zInt (zCons zInt zNil))⟩, fun h => feq_of h (by kernel_rfl) (by kernel_rfl) (by kernel_rfl) (by kernel_rfl)⟩
theorem tt50 : TIok Tryd.prog 50 (tt 50) := ⟨⟨_, Tryd.underlying50, by kernel_rfl, by kernel_rfl⟩, ⟨Tryd.t50, by kernel_rfl, by kernel_rfl, by kernel_rfl, .agg #[.int .i64 0, .int .i64 0], by kernel_rfl, zAgg (zCons zInt (zCons zInt zNil))⟩, fun h => feq_of h (by kernel_rfl) (by kernel_rfl) (by kernel_rfl) (by kernel_rfl)⟩
theorem tt51 : TIok Tryd.prog 51 (tt 51) := ⟨⟨_, Tryd.underlying51, by kernel_rfl, by kernel_rfl⟩, ⟨Tryd.t51, by kernel_rfl, by kernel_rfl, by kernel_rfl, .agg #[.int .i64 0, .int .i64 0, .int .u64 0, .string ⟨#[]⟩], by kernel_rfl, zAgg (zCons zInt (zCons zInt (zCons zInt (zCons zStr zNil))))⟩, fun h => feq_of h (by kernel_rfl) (by kernel_rfl) (by kernel_rfl) (by kernel_rfl)⟩
theorem tt52 : TIok Tryd.prog 52 (tt 52) := ⟨⟨_, Tryd.underlying52, by kernel_rfl, by kernel_rfl⟩, ⟨Tryd.t52, by kernel_rfl, by kernel_rfl, by kernel_rfl, .agg #[.int .i64 0, .int .i64 0, .int .u64 0, .string ⟨#[]⟩], by kernel_rfl, zAgg (zCons zInt (zCons zInt (zCons zInt (zCons zStr zNil))))⟩, fun h => feq_of h (by kernel_rfl) (by kernel_rfl) (by kernel_rfl) (by kernel_rfl)⟩
theorem tt54 : TIok Tryd.prog 54 (tt 54) := ⟨⟨_, _, _, Tryd.underlying54⟩, ⟨Tryd.t54, by kernel_rfl, by kernel_rfl, by kernel_rfl, .nilFunc, by kernel_rfl, zFunc⟩, fun h => absurd rfl h⟩
theorem tt56 : TIok Tryd.prog 56 (tt 56) := ⟨⟨_, _, _, Tryd.underlying56⟩, ⟨Tryd.t56, by kernel_rfl, by kernel_rfl, by kernel_rfl, .nilFunc, by kernel_rfl, zFunc⟩, fun h => absurd rfl h⟩
theorem tt57 : TIok Tryd.prog 57 (tt 57) := ⟨⟨_, _, _, Tryd.underlying57⟩, ⟨Tryd.t57, by kernel_rfl, by kernel_rfl, by kernel_rfl, .nilFunc, by kernel_rfl, zFunc⟩, fun h => absurd rfl h⟩
theorem tt58 : TIok Tryd.prog 58 (tt 58) := ⟨Tryd.underlying58, ⟨Tryd.t58, by kernel_rfl, by kernel_rfl, by kernel_rfl, .slice none 0 0, by kernel_rfl, zList⟩, fun h => absurd rfl h⟩
theorem tt60 : TIok Tryd.prog 60 (tt 60) := ⟨⟨_, _, _, Tryd.underlying60⟩, ⟨Tryd.t60, by kernel_rfl, by kernel_rfl, by kernel_rfl, .nilFunc, by kernel_rfl, zFunc⟩, fun h => absurd rfl h⟩
theorem tt61 : TIok Tryd.prog 61 (tt 61) := ⟨⟨_, _, _, Tryd.underlying61⟩, ⟨Tryd.t61, by kernel_rfl, by kernel_rfl, by kernel_rfl, .nilFunc, by kernel_rfl, zFunc⟩, fun h => absurd rfl h⟩
theorem tt62 : TIok Tryd.prog 62 (tt 62) := ⟨⟨_, Tryd.underlying62, by kernel_rfl, by kernel_rfl⟩, ⟨Tryd.t62, by kernel_rfl, by kernel_rfl, by kernel_rfl, .agg #[.int .i64 0, .int .i64 0, .int .u64 0, .string ⟨#[]⟩], by kernel_rfl, zAgg (zCons zInt (zCons zInt (zCons zInt (zCons zStr zNil))))⟩, fun h => feq_of h (by kernel_rfl) (by kernel_rfl) (by kernel_rfl) (by kernel_rfl)⟩
theorem tt63 : TIok Tryd.prog 63 (tt 63) := ⟨⟨_, _, _, Tryd.underlying63⟩, ⟨Tryd.t63, by kernel_rfl, by kernel_rfl, by kernel_rfl, .nilFunc, by kernel_rfl, zFunc⟩, fun h => absurd rfl h⟩
theorem tt65 : TIok Tryd.prog 65 (tt 65) := ⟨⟨_, _, _, Tryd.underlying65⟩, ⟨Tryd.t65, by kernel_rfl, by kernel_rfl, by kernel_rfl, .nilFunc, by kernel_rfl, zFunc⟩, fun h => absurd rfl h⟩
theorem tt67 : TIok Tryd.prog 67 (tt 67) := ⟨⟨_, _, _, Tryd.underlying67⟩, ⟨Tryd.t67, by kernel_rfl, by kernel_rfl, by kernel_rfl, .nilFunc, by kernel_rfl, zFunc⟩, fun h => absurd rfl h⟩
theorem tt68 : TIok Tryd.prog 68 (tt 68) := ⟨Tryd.underlying68, ⟨Tryd.t68, by kernel_rfl, by kernel_rfl, by kernel_rfl, .slice none 0 0, by kernel_rfl, zList⟩, fun h => absurd rfl h⟩
theorem tt69 : TIok Tryd.prog 69 (tt 69) := ⟨⟨_, Tryd.underlying69, by kernel_rfl, by kernel_rfl⟩, ⟨Tryd.t69, by kernel_rfl, by kernel_rfl, by kernel_rfl, .agg #[.slice none 0 0, .int .i64 0], by kernel_rfl, zAgg (zCons zList (zCons zInt zNil))⟩, fun h => absurd rfl h⟩
theorem tt70 : TIok Tryd.prog 70 (tt 70) := ⟨⟨_, Tryd.underlying70, by kernel_rfl, by kernel_rfl⟩, ⟨Tryd.t70, by kernel_rfl, by kernel_rfl, by kernel_rfl, .agg #[.slice none 0 0, .int .i64 0], by kernel_rfl, zAgg (zCons zList (zCons zInt zNil))⟩, fun h => absurd rfl h⟩
theorem tt71 : TIok Tryd.prog 71 (tt 71) := ⟨⟨_, _, _, Tryd.underlying71⟩, ⟨Tryd.t71, by kernel_rfl, by kernel_rfl, by kernel_rfl, .nilFunc, by kernel_rfl, zFunc⟩, fun h => absurd rfl h⟩
theorem tt72 : TIok Tryd.prog 72 (tt 72) := ⟨⟨_, _, _, Tryd.underlying72⟩, ⟨Tryd.t72, by kernel_rfl, by kernel_rfl, by kernel_rfl, .nilFunc, by kernel_rfl, zFunc⟩, fun h => absurd rfl h⟩
theorem tt73 : TIok Tryd.prog 73 (tt 73) := ⟨⟨_, _, _, Tryd.underlying73⟩, ⟨Tryd.t73, by kernel_rfl, by kernel_rfl, by kernel_rfl, .nilFunc, by kernel_rfl, zFunc⟩, fun h => absurd rfl h⟩
theorem tt74 : TIok Tryd.prog 74 (tt 74) := ⟨Tryd.underlying74, ⟨Tryd.t74, by kernel_rfl, by kernel_rfl, by kernel_rfl, .slice none 0 0, by kernel_rfl, zList⟩, fun h => absurd rfl h⟩
theorem tt75 : TIok Tryd.prog 75 (tt 75) := ⟨⟨_, _, _, Tryd.underlying75⟩, ⟨Tryd.t75, by kernel_rfl, by kernel_rfl, by kernel_rfl, .nilFunc, by kernel_rfl, zFunc⟩, fun h => absurd rfl h⟩
theorem tt76 : TIok Tryd.prog 76 (tt 76) := ⟨Tryd.underlying76, ⟨Tryd.t76, by kernel_rfl, by kernel_rfl, by kernel_rfl, .slice none 0 0, by kernel_rfl, zList⟩, fun h => absurd rfl h⟩
theorem tt78 : TIok Tryd.prog 78 (tt 78) := ⟨⟨_, _, _, Tryd.underlying78⟩, ⟨Tryd.t78, by kernel_rfl, by kernel_rfl, by kernel_rfl, .nilFunc, by kernel_rfl, zFunc⟩, fun h => absurd rfl h⟩
theorem tt79 : TIok Tryd.prog 79 (tt 79) := ⟨⟨_, Tryd.underlying79, by kernel_rfl, by kernel_rfl⟩, ⟨Tryd.t79, by kernel_rfl, by kernel_rfl, by kernel_rfl, .agg #[.slice none 0 0], by kernel_rfl, zAgg (zCons zList zNil)⟩, fun h => absurd rfl h⟩
theorem tt80 : TIok Tryd.prog 80 (tt 80) := ⟨⟨_, Tryd.underlying80, by kernel_rfl, by kernel_rfl⟩, ⟨Tryd.t80, by kernel_rfl, by kernel_rfl, by kernel_rfl, .agg #[.slice none 0 0], by kernel_rfl, zAgg (zCons zList zNil)⟩, fun h => absurd rfl h⟩
theorem tt81 : TIok Tryd.prog 81 (tt 81) := ⟨⟨_, _, _, Tryd.underlying81⟩, ⟨Tryd.t81, by kernel_rfl, by kernel_rfl, by kernel_rfl, .nilFunc, by kernel_rfl, zFunc⟩, fun h => absurd rfl h⟩
theorem tt82 : TIok Tryd.prog 82 (tt 82) := ⟨⟨_, _, _, Tryd.underlying82⟩, ⟨Tryd.t82, by kernel_rfl, by kernel_rfl, by kernel_rfl, .nilFunc, by kernel_rfl, zFunc⟩, fun h => absurd rfl h⟩
theorem tt83 : TIok Tryd.prog 83 (tt 83) := ⟨⟨_, _, _, Tryd.underlying83⟩, ⟨Tryd.t83, by kernel_rfl, by kernel_rfl, by kernel_rfl, .nilFunc, by kernel_rfl, zFunc⟩, fun h => absurd rfl h⟩
theorem tt84 : TIok Tryd.prog 84 (tt 84) := ⟨⟨_, _, _, Tryd.underlying84⟩, ⟨Tryd.t84, by kernel_rfl, by kernel_rfl, by kernel_rfl, .nilFunc, by kernel_rfl, zFunc⟩, fun h => absurd rfl h⟩
theorem tt85 : TIok Tryd.prog 85 (tt 85) := ⟨⟨_, _, _, Tryd.underlying85⟩, ⟨Tryd.t85, by kernel_rfl, by kernel_rfl, by kernel_rfl, .nilFunc, by kernel_rfl, zFunc⟩, fun h => absurd rfl h⟩
theorem tt86 : TIok Tryd.prog 86 (tt 86) := ⟨⟨_, Tryd.underlying86, by kernel_rfl, by kernel_rfl⟩, ⟨Tryd.t86, by kernel_rfl, by kernel_rfl, by kernel_rfl, .agg #[.string ⟨#[]⟩, .int .i64 0, .int .i64 0, .int .i64 0], by kernel_rfl, zAgg (zCons zStr (zCons zInt (zCons zInt (zCons zInt zNil))))⟩, fun h => feq_of h (by kernel_rfl) (by kernel_rfl) (by kernel_rfl) (by kernel_rfl)⟩
theorem tt87 : TIok Tryd.prog 87 (tt 87) := ⟨⟨_, Tryd.underlying87, by kernel_rfl, by kernel_rfl⟩, ⟨Tryd.t87, by kernel_rfl, by kernel_rfl, by kernel_rfl, .agg #[.string ⟨#[]⟩, .int .i64 0, .int .i64 0, .int .i64 0], by kernel_rfl, zAgg (zCons zStr (zCons zInt (zCons zInt (zCons zInt zNil))))⟩, fun h => feq_of h (by kernel_rfl) (by kernel_rfl) (by kernel_rfl) (by kernel_rfl)⟩
theorem tt88 : TIok Tryd.prog 88 (tt 88) := ⟨⟨_, _, _, Tryd.underlying88⟩, ⟨Tryd.t88, by kernel_rfl, by kernel_rfl, by kernel_rfl, .nilFunc, by kernel_rfl, zFunc⟩, fun h => absurd rfl h⟩
theorem tt90 : TIok Tryd.prog 90 (tt 90) := ⟨⟨_, _, _, Tryd.underlying90⟩, ⟨Tryd.t90, by kernel_rfl, by kernel_rfl, by kernel_rfl, .nilFunc, by kernel_rfl, zFunc⟩, fun h => absurd rfl h⟩
theorem tt91 : TIok Tryd.prog 91 (tt 91) := ⟨⟨_, _, _, Tryd.underlying91⟩, ⟨Tryd.t91, by kernel_rfl, by kernel_rfl, by kernel_rfl, .nilFunc, by kernel_rfl, zFunc⟩, fun h => absurd rfl h⟩
theorem tt92 : TIok Tryd.prog 92 (tt 92) := ⟨⟨_, _, _, Tryd.underlying92⟩, ⟨Tryd.t92, by kernel_rfl, by kernel_rfl, by kernel_rfl, .nilFunc, by kernel_rfl, zFunc⟩, fun h => absurd rfl h⟩
theorem tt93 : TIok Tryd.prog 93 (tt 93) := ⟨⟨_, _, _, Tryd.underlying93⟩, ⟨Tryd.t93, by kernel_rfl, by kernel_rfl, by kernel_rfl, .nilFunc, by kernel_rfl, zFunc⟩, fun h => absurd rfl h⟩
theorem tt94 : TIok Tryd.prog 94 (tt 94) := ⟨⟨_, _, _, Tryd.underlying94⟩, ⟨Tryd.t94, by kernel_rfl, by kernel_rfl, by kernel_rfl, .nilFunc, by kernel_rfl, zFunc⟩, fun h => absurd rfl h⟩
theorem tt95 : TIok Tryd.prog 95 (tt 95) := ⟨⟨_, _, _, Tryd.underlying95⟩, ⟨Tryd.t95, by kernel_rfl, by kernel_rfl, by kernel_rfl, .nilFunc, by kernel_rfl, zFunc⟩, fun h => absurd rfl h⟩
theorem tt96 : TIok Tryd.prog 96 (tt 96) := ⟨⟨_, Tryd.underlying96, by kernel_rfl, by kernel_rfl⟩, ⟨Tryd.t96, by kernel_rfl, by kernel_rfl, by kernel_rfl, .agg #[.int .i64 0, .int .i64 0, .pointer none, .int .i64 0], by kernel_rfl, zAgg (zCons zInt (zCons zInt (zCons zPtr (zCons zInt zNil))))⟩, fun h => absurd rfl h⟩
theorem tt97 : TIok Tryd.prog 97 (tt 97) := ⟨⟨_, Tryd.underlying97, by kernel_rfl, by kernel_rfl⟩, ⟨Tryd.t97, by kernel_rfl, by kernel_rfl, by kernel_rfl, .agg #[.int .i64 0, .int .i64 0, .pointer none, .int .i64 0], by kernel_rfl, zAgg (zCons zInt (zCons zInt (zCons zPtr (zCons zInt zNil))))⟩, fun h => absurd rfl h⟩
theorem tt98 : TIok Tryd.prog 98 (tt 98) := ⟨⟨_, Tryd.underlying98⟩, ⟨Tryd.t98, by kernel_rfl, by kernel_rfl, by kernel_rfl, .nilIface, by kernel_rfl, zIface⟩, fun h => absurd rfl h⟩
theorem tt99 : TIok Tryd.prog 99 (tt 99) := ⟨⟨_, Tryd.underlying99⟩, ⟨Tryd.t99, by kernel_rfl, by kernel_rfl, by kernel_rfl, .nilIface, by kernel_rfl, zIface⟩, fun h => absurd rfl h⟩
theorem tt100 : TIok Tryd.prog 100 (tt 100) := ⟨Tryd.underlying100, ⟨Tryd.t100, by kernel_rfl, by kernel_rfl, by kernel_rfl, .pointer none, by kernel_rfl, zPtr⟩, fun h => absurd rfl h⟩
theorem tt101 : TIok Tryd.prog 101 (tt 101) := ⟨⟨_, _, _, Tryd.underlying101⟩, ⟨Tryd.t101, by kernel_rfl, by kernel_rfl, by kernel_rfl, .nilFunc, by kernel_rfl, zFunc⟩, fun h => absurd rfl h⟩
theorem tt102 : TIok Tryd.prog 102 (tt 102) := ⟨⟨_, _, _, Tryd.underlying102⟩, ⟨Tryd.t102, by kernel_rfl, by kernel_rfl, by kernel_rfl, .nilFunc, by kernel_rfl, zFunc⟩, fun h => absurd rfl h⟩
theorem tt103 : TIok Tryd.prog 103 (tt 103) := ⟨⟨_, _, _, Tryd.underlying103⟩, ⟨Tryd.t103, by kernel_rfl, by kernel_rfl, by kernel_rfl, .nilFunc, by kernel_rfl, zFunc⟩, fun h => absurd rfl h⟩
theorem tt104 : TIok Tryd.prog 104 (tt 104) := ⟨⟨_, _, _, Tryd.underlying104⟩, ⟨Tryd.t104, by kernel_rfl, by kernel_rfl, by kernel_rfl, .nilFunc, by kernel_rfl, zFunc⟩, fun h => absurd rfl h⟩
theorem tt105 : TIok Tryd.prog 105 (tt 105) := ⟨⟨_, _, _, Tryd.underlying105⟩, ⟨Tryd.t105, by kernel_rfl, by kernel_rfl, by kernel_rfl, .nilFunc, by kernel_rfl, zFunc⟩, fun h => absurd rfl h⟩
theorem tt106 : TIok Tryd.prog 106 (tt 106) := ⟨⟨_, _, _, Tryd.underlying106⟩, ⟨Tryd.t106, by kernel_rfl, by kernel_rfl, by kernel_rfl, .nilFunc, by kernel_rfl, zFunc⟩, fun h => absurd rfl h⟩
theorem tt107 : TIok Tryd.prog 107 (tt 107) := ⟨⟨_, Tryd.underlying107, by kernel_rfl, by kernel_rfl⟩, ⟨Tryd.t107, by kernel_rfl, by kernel_rfl, by kernel_rfl, .agg #[.int .i64 0, .int .i64 0], by kernel_rfl, zAgg (zCons zInt (zCons zInt zNil))⟩, fun h => feq_of h (by kernel_rfl) (by kernel_rfl) (by kernel_rfl) (by kernel_rfl)⟩
theorem tt109 : TIok Tryd.prog 109 (tt 109) := ⟨⟨_, _, _, Tryd.underlying109⟩, ⟨Tryd.t109, by kernel_rfl, by kernel_rfl, by kernel_rfl, .nilFunc, by kernel_rfl, zFunc⟩, fun h => absurd rfl h⟩
theorem tt110 : TIok Tryd.prog 110 (tt 110) := ⟨⟨_, _, _, Tryd.underlying110⟩, ⟨Tryd.t110, by kernel_rfl, by kernel_rfl, by kernel_rfl, .nilFunc, by kernel_rfl, zFunc⟩, fun h => absurd rfl h⟩
theorem tt111 : TIok Tryd.prog 111 (tt 111) := ⟨⟨_, Tryd.underlying111, by kernel_rfl, by kernel_rfl⟩, ⟨Tryd.t111, by kernel_rfl, by kernel_rfl, by kernel_rfl, .agg #[.int .i64 0, .int .i64 0, .int .u64 0, .string ⟨#[]⟩], by kernel_rfl, zAgg (zCons zInt (zCons zInt (zCons zInt (zCons zStr zNil))))⟩, fun h => feq_of h (by kernel_rfl) (by kernel_rfl) (by kernel_rfl) (by kernel_rfl)⟩
theorem tt112 : TIok Tryd.prog 112 (tt 112) := ⟨⟨_, Tryd.underlying112, by kernel_rfl, by kernel_rfl⟩, ⟨Tryd.t112, by kernel_rfl, by kernel_rfl, by kernel_rfl, .agg #[.int .i64 0, .int .i64 0, .int .u64 0, .string ⟨#[]⟩], by kernel_rfl, zAgg (zCons zInt (zCons zInt (zCons zInt (zCons zStr zNil))))⟩, fun h => feq_of h (by kernel_rfl) (by kernel_rfl) (by kernel_rfl) (by kernel_rfl)⟩
theorem tt113 : TIok Tryd.prog 113 (tt 113) := ⟨⟨_, Tryd.underlying113, by kernel_rfl, by kernel_rfl⟩, ⟨Tryd.t113, by kernel_rfl, by kernel_rfl, by kernel_rfl, .agg #[.string ⟨#[]⟩, .int .i64 0, .int .i64 0, .int .i64 0], by kernel_rfl, zAgg (zCons zStr (zCons zInt (zCons zInt (zCons zInt zNil))))⟩, fun h => feq_of h (by kernel_rfl) (by kernel_rfl) (by kernel_rfl) (by kernel_rfl)⟩
theorem tt114 : TIok Tryd.prog 114 (tt 114) := ⟨⟨_, Tryd.underlying114, by kernel_rfl, by kernel_rfl⟩, ⟨Tryd.t114, by kernel_rfl, by kernel_rfl, by kernel_rfl, .agg #[.string ⟨#[]⟩, .int .i64 0, .int .i64 0, .int .i64 0], by kernel_rfl, zAgg (zCons zStr (zCons zInt (zCons zInt (zCons zInt zNil))))⟩, fun h => feq_of h (by kernel_rfl) (by kernel_rfl) (by kernel_rfl) (by kernel_rfl)⟩
theorem tt115 : TIok Tryd.prog 115 (tt 115) := ⟨⟨_, _, _, Tryd.underlying115⟩, ⟨Tryd.t115, by kernel_rfl, by kernel_rfl, by kernel_rfl, .nilFunc, by kernel_rfl, zFunc⟩, fun h => absurd rfl h⟩
theorem tt117 : TIok Tryd.prog 117 (tt 117) := ⟨⟨_, _, _, Tryd.underlying117⟩, ⟨Tryd.t117, by kernel_rfl, by kernel_rfl, by kernel_rfl, .nilFunc, by kernel_rfl, zFunc⟩, fun h => absurd rfl h⟩
theorem tt118 : TIok Tryd.prog 118 (tt 118) := ⟨⟨_, _, _, Tryd.underlying118⟩, ⟨Tryd.t118, by kernel_rfl, by kernel_rfl, by kernel_rfl, .nilFunc, by kernel_rfl, zFunc⟩, fun h => absurd rfl h⟩
theorem tt119 : TIok Tryd.prog 119 (tt 119) := ⟨⟨_, _, _, Tryd.underlying119⟩, ⟨Tryd.t119, by kernel_rfl, by kernel_rfl, by kernel_rfl, .nilFunc, by kernel_rfl, zFunc⟩, fun h => absurd rfl h⟩
theorem tt120 : TIok Tryd.prog 120 (tt 120) := ⟨⟨_, _, _, Tryd.underlying120⟩, ⟨Tryd.t120, by kernel_rfl, by kernel_rfl, by kernel_rfl, .nilFunc, by kernel_rfl, zFunc⟩, fun h => absurd rfl h⟩
theorem tt122 : TIok Tryd.prog 122 (tt 122) := ⟨⟨_, _, _, Tryd.underlying122⟩, ⟨Tryd.t122, by kernel_rfl, by kernel_rfl, by kernel_rfl, .nilFunc, by kernel_rfl, zFunc⟩, fun h => absurd rfl h⟩
theorem tt123 : TIok Tryd.prog 123 (tt 123) := ⟨⟨_, _, _, Tryd.underlying123⟩, ⟨Tryd.t123, by kernel_rfl, by kernel_rfl, by kernel_rfl, .nilFunc, by kernel_rfl, zFunc⟩, fun h => absurd rfl h⟩
theorem tt124 : TIok Tryd.prog 124 (tt 124) := ⟨⟨_, _, _, Tryd.underlying124⟩, ⟨Tryd.t124, by kernel_rfl, by kernel_rfl, by kernel_rfl, .nilFunc, by kernel_rfl, zFunc⟩, fun h => absurd rfl h⟩
theorem tt125 : TIok Tryd.prog 125 (tt 125) := ⟨Tryd.underlying125, ⟨Tryd.t125, by kernel_rfl, by kernel_rfl, by kernel_rfl, .int .u32 0, by kernel_rfl, zInt⟩, fun h => absurd rfl h⟩
theorem tt126 : TIok Tryd.prog 126 (tt 126) := ⟨⟨_, _, _, Tryd.underlying126⟩, ⟨Tryd.t126, by kernel_rfl, by kernel_rfl, by kernel_rfl, .nilFunc, by kernel_rfl, zFunc⟩, fun h => absurd rfl h⟩
theorem tt127 : TIok Tryd.prog 127 (tt 127) := ⟨⟨_, _, _, Tryd.underlying127⟩, ⟨Tryd.t127, by kernel_rfl, by kernel_rfl, by kernel_rfl, .nilFunc, by kernel_rfl, zFunc⟩, fun h => absurd rfl h⟩
theorem tt128 : TIok Tryd.prog 128 (tt 128) := ⟨⟨_, _, _, Tryd.underlying128⟩, ⟨Tryd.t128, by kernel_rfl, by kernel_rfl, by kernel_rfl, .nilFunc, by kernel_rfl, zFunc⟩, fun h => absurd rfl h⟩
theorem tt129 : TIok Tryd.prog 129 (tt 129) := ⟨⟨_, _, _, Tryd.underlying129⟩, ⟨Tryd.t129, by kernel_rfl, by kernel_rfl, by kernel_rfl, .nilFunc, by kernel_rfl, zFunc⟩, fun h => absurd rfl h⟩
theorem tt130 : TIok Tryd.prog 130 (tt 130) := ⟨⟨_, _, _, Tryd.underlying130⟩, ⟨Tryd.t130, by kernel_rfl, by kernel_rfl, by kernel_rfl, .nilFunc, by kernel_rfl, zFunc⟩, fun h => absurd rfl h⟩
theorem tt131 : TIok Tryd.prog 131 (tt 131) := ⟨⟨_, _, _, Tryd.underlying131⟩, ⟨Tryd.t131, by kernel_rfl, by kernel_rfl, by kernel_rfl, .nilFunc, by kernel_rfl, zFunc⟩, fun h => absurd rfl h⟩
theorem tt132 : TIok Tryd.prog 132 (tt 132) := ⟨⟨_, _, _, Tryd.underlying132⟩, ⟨Tryd.t132, by kernel_rfl, by kernel_rfl, by kernel_rfl, .nilFunc, by kernel_rfl, zFunc⟩, fun h => absurd rfl h⟩
theorem tt133 : TIok Tryd.prog 133 (tt 133) := ⟨⟨_, _, _, Tryd.underlying133⟩, ⟨Tryd.t133, by kernel_rfl, by kernel_rfl, by kernel_rfl, .nilFunc, by kernel_rfl, zFunc⟩, fun h => absurd rfl h⟩
theorem tt134 : TIok Tryd.prog 134 (tt 134) := ⟨⟨_, _, _, Tryd.underlying134⟩, ⟨Tryd.t134, by kernel_rfl, by kernel_rfl, by kernel_rfl, .nilFunc, by kernel_rfl, zFunc⟩, fun h => absurd rfl h⟩
theorem tt135 : TIok Tryd.prog 135 (tt 135) := ⟨⟨_, _, _, Tryd.underlying135⟩, ⟨Tryd.t135, by kernel_rfl, by kernel_rfl, by kernel_rfl, .nilFunc, by kernel_rfl, zFunc⟩, fun h => absurd rfl h⟩
theorem tt136 : TIok Tryd.prog 136 (tt 136) := ⟨Tryd.underlying136, ⟨Tryd.t136, by kernel_rfl, by kernel_rfl, by kernel_rfl, .int .u64 0, by kernel_rfl, zInt⟩, fun h => absurd rfl h⟩
theorem tt137 : TIok Tryd.prog 137 (tt 137) := ⟨⟨_, _, _, Tryd.underlying137⟩, ⟨Tryd.t137, by kernel_rfl, by kernel_rfl, by kernel_rfl, .nilFunc, by kernel_rfl, zFunc⟩, fun h => absurd rfl h⟩
theorem tt138 : TIok Tryd.prog 138 (tt 138) := ⟨⟨_, _, _, Tryd.underlying138⟩, ⟨Tryd.t138, by kernel_rfl, by kernel_rfl, by kernel_rfl, .nilFunc, by kernel_rfl, zFunc⟩, fun h => absurd rfl h⟩
theorem tt139 : TIok Tryd.prog 139 (tt 139) := ⟨⟨_, _, _, Tryd.underlying139⟩, ⟨Tryd.t139, by kernel_rfl, by kernel_rfl, by kernel_rfl, .nilFunc, by kernel_rfl, zFunc⟩, fun h => absurd rfl h⟩
theorem tt141 : TIok Tryd.prog 141 (tt 141) := ⟨⟨_, Tryd.underlying141, by kernel_rfl, by kernel_rfl⟩, ⟨Tryd.t141, by kernel_rfl, by kernel_rfl, by kernel_rfl, .agg #[.pointer none, .pointer none, .pointer none, .string ⟨#[]⟩], by kernel_rfl, zAgg (zCons zPtr (zCons zPtr (zCons zPtr (zCons zStr zNil))))⟩, fun h => absurd rfl h⟩
theorem tt142 : TIok Tryd.prog 142 (tt 142) := ⟨⟨_, Tryd.underlying142, by kernel_rfl, by kernel_rfl⟩, ⟨Tryd.t142, by kernel_rfl, by kernel_rfl, by kernel_rfl, .agg #[.pointer none, .pointer none, .pointer none, .string ⟨#[]⟩], by kernel_rfl, zAgg (zCons zPtr (zCons zPtr (zCons zPtr (zCons zStr zNil))))⟩, fun h => absurd rfl h⟩
theorem tt146 : TIok Tryd.prog 146 (tt 146) := ⟨Tryd.underlying146, ⟨Tryd.t146, by kernel_rfl, by kernel_rfl, by kernel_rfl, .int .u8 0, by kernel_rfl, zInt⟩, fun h => absurd rfl h⟩
theorem tt147 : TIok Tryd.prog 147 (tt 147) := ⟨Tryd.underlying147, ⟨Tryd.t147, by kernel_rfl, by kernel_rfl, by kernel_rfl, .int .u8 0, by kernel_rfl, zInt⟩, fun h => absurd rfl h⟩
theorem tt148 : TIok Tryd.prog 148 (tt 148) := ⟨⟨_, _, _, Tryd.underlying148⟩, ⟨Tryd.t148, by kernel_rfl, by kernel_rfl, by kernel_rfl, .nilFunc, by kernel_rfl, zFunc⟩, fun h => absurd rfl h⟩
theorem tt149 : TIok Tryd.prog 149 (tt 149) := ⟨Tryd.underlying149, ⟨Tryd.t149, by kernel_rfl, by kernel_rfl, by kernel_rfl, .pointer none, by kernel_rfl, zPtr⟩, fun h => absurd rfl h⟩
theorem tt150 : TIok Tryd.prog 150 (tt 150) := ⟨Tryd.underlying150, ⟨Tryd.t150, by kernel_rfl, by kernel_rfl, by kernel_rfl, .int .i32 0, by kernel_rfl, zInt⟩, fun h => absurd rfl h⟩
theorem tt151 : TIok Tryd.prog 151 (tt 151) := ⟨Tryd.underlying151, ⟨Tryd.t151, by kernel_rfl, by kernel_rfl, by kernel_rfl, .int .i32 0, by kernel_rfl, zInt⟩, fun h => absurd rfl h⟩
theorem tt152 : TIok Tryd.prog 152 (tt 152) := ⟨⟨_, Tryd.underlying152, by kernel_rfl, by kernel_rfl⟩, ⟨Tryd.t152, by kernel_rfl, by kernel_rfl, by kernel_rfl, .agg #[.int .u64 0, .int .u64 0, .int .u32 0, .int .u8 0, .int .u8 0, .int .u8 0, .int .u8 0, .nilFunc, .pointer none, .int .i32 0, .int .i32 0], by kernel_rfl, zAgg (zCons zInt (zCons zInt (zCons zInt (zCons zInt (zCons zInt (zCons zInt (zCons zInt (zCons zFunc (zCons zPtr (zCons zInt (zCons zInt zNil)))))))))))⟩, fun h => absurd rfl h⟩
theorem tt153 : TIok Tryd.prog 153 (tt 153) := ⟨⟨_, Tryd.underlying153, by kernel_rfl, by kernel_rfl⟩, ⟨Tryd.t153, by kernel_rfl, by kernel_rfl, by kernel_rfl, .agg #[.int .u64 0, .int .u64 0, .int .u32 0, .int .u8 0, .int .u8 0, .int .u8 0, .int .u8 0, .nilFunc, .pointer none, .int .i32 0, .int .i32 0], by kernel_rfl, zAgg (zCons zInt (zCons zInt (zCons zInt (zCons zInt (zCons zInt (zCons zInt (zCons zInt (zCons zFunc (zCons zPtr (zCons zInt (zCons zInt zNil)))))))))))⟩, fun h => absurd rfl h⟩
theorem tt154 : TIok Tryd.prog 154 (tt 154) := ⟨⟨_, _, _, Tryd.underlying154⟩, ⟨Tryd.t154, by kernel_rfl, by kernel_rfl, by kernel_rfl, .nilFunc, by kernel_rfl, zFunc⟩, fun h => absurd rfl h⟩
theorem tt155 : TIok Tryd.prog 155 (tt 155) := ⟨⟨_, _, _, Tryd.underlying155⟩, ⟨Tryd.t155, by kernel_rfl, by kernel_rfl, by kernel_rfl, .nilFunc, by kernel_rfl, zFunc⟩, fun h => absurd rfl h⟩
theorem tt156 : TIok Tryd.prog 156 (tt 156) := ⟨⟨_, _, _, Tryd.underlying156⟩, ⟨Tryd.t156, by kernel_rfl, by kernel_rfl, by kernel_rfl, .nilFunc, by kernel_rfl, zFunc⟩, fun h => absurd rfl h⟩
theorem tt157 : TIok Tryd.prog 157 (tt 157) := ⟨⟨_, _, _, Tryd.underlying157⟩, ⟨Tryd.t157, by kernel_rfl, by kernel_rfl, by kernel_rfl, .nilFunc, by kernel_rfl, zFunc⟩, fun h => absurd rfl h⟩
theorem tt158 : TIok Tryd.prog 158 (tt 158) := ⟨⟨_, _, _, Tryd.underlying158⟩, ⟨Tryd.t158, by kernel_rfl, by kernel_rfl, by kernel_rfl, .nilFunc, by kernel_rfl, zFunc⟩, fun h => absurd rfl h⟩
theorem tt159 : TIok Tryd.prog 159 (tt 159) := ⟨⟨_, _, _, Tryd.underlying159⟩, ⟨Tryd.t159, by kernel_rfl, by kernel_rfl, by kernel_rfl, .nilFunc, by kernel_rfl, zFunc⟩, fun h => absurd rfl h⟩
theorem tt160 : TIok Tryd.prog 160 (tt 160) := ⟨⟨_, _, _, Tryd.underlying160⟩, ⟨Tryd.t160, by kernel_rfl, by kernel_rfl, by kernel_rfl, .nilFunc, by kernel_rfl, zFunc⟩, fun h => absurd rfl h⟩
theorem tt161 : TIok Tryd.prog 161 (tt 161) := ⟨⟨_, _, _, Tryd.underlying161⟩, ⟨Tryd.t161, by kernel_rfl, by kernel_rfl, by kernel_rfl, .nilFunc, by kernel_rfl, zFunc⟩, fun h => absurd rfl h⟩
theorem tt162 : TIok Tryd.prog 162 (tt 162) := ⟨Tryd.underlying162, ⟨Tryd.t162, by kernel_rfl, by kernel_rfl, by kernel_rfl, .agg #[.int .u8 0, .int .u8 0, .int .u8 0, .int .u8 0, .int .u8 0, .int .u8 0, .int .u8 0, .int .u8 0], by kernel_rfl, zAgg (zCons zInt (zCons zInt (zCons zInt (zCons zInt (zCons zInt (zCons zInt (zCons zInt (zCons zInt zNil))))))))⟩, fun h => absurd rfl h⟩
theorem tt_ok : ∀ t, TIok Tryd.prog t (tt t) := fun t => by
  unfold tt
  split
  · exact tt1
  · exact tt2
  · exact tt3
  · exact tt4
  · exact tt5
  · exact tt6
  · exact tt7
  · exact tt8
  · exact tt9
  · exact tt10
  · exact tt11
  · exact tt12
  · exact tt13
  · exact tt14
  · exact tt15
  · exact tt16
  · exact tt17
  · exact tt18
  · exact tt19
  · exact tt20
  · exact tt21
  · exact tt22
  · exact tt23
  · exact tt24
  · exact tt25
  · exact tt26
  · exact tt27
  · exact tt28
  · exact tt29
  · exact tt31
  · exact tt33
  · exact tt34
  · exact tt35
  · exact tt36
  · exact tt37
  · exact tt38
  · exact tt39
  · exact tt40
  · exact tt41
  · exact tt42
  · exact tt43
  · exact tt44
  · exact tt46
  · exact tt47
  · exact tt48
  · exact tt49
  · exact tt50
  · exact tt51
  · exact tt52
  · exact tt54
  · exact tt56
  · exact tt57
  · exact tt58
  · exact tt60
  · exact tt61
  · exact tt62
  · exact tt63
  · exact tt65
  · exact tt67
  · exact tt68
  · exact tt69
  · exact tt70
  · exact tt71
  · exact tt72
  · exact tt73
  · exact tt74
  · exact tt75
  · exact tt76
  · exact tt78
  · exact tt79
  · exact tt80
  · exact tt81
  · exact tt82
  · exact tt83
  · exact tt84
  · exact tt85
  · exact tt86
  · exact tt87
  · exact tt88
  · exact tt90
  · exact tt91
  · exact tt92
  · exact tt93
  · exact tt94
  · exact tt95
  · exact tt96
  · exact tt97
  · exact tt98
  · exact tt99
  · exact tt100
  · exact tt101
  · exact tt102
  · exact tt103
  · exact tt104
  · exact tt105
  · exact tt106
  · exact tt107
  · exact tt109
  · exact tt110
  · exact tt111
  · exact tt112
  · exact tt113
  · exact tt114
  · exact tt115
  · exact tt117
  · exact tt118
  · exact tt119
  · exact tt120
  · exact tt122
  · exact tt123
  · exact tt124
  · exact tt125
  · exact tt126
  · exact tt127
  · exact tt128
  · exact tt129
  · exact tt130
  · exact tt131
  · exact tt132
  · exact tt133
  · exact tt134
  · exact tt135
  · exact tt136
  · exact tt137
  · exact tt138
  · exact tt139
  · exact tt141
  · exact tt142
  · exact tt146
  · exact tt147
  · exact tt148
  · exact tt149
  · exact tt150
  · exact tt151
  · exact tt152
  · exact tt153
  · exact tt154
  · exact tt155
  · exact tt156
  · exact tt157
  · exact tt158
  · exact tt159
  · exact tt160
  · exact tt161
  · exact tt162
  · trivial
def dataTy : TypeId → Bool := fun t => match t with
  | 2 => true
  | 3 => true
  | 4 => true
  | 5 => true
  | 6 => true
  | 7 => true
  | 8 => true
  | 9 => true
  | 10 => true
  | 11 => true
  | 12 => true
  | 13 => true
  | 14 => true
  | 21 => true
  | 22 => true
  | 24 => true
  | 25 => true
  | 26 => true
  | 27 => true
  | 28 => true
  | 29 => true
  | 40 => true
  | 41 => true
  | 47 => true
  | 48 => true
  | 49 => true
  | 50 => true
  | 51 => true
  | 52 => true
  | 58 => true
  | 62 => true
  | 74 => true
  | 76 => true
  | 79 => true
  | 80 => true
  | 86 => true
  | 87 => true
  | 107 => true
  | 111 => true
  | 112 => true
  | 113 => true
  | 114 => true
  | 125 => true
  | 136 => true
  | 146 => true
  | 147 => true
  | 150 => true
  | 151 => true
  | 162 => true
  | _ => false
theorem dataOK : DataOK Tryd.prog tt dataTy where
  tys := tt_ok
  kids := fun t h => by
    unfold dataTy at h; split at h <;> first | (cases h; done) | rfl
  pos := fun t h => by
    unfold dataTy at h; split at h <;> first
      | (cases h; done)
      | exact .inl ⟨_, rfl, by decide⟩
      | (refine .inr (.inr (And.intro ?_ ?_)) <;> (intro e hh; cases hh))
  fields := fun t fs h k => by
    unfold dataTy at h; split at h <;> first
      | (cases h; done)
      | (cases k; rfl)
      | (cases k; done)
  array := fun t m e h k => by
    unfold dataTy at h; split at h <;> first
      | (cases h; done)
      | (cases k; rfl)
      | (cases k; done)
end Go.Proofs.YtkkfdkfopdjomaaDoor
