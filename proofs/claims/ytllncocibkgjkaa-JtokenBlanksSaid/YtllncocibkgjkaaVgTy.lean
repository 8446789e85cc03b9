/-
  The table of the seat's types, and that it is the program's. Printed by a program of mine (tygen.py).
-/
import Derived.Test.YtllncocibkgjkaaVgY
import Derived.Test.YtllncocibkgjkaaVgZB
import Derived.Test.YtllncocibkgjkaaProg
import Derived.KernelRfl
namespace Go.Proofs.Ytllncocibkgjkaa
open Go Go.VG
set_option maxRecDepth 100000
def tt : TypeId → TI := fun t => match t with
  | 1 => ⟨.func, 1, 8, .nilFunc, []⟩
  | 2 => ⟨.int .i64, 1, 8, .int .i64 0, []⟩
  | 3 => ⟨.int .i64, 1, 8, .int .i64 0, []⟩
  | 4 => ⟨.bool, 1, 1, .bool false, []⟩
  | 5 => ⟨.int .u8, 1, 1, .int .u8 0, []⟩
  | 6 => ⟨.int .u8, 1, 1, .int .u8 0, []⟩
  | 7 => ⟨.struct [(0, 2), (1, 3), (2, 4), (3, 6)], 4, 24, .agg [.int .i64 0, .int .i64 0, .bool false, .int .u8 0], []⟩
  | 8 => ⟨.struct [(0, 2), (1, 3), (2, 4), (3, 6)], 4, 24, .agg [.int .i64 0, .int .i64 0, .bool false, .int .u8 0], []⟩
  | 9 => ⟨.string, 1, 16, .str [], []⟩
  | 10 => ⟨.string, 1, 16, .str [], []⟩
  | 11 => ⟨.string, 1, 16, .str [], []⟩
  | 12 => ⟨.int .u64, 1, 8, .int .u64 0, []⟩
  | 13 => ⟨.struct [(0, 9), (1, 12)], 2, 24, .agg [.str [], .int .u64 0], []⟩
  | 14 => ⟨.struct [(0, 9), (1, 12)], 2, 24, .agg [.str [], .int .u64 0], []⟩
  | 15 => ⟨.ptr 171, 1, 8, .nilptr, []⟩
  | 16 => ⟨.ptr 174, 1, 8, .nilptr, []⟩
  | 17 => ⟨.ptr 183, 1, 8, .nilptr, []⟩
  | 18 => ⟨.struct [(0, 17)], 1, 8, .agg [.nilptr], []⟩
  | 19 => ⟨.struct [(0, 17)], 1, 8, .agg [.nilptr], []⟩
  | 20 => ⟨.iface, 1, 16, .nilIface, []⟩
  | 21 => ⟨.int .i32, 1, 4, .int .i32 0, []⟩
  | 22 => ⟨.slice 5, 1, 24, .list true 0 [], []⟩
  | 23 => ⟨.func, 1, 8, .nilFunc, []⟩
  | 24 => ⟨.slice 30, 1, 24, .list true 0 [], []⟩
  | 25 => ⟨.int .i64, 1, 8, .int .i64 0, []⟩
  | 27 => ⟨.func, 1, 8, .nilFunc, []⟩
  | 28 => ⟨.func, 1, 8, .nilFunc, []⟩
  | 29 => ⟨.struct [(0, 5), (1, 9)], 2, 24, .agg [.int .u8 0, .str []], [.i .u8, .s]⟩
  | 30 => ⟨.struct [(0, 5), (1, 9)], 2, 24, .agg [.int .u8 0, .str []], [.i .u8, .s]⟩
  | 31 => ⟨.func, 1, 8, .nilFunc, []⟩
  | 32 => ⟨.slice 35, 1, 24, .list true 0 [], []⟩
  | 33 => ⟨.func, 1, 8, .nilFunc, []⟩
  | 34 => ⟨.func, 1, 8, .nilFunc, []⟩
  | 35 => ⟨.struct [(0, 5), (1, 9)], 2, 24, .agg [.int .u8 0, .str []], [.i .u8, .s]⟩
  | 36 => ⟨.func, 1, 8, .nilFunc, []⟩
  | 37 => ⟨.func, 1, 8, .nilFunc, []⟩
  | 39 => ⟨.func, 1, 8, .nilFunc, []⟩
  | 40 => ⟨.ptr 81, 1, 8, .nilptr, []⟩
  | 41 => ⟨.func, 1, 8, .nilFunc, []⟩
  | 42 => ⟨.func, 1, 8, .nilFunc, []⟩
  | 43 => ⟨.struct [(0, 9), (1, 3), (2, 3), (3, 25)], 4, 40, .agg [.str [], .int .i64 0, .int .i64 0, .int .i64 0], [.s, .i .i64, .i .i64, .i .i64]⟩
  | 44 => ⟨.struct [(0, 9), (1, 3), (2, 3), (3, 25)], 4, 40, .agg [.str [], .int .i64 0, .int .i64 0, .int .i64 0], [.s, .i .i64, .i .i64, .i .i64]⟩
  | 46 => ⟨.func, 1, 8, .nilFunc, []⟩
  | 47 => ⟨.func, 1, 8, .nilFunc, []⟩
  | 48 => ⟨.func, 1, 8, .nilFunc, []⟩
  | 49 => ⟨.func, 1, 8, .nilFunc, []⟩
  | 50 => ⟨.func, 1, 8, .nilFunc, []⟩
  | 51 => ⟨.slice 96, 1, 24, .list true 0 [], []⟩
  | 53 => ⟨.func, 1, 8, .nilFunc, []⟩
  | 54 => ⟨.slice 109, 1, 24, .list true 0 [], []⟩
  | 56 => ⟨.func, 1, 8, .nilFunc, []⟩
  | 57 => ⟨.func, 1, 8, .nilFunc, []⟩
  | 58 => ⟨.func, 1, 8, .nilFunc, []⟩
  | 59 => ⟨.func, 1, 8, .nilFunc, []⟩
  | 60 => ⟨.func, 1, 8, .nilFunc, []⟩
  | 61 => ⟨.slice 3, 1, 24, .list true 0 [], []⟩
  | 62 => ⟨.func, 1, 8, .nilFunc, []⟩
  | 63 => ⟨.func, 1, 8, .nilFunc, []⟩
  | 64 => ⟨.func, 1, 8, .nilFunc, []⟩
  | 65 => ⟨.func, 1, 8, .nilFunc, []⟩
  | 66 => ⟨.slice 71, 1, 24, .list true 0 [], []⟩
  | 67 => ⟨.ptr 117, 1, 8, .nilptr, []⟩
  | 68 => ⟨.func, 1, 8, .nilFunc, []⟩
  | 69 => ⟨.func, 1, 8, .nilFunc, []⟩
  | 70 => ⟨.struct [(0, 5), (1, 9), (2, 3)], 3, 32, .agg [.int .u8 0, .str [], .int .i64 0], [.i .u8, .s, .i .i64]⟩
  | 71 => ⟨.struct [(0, 5), (1, 9), (2, 3)], 3, 32, .agg [.int .u8 0, .str [], .int .i64 0], [.i .u8, .s, .i .i64]⟩
  | 73 => ⟨.func, 1, 8, .nilFunc, []⟩
  | 74 => ⟨.func, 1, 8, .nilFunc, []⟩
  | 75 => ⟨.func, 1, 8, .nilFunc, []⟩
  | 76 => ⟨.func, 1, 8, .nilFunc, []⟩
  | 77 => ⟨.func, 1, 8, .nilFunc, []⟩
  | 78 => ⟨.func, 1, 8, .nilFunc, []⟩
  | 79 => ⟨.func, 1, 8, .nilFunc, []⟩
  | 80 => ⟨.struct [(0, 9), (1, 3), (2, 3), (3, 25)], 4, 40, .agg [.str [], .int .i64 0, .int .i64 0, .int .i64 0], [.s, .i .i64, .i .i64, .i .i64]⟩
  | 81 => ⟨.struct [(0, 9), (1, 3), (2, 3), (3, 25)], 4, 40, .agg [.str [], .int .i64 0, .int .i64 0, .int .i64 0], [.s, .i .i64, .i .i64, .i .i64]⟩
  | 82 => ⟨.func, 1, 8, .nilFunc, []⟩
  | 84 => ⟨.func, 1, 8, .nilFunc, []⟩
  | 85 => ⟨.func, 1, 8, .nilFunc, []⟩
  | 86 => ⟨.func, 1, 8, .nilFunc, []⟩
  | 87 => ⟨.func, 1, 8, .nilFunc, []⟩
  | 88 => ⟨.func, 1, 8, .nilFunc, []⟩
  | 89 => ⟨.func, 1, 8, .nilFunc, []⟩
  | 91 => ⟨.func, 1, 8, .nilFunc, []⟩
  | 92 => ⟨.func, 1, 8, .nilFunc, []⟩
  | 93 => ⟨.func, 1, 8, .nilFunc, []⟩
  | 94 => ⟨.func, 1, 8, .nilFunc, []⟩
  | 95 => ⟨.struct [(0, 5), (1, 9), (2, 9), (3, 3)], 4, 48, .agg [.int .u8 0, .str [], .str [], .int .i64 0], [.i .u8, .s, .s, .i .i64]⟩
  | 96 => ⟨.struct [(0, 5), (1, 9), (2, 9), (3, 3)], 4, 48, .agg [.int .u8 0, .str [], .str [], .int .i64 0], [.i .u8, .s, .s, .i .i64]⟩
  | 97 => ⟨.ptr 99, 1, 8, .nilptr, []⟩
  | 98 => ⟨.struct [(0, 40), (1, 51)], 2, 32, .agg [.nilptr, .list true 0 []], []⟩
  | 99 => ⟨.struct [(0, 40), (1, 51)], 2, 32, .agg [.nilptr, .list true 0 []], []⟩
  | 100 => ⟨.int .i64, 1, 8, .int .i64 0, []⟩
  | 102 => ⟨.func, 1, 8, .nilFunc, []⟩
  | 103 => ⟨.func, 1, 8, .nilFunc, []⟩
  | 104 => ⟨.struct [(0, 32), (1, 25)], 2, 32, .agg [.list true 0 [], .int .i64 0], []⟩
  | 105 => ⟨.struct [(0, 32), (1, 25)], 2, 32, .agg [.list true 0 [], .int .i64 0], []⟩
  | 106 => ⟨.func, 1, 8, .nilFunc, []⟩
  | 108 => ⟨.func, 1, 8, .nilFunc, []⟩
  | 109 => ⟨.struct [(0, 5), (1, 9), (2, 9), (3, 3)], 4, 48, .agg [.int .u8 0, .str [], .str [], .int .i64 0], [.i .u8, .s, .s, .i .i64]⟩
  | 110 => ⟨.func, 1, 8, .nilFunc, []⟩
  | 111 => ⟨.func, 1, 8, .nilFunc, []⟩
  | 112 => ⟨.func, 1, 8, .nilFunc, []⟩
  | 113 => ⟨.func, 1, 8, .nilFunc, []⟩
  | 114 => ⟨.func, 1, 8, .nilFunc, []⟩
  | 115 => ⟨.slice 139, 1, 24, .list true 0 [], []⟩
  | 116 => ⟨.struct [(0, 22), (1, 115), (2, 4), (3, 25), (4, 75)], 5, 72, .agg [.list true 0 [], .list true 0 [], .bool false, .int .i64 0, .nilFunc], []⟩
  | 117 => ⟨.struct [(0, 22), (1, 115), (2, 4), (3, 25), (4, 75)], 5, 72, .agg [.list true 0 [], .list true 0 [], .bool false, .int .i64 0, .nilFunc], []⟩
  | 118 => ⟨.func, 1, 8, .nilFunc, []⟩
  | 119 => ⟨.func, 1, 8, .nilFunc, []⟩
  | 120 => ⟨.func, 1, 8, .nilFunc, []⟩
  | 121 => ⟨.ptr 123, 1, 8, .nilptr, []⟩
  | 122 => ⟨.struct [(0, 40), (1, 22)], 2, 32, .agg [.nilptr, .list true 0 []], []⟩
  | 123 => ⟨.struct [(0, 40), (1, 22)], 2, 32, .agg [.nilptr, .list true 0 []], []⟩
  | 124 => ⟨.func, 1, 8, .nilFunc, []⟩
  | 125 => ⟨.ptr 127, 1, 8, .nilptr, []⟩
  | 126 => ⟨.struct [(0, 40), (1, 22)], 2, 32, .agg [.nilptr, .list true 0 []], []⟩
  | 127 => ⟨.struct [(0, 40), (1, 22)], 2, 32, .agg [.nilptr, .list true 0 []], []⟩
  | 129 => ⟨.func, 1, 8, .nilFunc, []⟩
  | 130 => ⟨.struct [(0, 9), (1, 9), (2, 9), (3, 3), (4, 25)], 5, 64, .agg [.str [], .str [], .str [], .int .i64 0, .int .i64 0], [.s, .s, .s, .i .i64, .i .i64]⟩
  | 131 => ⟨.struct [(0, 9), (1, 9), (2, 9), (3, 3), (4, 25)], 5, 64, .agg [.str [], .str [], .str [], .int .i64 0, .int .i64 0], [.s, .s, .s, .i .i64, .i .i64]⟩
  | 132 => ⟨.func, 1, 8, .nilFunc, []⟩
  | 134 => ⟨.func, 1, 8, .nilFunc, []⟩
  | 135 => ⟨.func, 1, 8, .nilFunc, []⟩
  | 136 => ⟨.func, 1, 8, .nilFunc, []⟩
  | 137 => ⟨.func, 1, 8, .nilFunc, []⟩
  | 138 => ⟨.struct [(0, 5), (1, 4), (2, 4)], 3, 3, .agg [.int .u8 0, .bool false, .bool false], [.i .u8, .b, .b]⟩
  | 139 => ⟨.struct [(0, 5), (1, 4), (2, 4)], 3, 3, .agg [.int .u8 0, .bool false, .bool false], [.i .u8, .b, .b]⟩
  | 140 => ⟨.ptr 139, 1, 8, .nilptr, []⟩
  | 141 => ⟨.func, 1, 8, .nilFunc, []⟩
  | 143 => ⟨.func, 1, 8, .nilFunc, []⟩
  | 144 => ⟨.func, 1, 8, .nilFunc, []⟩
  | 146 => ⟨.func, 1, 8, .nilFunc, []⟩
  | 147 => ⟨.func, 1, 8, .nilFunc, []⟩
  | 148 => ⟨.func, 1, 8, .nilFunc, []⟩
  | 150 => ⟨.func, 1, 8, .nilFunc, []⟩
  | 151 => ⟨.func, 1, 8, .nilFunc, []⟩
  | 153 => ⟨.func, 1, 8, .nilFunc, []⟩
  | 154 => ⟨.map 9 3, 1, 8, .nilmap, []⟩
  | 155 => ⟨.slice 9, 1, 24, .list true 0 [], []⟩
  | 156 => ⟨.func, 1, 8, .nilFunc, []⟩
  | 157 => ⟨.func, 1, 8, .nilFunc, []⟩
  | 158 => ⟨.func, 1, 8, .nilFunc, []⟩
  | 159 => ⟨.int .u64, 1, 8, .int .u64 0, []⟩
  | 160 => ⟨.int .u64, 1, 8, .int .u64 0, []⟩
  | 161 => ⟨.func, 1, 8, .nilFunc, []⟩
  | 162 => ⟨.func, 1, 8, .nilFunc, []⟩
  | 163 => ⟨.func, 1, 8, .nilFunc, []⟩
  | 164 => ⟨.func, 1, 8, .nilFunc, []⟩
  | 165 => ⟨.func, 1, 8, .nilFunc, []⟩
  | 166 => ⟨.array 20 5, 20, 20, .agg [.int .u8 0, .int .u8 0, .int .u8 0, .int .u8 0, .int .u8 0, .int .u8 0, .int .u8 0, .int .u8 0, .int .u8 0, .int .u8 0, .int .u8 0, .int .u8 0, .int .u8 0, .int .u8 0, .int .u8 0, .int .u8 0, .int .u8 0, .int .u8 0, .int .u8 0, .int .u8 0], []⟩
  | 167 => ⟨.func, 1, 8, .nilFunc, []⟩
  | 168 => ⟨.func, 1, 8, .nilFunc, []⟩
  | 169 => ⟨.func, 1, 8, .nilFunc, []⟩
  | 170 => ⟨.struct [(0, 17), (1, 17), (2, 17), (3, 9)], 4, 40, .agg [.nilptr, .nilptr, .nilptr, .str []], []⟩
  | 171 => ⟨.struct [(0, 17), (1, 17), (2, 17), (3, 9)], 4, 40, .agg [.nilptr, .nilptr, .nilptr, .str []], []⟩
  | 175 => ⟨.int .u32, 1, 4, .int .u32 0, []⟩
  | 176 => ⟨.int .u8, 1, 1, .int .u8 0, []⟩
  | 177 => ⟨.int .u8, 1, 1, .int .u8 0, []⟩
  | 178 => ⟨.func, 1, 8, .nilFunc, []⟩
  | 179 => ⟨.ptr 5, 1, 8, .nilptr, []⟩
  | 180 => ⟨.int .i32, 1, 4, .int .i32 0, []⟩
  | 181 => ⟨.int .i32, 1, 4, .int .i32 0, []⟩
  | 182 => ⟨.struct [(0, 12), (1, 12), (2, 175), (3, 176), (4, 5), (5, 5), (6, 177), (7, 178), (8, 179), (9, 180), (10, 181)], 11, 48, .agg [.int .u64 0, .int .u64 0, .int .u32 0, .int .u8 0, .int .u8 0, .int .u8 0, .int .u8 0, .nilFunc, .nilptr, .int .i32 0, .int .i32 0], []⟩
  | 183 => ⟨.struct [(0, 12), (1, 12), (2, 175), (3, 176), (4, 5), (5, 5), (6, 177), (7, 178), (8, 179), (9, 180), (10, 181)], 11, 48, .agg [.int .u64 0, .int .u64 0, .int .u32 0, .int .u8 0, .int .u8 0, .int .u8 0, .int .u8 0, .nilFunc, .nilptr, .int .i32 0, .int .i32 0], []⟩
  | _ => ⟨.other, 0, 0, .undef, []⟩
theorem tt1 : TIok Try.prog 1 (tt 1) := ⟨⟨_, _, _, Try.underlying1⟩, ⟨Try.t1, by kernel_rfl, by kernel_rfl, by kernel_rfl, .nilFunc, by kernel_rfl, zFunc⟩, fun h => absurd rfl h⟩
theorem tt2 : TIok Try.prog 2 (tt 2) := ⟨Try.underlying2, ⟨Try.t2, by kernel_rfl, by kernel_rfl, by kernel_rfl, .int .i64 0, by kernel_rfl, zInt⟩, fun h => absurd rfl h⟩
theorem tt3 : TIok Try.prog 3 (tt 3) := ⟨Try.underlying3, ⟨Try.t3, by kernel_rfl, by kernel_rfl, by kernel_rfl, .int .i64 0, by kernel_rfl, zInt⟩, fun h => absurd rfl h⟩
theorem tt4 : TIok Try.prog 4 (tt 4) := ⟨Try.underlying4, ⟨Try.t4, by kernel_rfl, by kernel_rfl, by kernel_rfl, .bool false, by kernel_rfl, zBool⟩, fun h => absurd rfl h⟩
theorem tt5 : TIok Try.prog 5 (tt 5) := ⟨Try.underlying5, ⟨Try.t5, by kernel_rfl, by kernel_rfl, by kernel_rfl, .int .u8 0, by kernel_rfl, zInt⟩, fun h => absurd rfl h⟩
theorem tt6 : TIok Try.prog 6 (tt 6) := ⟨Try.underlying6, ⟨Try.t6, by kernel_rfl, by kernel_rfl, by kernel_rfl, .int .u8 0, by kernel_rfl, zInt⟩, fun h => absurd rfl h⟩
theorem tt7 : TIok Try.prog 7 (tt 7) := ⟨⟨_, Try.underlying7, by kernel_rfl, by kernel_rfl⟩, ⟨Try.t7, by kernel_rfl, by kernel_rfl, by kernel_rfl, .agg #[.int .i64 0, .int .i64 0, .bool false, .int .u8 0], by kernel_rfl, zAgg (zCons zInt (zCons zInt (zCons zBool (zCons zInt zNil))))⟩, fun h => absurd rfl h⟩
theorem tt8 : TIok Try.prog 8 (tt 8) := ⟨⟨_, Try.underlying8, by kernel_rfl, by kernel_rfl⟩, ⟨Try.t8, by kernel_rfl, by kernel_rfl, by kernel_rfl, .agg #[.int .i64 0, .int .i64 0, .bool false, .int .u8 0], by kernel_rfl, zAgg (zCons zInt (zCons zInt (zCons zBool (zCons zInt zNil))))⟩, fun h => absurd rfl h⟩
theorem tt9 : TIok Try.prog 9 (tt 9) := ⟨Try.underlying9, ⟨Try.t9, by kernel_rfl, by kernel_rfl, by kernel_rfl, .string ⟨#[]⟩, by kernel_rfl, zStr⟩, fun h => absurd rfl h⟩
theorem tt10 : TIok Try.prog 10 (tt 10) := ⟨Try.underlying10, ⟨Try.t10, by kernel_rfl, by kernel_rfl, by kernel_rfl, .string ⟨#[]⟩, by kernel_rfl, zStr⟩, fun h => absurd rfl h⟩
theorem tt11 : TIok Try.prog 11 (tt 11) := ⟨Try.underlying11, ⟨Try.t11, by kernel_rfl, by kernel_rfl, by kernel_rfl, .string ⟨#[]⟩, by kernel_rfl, zStr⟩, fun h => absurd rfl h⟩
theorem tt12 : TIok Try.prog 12 (tt 12) := ⟨Try.underlying12, ⟨Try.t12, by kernel_rfl, by kernel_rfl, by kernel_rfl, .int .u64 0, by kernel_rfl, zInt⟩, fun h => absurd rfl h⟩
theorem tt13 : TIok Try.prog 13 (tt 13) := ⟨⟨_, Try.underlying13, by kernel_rfl, by kernel_rfl⟩, ⟨Try.t13, by kernel_rfl, by kernel_rfl, by kernel_rfl, .agg #[.string ⟨#[]⟩, .int .u64 0], by kernel_rfl, zAgg (zCons zStr (zCons zInt zNil))⟩, fun h => absurd rfl h⟩
theorem tt14 : TIok Try.prog 14 (tt 14) := ⟨⟨_, Try.underlying14, by kernel_rfl, by kernel_rfl⟩, ⟨Try.t14, by kernel_rfl, by kernel_rfl, by kernel_rfl, .agg #[.string ⟨#[]⟩, .int .u64 0], by kernel_rfl, zAgg (zCons zStr (zCons zInt zNil))⟩, fun h => absurd rfl h⟩
theorem tt15 : TIok Try.prog 15 (tt 15) := ⟨Try.underlying15, ⟨Try.t15, by kernel_rfl, by kernel_rfl, by kernel_rfl, .pointer none, by kernel_rfl, zPtr⟩, fun h => absurd rfl h⟩
theorem tt16 : TIok Try.prog 16 (tt 16) := ⟨Try.underlying16, ⟨Try.t16, by kernel_rfl, by kernel_rfl, by kernel_rfl, .pointer none, by kernel_rfl, zPtr⟩, fun h => absurd rfl h⟩
theorem tt17 : TIok Try.prog 17 (tt 17) := ⟨Try.underlying17, ⟨Try.t17, by kernel_rfl, by kernel_rfl, by kernel_rfl, .pointer none, by kernel_rfl, zPtr⟩, fun h => absurd rfl h⟩
theorem tt18 : TIok Try.prog 18 (tt 18) := ⟨⟨_, Try.underlying18, by kernel_rfl, by kernel_rfl⟩, ⟨Try.t18, by kernel_rfl, by kernel_rfl, by kernel_rfl, .agg #[.pointer none], by kernel_rfl, zAgg (zCons zPtr zNil)⟩, fun h => absurd rfl h⟩
theorem tt19 : TIok Try.prog 19 (tt 19) := ⟨⟨_, Try.underlying19, by kernel_rfl, by kernel_rfl⟩, ⟨Try.t19, by kernel_rfl, by kernel_rfl, by kernel_rfl, .agg #[.pointer none], by kernel_rfl, zAgg (zCons zPtr zNil)⟩, fun h => absurd rfl h⟩
theorem tt20 : TIok Try.prog 20 (tt 20) := ⟨⟨_, Try.underlying20⟩, ⟨Try.t20, by kernel_rfl, by kernel_rfl, by kernel_rfl, .nilIface, by kernel_rfl, zIface⟩, fun h => absurd rfl h⟩
theorem tt21 : TIok Try.prog 21 (tt 21) := ⟨Try.underlying21, ⟨Try.t21, by kernel_rfl, by kernel_rfl, by kernel_rfl, .int .i32 0, by kernel_rfl, zInt⟩, fun h => absurd rfl h⟩
theorem tt22 : TIok Try.prog 22 (tt 22) := ⟨Try.underlying22, ⟨Try.t22, by kernel_rfl, by kernel_rfl, by kernel_rfl, .slice none 0 0, by kernel_rfl, zList⟩, fun h => absurd rfl h⟩
theorem tt23 : TIok Try.prog 23 (tt 23) := ⟨⟨_, _, _, Try.underlying23⟩, ⟨Try.t23, by kernel_rfl, by kernel_rfl, by kernel_rfl, .nilFunc, by kernel_rfl, zFunc⟩, fun h => absurd rfl h⟩
theorem tt24 : TIok Try.prog 24 (tt 24) := ⟨Try.underlying24, ⟨Try.t24, by kernel_rfl, by kernel_rfl, by kernel_rfl, .slice none 0 0, by kernel_rfl, zList⟩, fun h => absurd rfl h⟩
theorem tt25 : TIok Try.prog 25 (tt 25) := ⟨Try.underlying25, ⟨Try.t25, by kernel_rfl, by kernel_rfl, by kernel_rfl, .int .i64 0, by kernel_rfl, zInt⟩, fun h => absurd rfl h⟩
theorem tt27 : TIok Try.prog 27 (tt 27) := ⟨⟨_, _, _, Try.underlying27⟩, ⟨Try.t27, by kernel_rfl, by kernel_rfl, by kernel_rfl, .nilFunc, by kernel_rfl, zFunc⟩, fun h => absurd rfl h⟩
theorem tt28 : TIok Try.prog 28 (tt 28) := ⟨⟨_, _, _, Try.underlying28⟩, ⟨Try.t28, by kernel_rfl, by kernel_rfl, by kernel_rfl, .nilFunc, by kernel_rfl, zFunc⟩, fun h => absurd rfl h⟩
theorem tt29 : TIok Try.prog 29 (tt 29) := ⟨⟨_, Try.underlying29, by kernel_rfl, by kernel_rfl⟩, ⟨Try.t29, by kernel_rfl, by kernel_rfl, by kernel_rfl, .agg #[.int .u8 0, .string ⟨#[]⟩], by kernel_rfl, zAgg (zCons zInt (zCons zStr zNil))⟩, fun h => feq_of h (by kernel_rfl) (by kernel_rfl) (by kernel_rfl) (by kernel_rfl)⟩
theorem tt30 : TIok Try.prog 30 (tt 30) := ⟨⟨_, Try.underlying30, by kernel_rfl, by kernel_rfl⟩, ⟨Try.t30, by kernel_rfl, by kernel_rfl, by kernel_rfl, .agg #[.int .u8 0, .string ⟨#[]⟩], by kernel_rfl, zAgg (zCons zInt (zCons zStr zNil))⟩, fun h => feq_of h (by kernel_rfl) (by kernel_rfl) (by kernel_rfl) (by kernel_rfl)⟩
theorem tt31 : TIok Try.prog 31 (tt 31) := ⟨⟨_, _, _, Try.underlying31⟩, ⟨Try.t31, by kernel_rfl, by kernel_rfl, by kernel_rfl, .nilFunc, by kernel_rfl, zFunc⟩, fun h => absurd rfl h⟩
theorem tt32 : TIok Try.prog 32 (tt 32) := ⟨Try.underlying32, ⟨Try.t32, by kernel_rfl, by kernel_rfl, by kernel_rfl, .slice none 0 0, by kernel_rfl, zList⟩, fun h => absurd rfl h⟩
theorem tt33 : TIok Try.prog 33 (tt 33) := ⟨⟨_, _, _, Try.underlying33⟩, ⟨Try.t33, by kernel_rfl, by kernel_rfl, by kernel_rfl, .nilFunc, by kernel_rfl, zFunc⟩, fun h => absurd rfl h⟩
theorem tt34 : TIok Try.prog 34 (tt 34) := ⟨⟨_, _, _, Try.underlying34⟩, ⟨Try.t34, by kernel_rfl, by kernel_rfl, by kernel_rfl, .nilFunc, by kernel_rfl, zFunc⟩, fun h => absurd rfl h⟩
theorem tt35 : TIok Try.prog 35 (tt 35) := ⟨⟨_, Try.underlying35, by kernel_rfl, by kernel_rfl⟩, ⟨Try.t35, by kernel_rfl, by kernel_rfl, by kernel_rfl, .agg #[.int .u8 0, .string ⟨#[]⟩], by kernel_rfl, zAgg (zCons zInt (zCons zStr zNil))⟩, fun h => feq_of h (by kernel_rfl) (by kernel_rfl) (by kernel_rfl) (by kernel_rfl)⟩
theorem tt36 : TIok Try.prog 36 (tt 36) := ⟨⟨_, _, _, Try.underlying36⟩, ⟨Try.t36, by kernel_rfl, by kernel_rfl, by kernel_rfl, .nilFunc, by kernel_rfl, zFunc⟩, fun h => absurd rfl h⟩
theorem tt37 : TIok Try.prog 37 (tt 37) := ⟨⟨_, _, _, Try.underlying37⟩, ⟨Try.t37, by kernel_rfl, by kernel_rfl, by kernel_rfl, .nilFunc, by kernel_rfl, zFunc⟩, fun h => absurd rfl h⟩
theorem tt39 : TIok Try.prog 39 (tt 39) := ⟨⟨_, _, _, Try.underlying39⟩, ⟨Try.t39, by kernel_rfl, by kernel_rfl, by kernel_rfl, .nilFunc, by kernel_rfl, zFunc⟩, fun h => absurd rfl h⟩
theorem tt40 : TIok Try.prog 40 (tt 40) := ⟨Try.underlying40, ⟨Try.t40, by kernel_rfl, by kernel_rfl, by kernel_rfl, .pointer none, by kernel_rfl, zPtr⟩, fun h => absurd rfl h⟩
theorem tt41 : TIok Try.prog 41 (tt 41) := ⟨⟨_, _, _, Try.underlying41⟩, ⟨Try.t41, by kernel_rfl, by kernel_rfl, by kernel_rfl, .nilFunc, by kernel_rfl, zFunc⟩, fun h => absurd rfl h⟩
theorem tt42 : TIok Try.prog 42 (tt 42) := ⟨⟨_, _, _, Try.underlying42⟩, ⟨Try.t42, by kernel_rfl, by kernel_rfl, by kernel_rfl, .nilFunc, by kernel_rfl, zFunc⟩, fun h => absurd rfl h⟩
theorem tt43 : TIok Try.prog 43 (tt 43) := ⟨⟨_, Try.underlying43, by kernel_rfl, by kernel_rfl⟩, ⟨Try.t43, by kernel_rfl, by kernel_rfl, by kernel_rfl, .agg #[.string ⟨#[]⟩, .int .i64 0, .int .i64 0, .int .i64 0], by kernel_rfl, zAgg (zCons zStr (zCons zInt (zCons zInt (zCons zInt zNil))))⟩, fun h => feq_of h (by kernel_rfl) (by kernel_rfl) (by kernel_rfl) (by kernel_rfl)⟩
theorem tt44 : TIok Try.prog 44 (tt 44) := ⟨⟨_, Try.underlying44, by kernel_rfl, by kernel_rfl⟩, ⟨Try.t44, by kernel_rfl, by kernel_rfl, by kernel_rfl, .agg #[.string ⟨#[]⟩, .int .i64 0, .int .i64 0, .int .i64 0], by kernel_rfl, zAgg (zCons zStr (zCons zInt (zCons zInt (zCons zInt zNil))))⟩, fun h => feq_of h (by kernel_rfl) (by kernel_rfl) (by kernel_rfl) (by kernel_rfl)⟩
theorem tt46 : TIok Try.prog 46 (tt 46) := ⟨⟨_, _, _, Try.underlying46⟩, ⟨Try.t46, by kernel_rfl, by kernel_rfl, by kernel_rfl, .nilFunc, by kernel_rfl, zFunc⟩, fun h => absurd rfl h⟩
theorem tt47 : TIok Try.prog 47 (tt 47) := ⟨⟨_, _, _, Try.underlying47⟩, ⟨Try.t47, by kernel_rfl, by kernel_rfl, by kernel_rfl, .nilFunc, by kernel_rfl, zFunc⟩, fun h => absurd rfl h⟩
theorem tt48 : TIok Try.prog 48 (tt 48) := ⟨⟨_, _, _, Try.underlying48⟩, ⟨Try.t48, by kernel_rfl, by kernel_rfl, by kernel_rfl, .nilFunc, by kernel_rfl, zFunc⟩, fun h => absurd rfl h⟩
theorem tt49 : TIok Try.prog 49 (tt 49) := ⟨⟨_, _, _, Try.underlying49⟩, ⟨Try.t49, by kernel_rfl, by kernel_rfl, by kernel_rfl, .nilFunc, by kernel_rfl, zFunc⟩, fun h => absurd rfl h⟩
theorem tt50 : TIok Try.prog 50 (tt 50) := ⟨⟨_, _, _, Try.underlying50⟩, ⟨Try.t50, by kernel_rfl, by kernel_rfl, by kernel_rfl, .nilFunc, by kernel_rfl, zFunc⟩, fun h => absurd rfl h⟩
theorem tt51 : TIok Try.prog 51 (tt 51) := ⟨Try.underlying51, ⟨Try.t51, by kernel_rfl, by kernel_rfl, by kernel_rfl, .slice none 0 0, by kernel_rfl, zList⟩, fun h => absurd rfl h⟩
theorem tt53 : TIok Try.prog 53 (tt 53) := ⟨⟨_, _, _, Try.underlying53⟩, ⟨Try.t53, by kernel_rfl, by kernel_rfl, by kernel_rfl, .nilFunc, by kernel_rfl, zFunc⟩, fun h => absurd rfl h⟩
theorem tt54 : TIok Try.prog 54 (tt 54) := ⟨Try.underlying54, ⟨Try.t54, by kernel_rfl, by kernel_rfl, by kernel_rfl, .slice none 0 0, by kernel_rfl, zList⟩, fun h => absurd rfl h⟩
theorem tt56 : TIok Try.prog 56 (tt 56) := ⟨⟨_, _, _, Try.underlying56⟩, ⟨Try.t56, by kernel_rfl, by kernel_rfl, by kernel_rfl, .nilFunc, by kernel_rfl, zFunc⟩, fun h => absurd rfl h⟩
theorem tt57 : TIok Try.prog 57 (tt 57) := ⟨⟨_, _, _, Try.underlying57⟩, ⟨Try.t57, by kernel_rfl, by kernel_rfl, by kernel_rfl, .nilFunc, by kernel_rfl, zFunc⟩, fun h => absurd rfl h⟩
theorem tt58 : TIok Try.prog 58 (tt 58) := ⟨⟨_, _, _, Try.underlying58⟩, ⟨Try.t58, by kernel_rfl, by kernel_rfl, by kernel_rfl, .nilFunc, by kernel_rfl, zFunc⟩, fun h => absurd rfl h⟩
theorem tt59 : TIok Try.prog 59 (tt 59) := ⟨⟨_, _, _, Try.underlying59⟩, ⟨Try.t59, by kernel_rfl, by kernel_rfl, by kernel_rfl, .nilFunc, by kernel_rfl, zFunc⟩, fun h => absurd rfl h⟩
theorem tt60 : TIok Try.prog 60 (tt 60) := ⟨⟨_, _, _, Try.underlying60⟩, ⟨Try.t60, by kernel_rfl, by kernel_rfl, by kernel_rfl, .nilFunc, by kernel_rfl, zFunc⟩, fun h => absurd rfl h⟩
theorem tt61 : TIok Try.prog 61 (tt 61) := ⟨Try.underlying61, ⟨Try.t61, by kernel_rfl, by kernel_rfl, by kernel_rfl, .slice none 0 0, by kernel_rfl, zList⟩, fun h => absurd rfl h⟩
theorem tt62 : TIok Try.prog 62 (tt 62) := ⟨⟨_, _, _, Try.underlying62⟩, ⟨Try.t62, by kernel_rfl, by kernel_rfl, by kernel_rfl, .nilFunc, by kernel_rfl, zFunc⟩, fun h => absurd rfl h⟩
theorem tt63 : TIok Try.prog 63 (tt 63) := ⟨⟨_, _, _, Try.underlying63⟩, ⟨Try.t63, by kernel_rfl, by kernel_rfl, by kernel_rfl, .nilFunc, by kernel_rfl, zFunc⟩, fun h => absurd rfl h⟩
theorem tt64 : TIok Try.prog 64 (tt 64) := ⟨⟨_, _, _, Try.underlying64⟩, ⟨Try.t64, by kernel_rfl, by kernel_rfl, by kernel_rfl, .nilFunc, by kernel_rfl, zFunc⟩, fun h => absurd rfl h⟩
theorem tt65 : TIok Try.prog 65 (tt 65) := ⟨⟨_, _, _, Try.underlying65⟩, ⟨Try.t65, by kernel_rfl, by kernel_rfl, by kernel_rfl, .nilFunc, by kernel_rfl, zFunc⟩, fun h => absurd rfl h⟩
theorem tt66 : TIok Try.prog 66 (tt 66) := ⟨Try.underlying66, ⟨Try.t66, by kernel_rfl, by kernel_rfl, by kernel_rfl, .slice none 0 0, by kernel_rfl, zList⟩, fun h => absurd rfl h⟩
theorem tt67 : TIok Try.prog 67 (tt 67) := ⟨Try.underlying67, ⟨Try.t67, by kernel_rfl, by kernel_rfl, by kernel_rfl, .pointer none, by kernel_rfl, zPtr⟩, fun h => absurd rfl h⟩
theorem tt68 : TIok Try.prog 68 (tt 68) := ⟨⟨_, _, _, Try.underlying68⟩, ⟨Try.t68, by kernel_rfl, by kernel_rfl, by kernel_rfl, .nilFunc, by kernel_rfl, zFunc⟩, fun h => absurd rfl h⟩
theorem tt69 : TIok Try.prog 69 (tt 69) := ⟨⟨_, _, _, Try.underlying69⟩, ⟨Try.t69, by kernel_rfl, by kernel_rfl, by kernel_rfl, .nilFunc, by kernel_rfl, zFunc⟩, fun h => absurd rfl h⟩
theorem tt70 : TIok Try.prog 70 (tt 70) := ⟨⟨_, Try.underlying70, by kernel_rfl, by kernel_rfl⟩, ⟨Try.t70, by kernel_rfl, by kernel_rfl, by kernel_rfl, .agg #[.int .u8 0, .string ⟨#[]⟩, .int .i64 0], by kernel_rfl, zAgg (zCons zInt (zCons zStr (zCons zInt zNil)))⟩, fun h => feq_of h (by kernel_rfl) (by kernel_rfl) (by kernel_rfl) (by kernel_rfl)⟩
theorem tt71 : TIok Try.prog 71 (tt 71) := ⟨⟨_, Try.underlying71, by kernel_rfl, by kernel_rfl⟩, ⟨Try.t71, by kernel_rfl, by kernel_rfl, by kernel_rfl, .agg #[.int .u8 0, .string ⟨#[]⟩, .int .i64 0], by kernel_rfl, zAgg (zCons zInt (zCons zStr (zCons zInt zNil)))⟩, fun h => feq_of h (by kernel_rfl) (by kernel_rfl) (by kernel_rfl) (by kernel_rfl)⟩
theorem tt73 : TIok Try.prog 73 (tt 73) := ⟨⟨_, _, _, Try.underlying73⟩, ⟨Try.t73, by kernel_rfl, by kernel_rfl, by kernel_rfl, .nilFunc, by kernel_rfl, zFunc⟩, fun h => absurd rfl h⟩
theorem tt74 : TIok Try.prog 74 (tt 74) := ⟨⟨_, _, _, Try.underlying74⟩, ⟨Try.t74, by kernel_rfl, by kernel_rfl, by kernel_rfl, .nilFunc, by kernel_rfl, zFunc⟩, fun h => absurd rfl h⟩
theorem tt75 : TIok Try.prog 75 (tt 75) := ⟨⟨_, _, _, Try.underlying75⟩, ⟨Try.t75, by kernel_rfl, by kernel_rfl, by kernel_rfl, .nilFunc, by kernel_rfl, zFunc⟩, fun h => absurd rfl h⟩
theorem tt76 : TIok Try.prog 76 (tt 76) := ⟨⟨_, _, _, Try.underlying76⟩, ⟨Try.t76, by kernel_rfl, by kernel_rfl, by kernel_rfl, .nilFunc, by kernel_rfl, zFunc⟩, fun h => absurd rfl h⟩
theorem tt77 : TIok Try.prog 77 (tt 77) := ⟨⟨_, _, _, Try.underlying77⟩, ⟨Try.t77, by kernel_rfl, by kernel_rfl, by kernel_rfl, .nilFunc, by kernel_rfl, zFunc⟩, fun h => absurd rfl h⟩
theorem tt78 : TIok Try.prog 78 (tt 78) := ⟨⟨_, _, _, Try.underlying78⟩, ⟨Try.t78, by kernel_rfl, by kernel_rfl, by kernel_rfl, .nilFunc, by kernel_rfl, zFunc⟩, fun h => absurd rfl h⟩
theorem tt79 : TIok Try.prog 79 (tt 79) := ⟨⟨_, _, _, Try.underlying79⟩, ⟨Try.t79, by kernel_rfl, by kernel_rfl, by kernel_rfl, .nilFunc, by kernel_rfl, zFunc⟩, fun h => absurd rfl h⟩
theorem tt80 : TIok Try.prog 80 (tt 80) := ⟨⟨_, Try.underlying80, by kernel_rfl, by kernel_rfl⟩, ⟨Try.t80, by kernel_rfl, by kernel_rfl, by kernel_rfl, .agg #[.string ⟨#[]⟩, .int .i64 0, .int .i64 0, .int .i64 0], by kernel_rfl, zAgg (zCons zStr (zCons zInt (zCons zInt (zCons zInt zNil))))⟩, fun h => feq_of h (by kernel_rfl) (by kernel_rfl) (by kernel_rfl) (by kernel_rfl)⟩
theorem tt81 : TIok Try.prog 81 (tt 81) := ⟨⟨_, Try.underlying81, by kernel_rfl, by kernel_rfl⟩, ⟨Try.t81, by kernel_rfl, by kernel_rfl, by kernel_rfl, .agg #[.string ⟨#[]⟩, .int .i64 0, .int .i64 0, .int .i64 0], by kernel_rfl, zAgg (zCons zStr (zCons zInt (zCons zInt (zCons zInt zNil))))⟩, fun h => feq_of h (by kernel_rfl) (by kernel_rfl) (by kernel_rfl) (by kernel_rfl)⟩
theorem tt82 : TIok Try.prog 82 (tt 82) := ⟨⟨_, _, _, Try.underlying82⟩, ⟨Try.t82, by kernel_rfl, by kernel_rfl, by kernel_rfl, .nilFunc, by kernel_rfl, zFunc⟩, fun h => absurd rfl h⟩
theorem tt84 : TIok Try.prog 84 (tt 84) := ⟨⟨_, _, _, Try.underlying84⟩, ⟨Try.t84, by kernel_rfl, by kernel_rfl, by kernel_rfl, .nilFunc, by kernel_rfl, zFunc⟩, fun h => absurd rfl h⟩
theorem tt85 : TIok Try.prog 85 (tt 85) := ⟨⟨_, _, _, Try.underlying85⟩, ⟨Try.t85, by kernel_rfl, by kernel_rfl, by kernel_rfl, .nilFunc, by kernel_rfl, zFunc⟩, fun h => absurd rfl h⟩
theorem tt86 : TIok Try.prog 86 (tt 86) := ⟨⟨_, _, _, Try.underlying86⟩, ⟨Try.t86, by kernel_rfl, by kernel_rfl, by kernel_rfl, .nilFunc, by kernel_rfl, zFunc⟩, fun h => absurd rfl h⟩
theorem tt87 : TIok Try.prog 87 (tt 87) := ⟨⟨_, _, _, Try.underlying87⟩, ⟨Try.t87, by kernel_rfl, by kernel_rfl, by kernel_rfl, .nilFunc, by kernel_rfl, zFunc⟩, fun h => absurd rfl h⟩
theorem tt88 : TIok Try.prog 88 (tt 88) := ⟨⟨_, _, _, Try.underlying88⟩, ⟨Try.t88, by kernel_rfl, by kernel_rfl, by kernel_rfl, .nilFunc, by kernel_rfl, zFunc⟩, fun h => absurd rfl h⟩
theorem tt89 : TIok Try.prog 89 (tt 89) := ⟨⟨_, _, _, Try.underlying89⟩, ⟨Try.t89, by kernel_rfl, by kernel_rfl, by kernel_rfl, .nilFunc, by kernel_rfl, zFunc⟩, fun h => absurd rfl h⟩
theorem tt91 : TIok Try.prog 91 (tt 91) := ⟨⟨_, _, _, Try.underlying91⟩, ⟨Try.t91, by kernel_rfl, by kernel_rfl, by kernel_rfl, .nilFunc, by kernel_rfl, zFunc⟩, fun h => absurd rfl h⟩
theorem tt92 : TIok Try.prog 92 (tt 92) := ⟨⟨_, _, _, Try.underlying92⟩, ⟨Try.t92, by kernel_rfl, by kernel_rfl, by kernel_rfl, .nilFunc, by kernel_rfl, zFunc⟩, fun h => absurd rfl h⟩
theorem tt93 : TIok Try.prog 93 (tt 93) := ⟨⟨_, _, _, Try.underlying93⟩, ⟨Try.t93, by kernel_rfl, by kernel_rfl, by kernel_rfl, .nilFunc, by kernel_rfl, zFunc⟩, fun h => absurd rfl h⟩
theorem tt94 : TIok Try.prog 94 (tt 94) := ⟨⟨_, _, _, Try.underlying94⟩, ⟨Try.t94, by kernel_rfl, by kernel_rfl, by kernel_rfl, .nilFunc, by kernel_rfl, zFunc⟩, fun h => absurd rfl h⟩
theorem tt95 : TIok Try.prog 95 (tt 95) := ⟨⟨_, Try.underlying95, by kernel_rfl, by kernel_rfl⟩, ⟨Try.t95, by kernel_rfl, by kernel_rfl, by kernel_rfl, .agg #[.int .u8 0, .string ⟨#[]⟩, .string ⟨#[]⟩, .int .i64 0], by kernel_rfl, zAgg (zCons zInt (zCons zStr (zCons zStr (zCons zInt zNil))))⟩, fun h => feq_of h (by kernel_rfl) (by kernel_rfl) (by kernel_rfl) (by kernel_rfl)⟩
theorem tt96 : TIok Try.prog 96 (tt 96) := ⟨⟨_, Try.underlying96, by kernel_rfl, by kernel_rfl⟩, ⟨Try.t96, by kernel_rfl, by kernel_rfl, by kernel_rfl, .agg #[.int .u8 0, .string ⟨#[]⟩, .string ⟨#[]⟩, .int .i64 0], by kernel_rfl, zAgg (zCons zInt (zCons zStr (zCons zStr (zCons zInt zNil))))⟩, fun h => feq_of h (by kernel_rfl) (by kernel_rfl) (by kernel_rfl) (by kernel_rfl)⟩
theorem tt97 : TIok Try.prog 97 (tt 97) := ⟨Try.underlying97, ⟨Try.t97, by kernel_rfl, by kernel_rfl, by kernel_rfl, .pointer none, by kernel_rfl, zPtr⟩, fun h => absurd rfl h⟩
theorem tt98 : TIok Try.prog 98 (tt 98) := ⟨⟨_, Try.underlying98, by kernel_rfl, by kernel_rfl⟩, ⟨Try.t98, by kernel_rfl, by kernel_rfl, by kernel_rfl, .agg #[.pointer none, .slice none 0 0], by kernel_rfl, zAgg (zCons zPtr (zCons zList zNil))⟩, fun h => absurd rfl h⟩
theorem tt99 : TIok Try.prog 99 (tt 99) := ⟨⟨_, Try.underlying99, by kernel_rfl, by kernel_rfl⟩, ⟨Try.t99, by kernel_rfl, by kernel_rfl, by kernel_rfl, .agg #[.pointer none, .slice none 0 0], by kernel_rfl, zAgg (zCons zPtr (zCons zList zNil))⟩, fun h => absurd rfl h⟩
theorem tt100 : TIok Try.prog 100 (tt 100) := ⟨Try.underlying100, ⟨Try.t100, by kernel_rfl, by kernel_rfl, by kernel_rfl, .int .i64 0, by kernel_rfl, zInt⟩, fun h => absurd rfl h⟩
theorem tt102 : TIok Try.prog 102 (tt 102) := ⟨⟨_, _, _, Try.underlying102⟩, ⟨Try.t102, by kernel_rfl, by kernel_rfl, by kernel_rfl, .nilFunc, by kernel_rfl, zFunc⟩, fun h => absurd rfl h⟩
theorem tt103 : TIok Try.prog 103 (tt 103) := ⟨⟨_, _, _, Try.underlying103⟩, ⟨Try.t103, by kernel_rfl, by kernel_rfl, by kernel_rfl, .nilFunc, by kernel_rfl, zFunc⟩, fun h => absurd rfl h⟩
theorem tt104 : TIok Try.prog 104 (tt 104) := ⟨⟨_, Try.underlying104, by kernel_rfl, by kernel_rfl⟩, ⟨Try.t104, by kernel_rfl, by kernel_rfl, by kernel_rfl, .agg #[.slice none 0 0, .int .i64 0], by kernel_rfl, zAgg (zCons zList (zCons zInt zNil))⟩, fun h => absurd rfl h⟩
theorem tt105 : TIok Try.prog 105 (tt 105) := ⟨⟨_, Try.underlying105, by kernel_rfl, by kernel_rfl⟩, ⟨Try.t105, by kernel_rfl, by kernel_rfl, by kernel_rfl, .agg #[.slice none 0 0, .int .i64 0], by kernel_rfl, zAgg (zCons zList (zCons zInt zNil))⟩, fun h => absurd rfl h⟩
theorem tt106 : TIok Try.prog 106 (tt 106) := ⟨⟨_, _, _, Try.underlying106⟩, ⟨Try.t106, by kernel_rfl, by kernel_rfl, by kernel_rfl, .nilFunc, by kernel_rfl, zFunc⟩, fun h => absurd rfl h⟩
theorem tt108 : TIok Try.prog 108 (tt 108) := ⟨⟨_, _, _, Try.underlying108⟩, ⟨Try.t108, by kernel_rfl, by kernel_rfl, by kernel_rfl, .nilFunc, by kernel_rfl, zFunc⟩, fun h => absurd rfl h⟩
theorem tt109 : TIok Try.prog 109 (tt 109) := ⟨⟨_, Try.underlying109, by kernel_rfl, by kernel_rfl⟩, ⟨Try.t109, by kernel_rfl, by kernel_rfl, by kernel_rfl, .agg #[.int .u8 0, .string ⟨#[]⟩, .string ⟨#[]⟩, .int .i64 0], by kernel_rfl, zAgg (zCons zInt (zCons zStr (zCons zStr (zCons zInt zNil))))⟩, fun h => feq_of h (by kernel_rfl) (by kernel_rfl) (by kernel_rfl) (by kernel_rfl)⟩
theorem tt110 : TIok Try.prog 110 (tt 110) := ⟨⟨_, _, _, Try.underlying110⟩, ⟨Try.t110, by kernel_rfl, by kernel_rfl, by kernel_rfl, .nilFunc, by kernel_rfl, zFunc⟩, fun h => absurd rfl h⟩
theorem tt111 : TIok Try.prog 111 (tt 111) := ⟨⟨_, _, _, Try.underlying111⟩, ⟨Try.t111, by kernel_rfl, by kernel_rfl, by kernel_rfl, .nilFunc, by kernel_rfl, zFunc⟩, fun h => absurd rfl h⟩
theorem tt112 : TIok Try.prog 112 (tt 112) := ⟨⟨_, _, _, Try.underlying112⟩, ⟨Try.t112, by kernel_rfl, by kernel_rfl, by kernel_rfl, .nilFunc, by kernel_rfl, zFunc⟩, fun h => absurd rfl h⟩
theorem tt113 : TIok Try.prog 113 (tt 113) := ⟨⟨_, _, _, Try.underlying113⟩, ⟨Try.t113, by kernel_rfl, by kernel_rfl, by kernel_rfl, .nilFunc, by kernel_rfl, zFunc⟩, fun h => absurd rfl h⟩
theorem tt114 : TIok Try.prog 114 (tt 114) := ⟨⟨_, _, _, Try.underlying114⟩, ⟨Try.t114, by kernel_rfl, by kernel_rfl, by kernel_rfl, .nilFunc, by kernel_rfl, zFunc⟩, fun h => absurd rfl h⟩
theorem tt115 : TIok Try.prog 115 (tt 115) := ⟨Try.underlying115, ⟨Try.t115, by kernel_rfl, by kernel_rfl, by kernel_rfl, .slice none 0 0, by kernel_rfl, zList⟩, fun h => absurd rfl h⟩
theorem tt116 : TIok Try.prog 116 (tt 116) := ⟨⟨_, Try.underlying116, by kernel_rfl, by kernel_rfl⟩, ⟨Try.t116, by kernel_rfl, by kernel_rfl, by kernel_rfl, .agg #[.slice none 0 0, .slice none 0 0, .bool false, .int .i64 0, .nilFunc], by kernel_rfl, zAgg (zCons zList (zCons zList (zCons zBool (zCons zInt (zCons zFunc zNil)))))⟩, fun h => absurd rfl h⟩
theorem tt117 : TIok Try.prog 117 (tt 117) := ⟨⟨_, Try.underlying117, by kernel_rfl, by kernel_rfl⟩, ⟨Try.t117, by kernel_rfl, by kernel_rfl, by kernel_rfl, .agg #[.slice none 0 0, .slice none 0 0, .bool false, .int .i64 0, .nilFunc], by kernel_rfl, zAgg (zCons zList (zCons zList (zCons zBool (zCons zInt (zCons zFunc zNil)))))⟩, fun h => absurd rfl h⟩
theorem tt118 : TIok Try.prog 118 (tt 118) := ⟨⟨_, _, _, Try.underlying118⟩, ⟨Try.t118, by kernel_rfl, by kernel_rfl, by kernel_rfl, .nilFunc, by kernel_rfl, zFunc⟩, fun h => absurd rfl h⟩
theorem tt119 : TIok Try.prog 119 (tt 119) := ⟨⟨_, _, _, Try.underlying119⟩, ⟨Try.t119, by kernel_rfl, by kernel_rfl, by kernel_rfl, .nilFunc, by kernel_rfl, zFunc⟩, fun h => absurd rfl h⟩
theorem tt120 : TIok Try.prog 120 (tt 120) := ⟨⟨_, _, _, Try.underlying120⟩, ⟨Try.t120, by kernel_rfl, by kernel_rfl, by kernel_rfl, .nilFunc, by kernel_rfl, zFunc⟩, fun h => absurd rfl h⟩
theorem tt121 : TIok Try.prog 121 (tt 121) := ⟨Try.underlying121, ⟨Try.t121, by kernel_rfl, by kernel_rfl, by kernel_rfl, .pointer none, by kernel_rfl, zPtr⟩, fun h => absurd rfl h⟩
theorem tt122 : TIok Try.prog 122 (tt 122) := ⟨⟨_, Try.underlying122, by kernel_rfl, by kernel_rfl⟩, ⟨Try.t122, by kernel_rfl, by kernel_rfl, by kernel_rfl, .agg #[.pointer none, .slice none 0 0], by kernel_rfl, zAgg (zCons zPtr (zCons zList zNil))⟩, fun h => absurd rfl h⟩
theorem tt123 : TIok Try.prog 123 (tt 123) := ⟨⟨_, Try.underlying123, by kernel_rfl, by kernel_rfl⟩, ⟨Try.t123, by kernel_rfl, by kernel_rfl, by kernel_rfl, .agg #[.pointer none, .slice none 0 0], by kernel_rfl, zAgg (zCons zPtr (zCons zList zNil))⟩, fun h => absurd rfl h⟩
theorem tt124 : TIok Try.prog 124 (tt 124) := ⟨⟨_, _, _, Try.underlying124⟩, ⟨Try.t124, by kernel_rfl, by kernel_rfl, by kernel_rfl, .nilFunc, by kernel_rfl, zFunc⟩, fun h => absurd rfl h⟩
theorem tt125 : TIok Try.prog 125 (tt 125) := ⟨Try.underlying125, ⟨Try.t125, by kernel_rfl, by kernel_rfl, by kernel_rfl, .pointer none, by kernel_rfl, zPtr⟩, fun h => absurd rfl h⟩
theorem tt126 : TIok Try.prog 126 (tt 126) := ⟨⟨_, Try.underlying126, by kernel_rfl, by kernel_rfl⟩, ⟨Try.t126, by kernel_rfl, by kernel_rfl, by kernel_rfl, .agg #[.pointer none, .slice none 0 0], by kernel_rfl, zAgg (zCons zPtr (zCons zList zNil))⟩, fun h => absurd rfl h⟩
theorem tt127 : TIok Try.prog 127 (tt 127) := ⟨⟨_, Try.underlying127, by kernel_rfl, by kernel_rfl⟩, ⟨Try.t127, by kernel_rfl, by kernel_rfl, by kernel_rfl, .agg #[.pointer none, .slice none 0 0], by kernel_rfl, zAgg (zCons zPtr (zCons zList zNil))⟩, fun h => absurd rfl h⟩
theorem tt129 : TIok Try.prog 129 (tt 129) := ⟨⟨_, _, _, Try.underlying129⟩, ⟨Try.t129, by kernel_rfl, by kernel_rfl, by kernel_rfl, .nilFunc, by kernel_rfl, zFunc⟩, fun h => absurd rfl h⟩
theorem tt130 : TIok Try.prog 130 (tt 130) := ⟨⟨_, Try.underlying130, by kernel_rfl, by kernel_rfl⟩, ⟨Try.t130, by kernel_rfl, by kernel_rfl, by kernel_rfl, .agg #[.string ⟨#[]⟩, .string ⟨#[]⟩, .string ⟨#[]⟩, .int .i64 0, .int .i64 0], by kernel_rfl, zAgg (zCons zStr (zCons zStr (zCons zStr (zCons zInt (zCons zInt zNil)))))⟩, fun h => feq_of h (by kernel_rfl) (by kernel_rfl) (by kernel_rfl) (by kernel_rfl)⟩
theorem tt131 : TIok Try.prog 131 (tt 131) := ⟨⟨_, Try.underlying131, by kernel_rfl, by kernel_rfl⟩, ⟨Try.t131, by kernel_rfl, by kernel_rfl, by kernel_rfl, .agg #[.string ⟨#[]⟩, .string ⟨#[]⟩, .string ⟨#[]⟩, .int .i64 0, .int .i64 0], by kernel_rfl, zAgg (zCons zStr (zCons zStr (zCons zStr (zCons zInt (zCons zInt zNil)))))⟩, fun h => feq_of h (by kernel_rfl) (by kernel_rfl) (by kernel_rfl) (by kernel_rfl)⟩
theorem tt132 : TIok Try.prog 132 (tt 132) := ⟨⟨_, _, _, Try.underlying132⟩, ⟨Try.t132, by kernel_rfl, by kernel_rfl, by kernel_rfl, .nilFunc, by kernel_rfl, zFunc⟩, fun h => absurd rfl h⟩
theorem tt134 : TIok Try.prog 134 (tt 134) := ⟨⟨_, _, _, Try.underlying134⟩, ⟨Try.t134, by kernel_rfl, by kernel_rfl, by kernel_rfl, .nilFunc, by kernel_rfl, zFunc⟩, fun h => absurd rfl h⟩
theorem tt135 : TIok Try.prog 135 (tt 135) := ⟨⟨_, _, _, Try.underlying135⟩, ⟨Try.t135, by kernel_rfl, by kernel_rfl, by kernel_rfl, .nilFunc, by kernel_rfl, zFunc⟩, fun h => absurd rfl h⟩
theorem tt136 : TIok Try.prog 136 (tt 136) := ⟨⟨_, _, _, Try.underlying136⟩, ⟨Try.t136, by kernel_rfl, by kernel_rfl, by kernel_rfl, .nilFunc, by kernel_rfl, zFunc⟩, fun h => absurd rfl h⟩
theorem tt137 : TIok Try.prog 137 (tt 137) := ⟨⟨_, _, _, Try.underlying137⟩, ⟨Try.t137, by kernel_rfl, by kernel_rfl, by kernel_rfl, .nilFunc, by kernel_rfl, zFunc⟩, fun h => absurd rfl h⟩
theorem tt138 : TIok Try.prog 138 (tt 138) := ⟨⟨_, Try.underlying138, by kernel_rfl, by kernel_rfl⟩, ⟨Try.t138, by kernel_rfl, by kernel_rfl, by kernel_rfl, .agg #[.int .u8 0, .bool false, .bool false], by kernel_rfl, zAgg (zCons zInt (zCons zBool (zCons zBool zNil)))⟩, fun h => feq_of h (by kernel_rfl) (by kernel_rfl) (by kernel_rfl) (by kernel_rfl)⟩
theorem tt139 : TIok Try.prog 139 (tt 139) := ⟨⟨_, Try.underlying139, by kernel_rfl, by kernel_rfl⟩, ⟨Try.t139, by kernel_rfl, by kernel_rfl, by kernel_rfl, .agg #[.int .u8 0, .bool false, .bool false], by kernel_rfl, zAgg (zCons zInt (zCons zBool (zCons zBool zNil)))⟩, fun h => feq_of h (by kernel_rfl) (by kernel_rfl) (by kernel_rfl) (by kernel_rfl)⟩
theorem tt140 : TIok Try.prog 140 (tt 140) := ⟨Try.underlying140, ⟨Try.t140, by kernel_rfl, by kernel_rfl, by kernel_rfl, .pointer none, by kernel_rfl, zPtr⟩, fun h => absurd rfl h⟩
theorem tt141 : TIok Try.prog 141 (tt 141) := ⟨⟨_, _, _, Try.underlying141⟩, ⟨Try.t141, by kernel_rfl, by kernel_rfl, by kernel_rfl, .nilFunc, by kernel_rfl, zFunc⟩, fun h => absurd rfl h⟩
theorem tt143 : TIok Try.prog 143 (tt 143) := ⟨⟨_, _, _, Try.underlying143⟩, ⟨Try.t143, by kernel_rfl, by kernel_rfl, by kernel_rfl, .nilFunc, by kernel_rfl, zFunc⟩, fun h => absurd rfl h⟩
theorem tt144 : TIok Try.prog 144 (tt 144) := ⟨⟨_, _, _, Try.underlying144⟩, ⟨Try.t144, by kernel_rfl, by kernel_rfl, by kernel_rfl, .nilFunc, by kernel_rfl, zFunc⟩, fun h => absurd rfl h⟩
theorem tt146 : TIok Try.prog 146 (tt 146) := ⟨⟨_, _, _, Try.underlying146⟩, ⟨Try.t146, by kernel_rfl, by kernel_rfl, by kernel_rfl, .nilFunc, by kernel_rfl, zFunc⟩, fun h => absurd rfl h⟩
theorem tt147 : TIok Try.prog 147 (tt 147) := ⟨⟨_, _, _, Try.underlying147⟩, ⟨Try.t147, by kernel_rfl, by kernel_rfl, by kernel_rfl, .nilFunc, by kernel_rfl, zFunc⟩, fun h => absurd rfl h⟩
theorem tt148 : TIok Try.prog 148 (tt 148) := ⟨⟨_, _, _, Try.underlying148⟩, ⟨Try.t148, by kernel_rfl, by kernel_rfl, by kernel_rfl, .nilFunc, by kernel_rfl, zFunc⟩, fun h => absurd rfl h⟩
theorem tt150 : TIok Try.prog 150 (tt 150) := ⟨⟨_, _, _, Try.underlying150⟩, ⟨Try.t150, by kernel_rfl, by kernel_rfl, by kernel_rfl, .nilFunc, by kernel_rfl, zFunc⟩, fun h => absurd rfl h⟩
theorem tt151 : TIok Try.prog 151 (tt 151) := ⟨⟨_, _, _, Try.underlying151⟩, ⟨Try.t151, by kernel_rfl, by kernel_rfl, by kernel_rfl, .nilFunc, by kernel_rfl, zFunc⟩, fun h => absurd rfl h⟩
theorem tt153 : TIok Try.prog 153 (tt 153) := ⟨⟨_, _, _, Try.underlying153⟩, ⟨Try.t153, by kernel_rfl, by kernel_rfl, by kernel_rfl, .nilFunc, by kernel_rfl, zFunc⟩, fun h => absurd rfl h⟩
theorem tt154 : TIok Try.prog 154 (tt 154) := ⟨Try.underlying154, ⟨Try.t154, by kernel_rfl, by kernel_rfl, by kernel_rfl, .map none, by kernel_rfl, zMap⟩, fun h => absurd rfl h⟩
theorem tt155 : TIok Try.prog 155 (tt 155) := ⟨Try.underlying155, ⟨Try.t155, by kernel_rfl, by kernel_rfl, by kernel_rfl, .slice none 0 0, by kernel_rfl, zList⟩, fun h => absurd rfl h⟩
theorem tt156 : TIok Try.prog 156 (tt 156) := ⟨⟨_, _, _, Try.underlying156⟩, ⟨Try.t156, by kernel_rfl, by kernel_rfl, by kernel_rfl, .nilFunc, by kernel_rfl, zFunc⟩, fun h => absurd rfl h⟩
theorem tt157 : TIok Try.prog 157 (tt 157) := ⟨⟨_, _, _, Try.underlying157⟩, ⟨Try.t157, by kernel_rfl, by kernel_rfl, by kernel_rfl, .nilFunc, by kernel_rfl, zFunc⟩, fun h => absurd rfl h⟩
theorem tt158 : TIok Try.prog 158 (tt 158) := ⟨⟨_, _, _, Try.underlying158⟩, ⟨Try.t158, by kernel_rfl, by kernel_rfl, by kernel_rfl, .nilFunc, by kernel_rfl, zFunc⟩, fun h => absurd rfl h⟩
theorem tt159 : TIok Try.prog 159 (tt 159) := ⟨Try.underlying159, ⟨Try.t159, by kernel_rfl, by kernel_rfl, by kernel_rfl, .int .u64 0, by kernel_rfl, zInt⟩, fun h => absurd rfl h⟩
theorem tt160 : TIok Try.prog 160 (tt 160) := ⟨Try.underlying160, ⟨Try.t160, by kernel_rfl, by kernel_rfl, by kernel_rfl, .int .u64 0, by kernel_rfl, zInt⟩, fun h => absurd rfl h⟩
theorem tt161 : TIok Try.prog 161 (tt 161) := ⟨⟨_, _, _, Try.underlying161⟩, ⟨Try.t161, by kernel_rfl, by kernel_rfl, by kernel_rfl, .nilFunc, by kernel_rfl, zFunc⟩, fun h => absurd rfl h⟩
theorem tt162 : TIok Try.prog 162 (tt 162) := ⟨⟨_, _, _, Try.underlying162⟩, ⟨Try.t162, by kernel_rfl, by kernel_rfl, by kernel_rfl, .nilFunc, by kernel_rfl, zFunc⟩, fun h => absurd rfl h⟩
theorem tt163 : TIok Try.prog 163 (tt 163) := ⟨⟨_, _, _, Try.underlying163⟩, ⟨Try.t163, by kernel_rfl, by kernel_rfl, by kernel_rfl, .nilFunc, by kernel_rfl, zFunc⟩, fun h => absurd rfl h⟩
theorem tt164 : TIok Try.prog 164 (tt 164) := ⟨⟨_, _, _, Try.underlying164⟩, ⟨Try.t164, by kernel_rfl, by kernel_rfl, by kernel_rfl, .nilFunc, by kernel_rfl, zFunc⟩, fun h => absurd rfl h⟩
theorem tt165 : TIok Try.prog 165 (tt 165) := ⟨⟨_, _, _, Try.underlying165⟩, ⟨Try.t165, by kernel_rfl, by kernel_rfl, by kernel_rfl, .nilFunc, by kernel_rfl, zFunc⟩, fun h => absurd rfl h⟩
theorem tt166 : TIok Try.prog 166 (tt 166) := ⟨Try.underlying166, ⟨Try.t166, by kernel_rfl, by kernel_rfl, by kernel_rfl, .agg #[.int .u8 0, .int .u8 0, .int .u8 0, .int .u8 0, .int .u8 0, .int .u8 0, .int .u8 0, .int .u8 0, .int .u8 0, .int .u8 0, .int .u8 0, .int .u8 0, .int .u8 0, .int .u8 0, .int .u8 0, .int .u8 0, .int .u8 0, .int .u8 0, .int .u8 0, .int .u8 0], by kernel_rfl, zAgg (zCons zInt (zCons zInt (zCons zInt (zCons zInt (zCons zInt (zCons zInt (zCons zInt (zCons zInt (zCons zInt (zCons zInt (zCons zInt (zCons zInt (zCons zInt (zCons zInt (zCons zInt (zCons zInt (zCons zInt (zCons zInt (zCons zInt (zCons zInt zNil))))))))))))))))))))⟩, fun h => absurd rfl h⟩
theorem tt167 : TIok Try.prog 167 (tt 167) := ⟨⟨_, _, _, Try.underlying167⟩, ⟨Try.t167, by kernel_rfl, by kernel_rfl, by kernel_rfl, .nilFunc, by kernel_rfl, zFunc⟩, fun h => absurd rfl h⟩
theorem tt168 : TIok Try.prog 168 (tt 168) := ⟨⟨_, _, _, Try.underlying168⟩, ⟨Try.t168, by kernel_rfl, by kernel_rfl, by kernel_rfl, .nilFunc, by kernel_rfl, zFunc⟩, fun h => absurd rfl h⟩
theorem tt169 : TIok Try.prog 169 (tt 169) := ⟨⟨_, _, _, Try.underlying169⟩, ⟨Try.t169, by kernel_rfl, by kernel_rfl, by kernel_rfl, .nilFunc, by kernel_rfl, zFunc⟩, fun h => absurd rfl h⟩
theorem tt170 : TIok Try.prog 170 (tt 170) := ⟨⟨_, Try.underlying170, by kernel_rfl, by kernel_rfl⟩, ⟨Try.t170, by kernel_rfl, by kernel_rfl, by kernel_rfl, .agg #[.pointer none, .pointer none, .pointer none, .string ⟨#[]⟩], by kernel_rfl, zAgg (zCons zPtr (zCons zPtr (zCons zPtr (zCons zStr zNil))))⟩, fun h => absurd rfl h⟩
theorem tt171 : TIok Try.prog 171 (tt 171) := ⟨⟨_, Try.underlying171, by kernel_rfl, by kernel_rfl⟩, ⟨Try.t171, by kernel_rfl, by kernel_rfl, by kernel_rfl, .agg #[.pointer none, .pointer none, .pointer none, .string ⟨#[]⟩], by kernel_rfl, zAgg (zCons zPtr (zCons zPtr (zCons zPtr (zCons zStr zNil))))⟩, fun h => absurd rfl h⟩
theorem tt175 : TIok Try.prog 175 (tt 175) := ⟨Try.underlying175, ⟨Try.t175, by kernel_rfl, by kernel_rfl, by kernel_rfl, .int .u32 0, by kernel_rfl, zInt⟩, fun h => absurd rfl h⟩
theorem tt176 : TIok Try.prog 176 (tt 176) := ⟨Try.underlying176, ⟨Try.t176, by kernel_rfl, by kernel_rfl, by kernel_rfl, .int .u8 0, by kernel_rfl, zInt⟩, fun h => absurd rfl h⟩
theorem tt177 : TIok Try.prog 177 (tt 177) := ⟨Try.underlying177, ⟨Try.t177, by kernel_rfl, by kernel_rfl, by kernel_rfl, .int .u8 0, by kernel_rfl, zInt⟩, fun h => absurd rfl h⟩
theorem tt178 : TIok Try.prog 178 (tt 178) := ⟨⟨_, _, _, Try.underlying178⟩, ⟨Try.t178, by kernel_rfl, by kernel_rfl, by kernel_rfl, .nilFunc, by kernel_rfl, zFunc⟩, fun h => absurd rfl h⟩
theorem tt179 : TIok Try.prog 179 (tt 179) := ⟨Try.underlying179, ⟨Try.t179, by kernel_rfl, by kernel_rfl, by kernel_rfl, .pointer none, by kernel_rfl, zPtr⟩, fun h => absurd rfl h⟩
theorem tt180 : TIok Try.prog 180 (tt 180) := ⟨Try.underlying180, ⟨Try.t180, by kernel_rfl, by kernel_rfl, by kernel_rfl, .int .i32 0, by kernel_rfl, zInt⟩, fun h => absurd rfl h⟩
theorem tt181 : TIok Try.prog 181 (tt 181) := ⟨Try.underlying181, ⟨Try.t181, by kernel_rfl, by kernel_rfl, by kernel_rfl, .int .i32 0, by kernel_rfl, zInt⟩, fun h => absurd rfl h⟩
theorem tt182 : TIok Try.prog 182 (tt 182) := ⟨⟨_, Try.underlying182, by kernel_rfl, by kernel_rfl⟩, ⟨Try.t182, by kernel_rfl, by kernel_rfl, by kernel_rfl, .agg #[.int .u64 0, .int .u64 0, .int .u32 0, .int .u8 0, .int .u8 0, .int .u8 0, .int .u8 0, .nilFunc, .pointer none, .int .i32 0, .int .i32 0], by kernel_rfl, zAgg (zCons zInt (zCons zInt (zCons zInt (zCons zInt (zCons zInt (zCons zInt (zCons zInt (zCons zFunc (zCons zPtr (zCons zInt (zCons zInt zNil)))))))))))⟩, fun h => absurd rfl h⟩
theorem tt183 : TIok Try.prog 183 (tt 183) := ⟨⟨_, Try.underlying183, by kernel_rfl, by kernel_rfl⟩, ⟨Try.t183, by kernel_rfl, by kernel_rfl, by kernel_rfl, .agg #[.int .u64 0, .int .u64 0, .int .u32 0, .int .u8 0, .int .u8 0, .int .u8 0, .int .u8 0, .nilFunc, .pointer none, .int .i32 0, .int .i32 0], by kernel_rfl, zAgg (zCons zInt (zCons zInt (zCons zInt (zCons zInt (zCons zInt (zCons zInt (zCons zInt (zCons zFunc (zCons zPtr (zCons zInt (zCons zInt zNil)))))))))))⟩, fun h => absurd rfl h⟩
theorem tt_ok : ∀ t, TIok Try.prog t (tt t) := fun t => by
  unfold tt
  split
  · exact tt1
  · exact tt2
  · exact tt3
  · exact tt4
  · exact tt5
  · exact tt6
  · exact tt7
  · exact tt8
  · exact tt9
  · exact tt10
  · exact tt11
  · exact tt12
  · exact tt13
  · exact tt14
  · exact tt15
  · exact tt16
  · exact tt17
  · exact tt18
  · exact tt19
  · exact tt20
  · exact tt21
  · exact tt22
  · exact tt23
  · exact tt24
  · exact tt25
  · exact tt27
  · exact tt28
  · exact tt29
  · exact tt30
  · exact tt31
  · exact tt32
  · exact tt33
  · exact tt34
  · exact tt35
  · exact tt36
  · exact tt37
  · exact tt39
  · exact tt40
  · exact tt41
  · exact tt42
  · exact tt43
  · exact tt44
  · exact tt46
  · exact tt47
  · exact tt48
  · exact tt49
  · exact tt50
  · exact tt51
  · exact tt53
  · exact tt54
  · exact tt56
  · exact tt57
  · exact tt58
  · exact tt59
  · exact tt60
  · exact tt61
  · exact tt62
  · exact tt63
  · exact tt64
  · exact tt65
  · exact tt66
  · exact tt67
  · exact tt68
  · exact tt69
  · exact tt70
  · exact tt71
  · exact tt73
  · exact tt74
  · exact tt75
  · exact tt76
  · exact tt77
  · exact tt78
  · exact tt79
  · exact tt80
  · exact tt81
  · exact tt82
  · exact tt84
  · exact tt85
  · exact tt86
  · exact tt87
  · exact tt88
  · exact tt89
  · exact tt91
  · exact tt92
  · exact tt93
  · exact tt94
  · exact tt95
  · exact tt96
  · exact tt97
  · exact tt98
  · exact tt99
  · exact tt100
  · exact tt102
  · exact tt103
  · exact tt104
  · exact tt105
  · exact tt106
  · exact tt108
  · exact tt109
  · exact tt110
  · exact tt111
  · exact tt112
  · exact tt113
  · exact tt114
  · exact tt115
  · exact tt116
  · exact tt117
  · exact tt118
  · exact tt119
  · exact tt120
  · exact tt121
  · exact tt122
  · exact tt123
  · exact tt124
  · exact tt125
  · exact tt126
  · exact tt127
  · exact tt129
  · exact tt130
  · exact tt131
  · exact tt132
  · exact tt134
  · exact tt135
  · exact tt136
  · exact tt137
  · exact tt138
  · exact tt139
  · exact tt140
  · exact tt141
  · exact tt143
  · exact tt144
  · exact tt146
  · exact tt147
  · exact tt148
  · exact tt150
  · exact tt151
  · exact tt153
  · exact tt154
  · exact tt155
  · exact tt156
  · exact tt157
  · exact tt158
  · exact tt159
  · exact tt160
  · exact tt161
  · exact tt162
  · exact tt163
  · exact tt164
  · exact tt165
  · exact tt166
  · exact tt167
  · exact tt168
  · exact tt169
  · exact tt170
  · exact tt171
  · exact tt175
  · exact tt176
  · exact tt177
  · exact tt178
  · exact tt179
  · exact tt180
  · exact tt181
  · exact tt182
  · exact tt183
  · trivial
def dataTy : TypeId → Bool := fun t => match t with
  | 2 => true
  | 3 => true
  | 4 => true
  | 5 => true
  | 6 => true
  | 7 => true
  | 8 => true
  | 9 => true
  | 10 => true
  | 11 => true
  | 12 => true
  | 13 => true
  | 14 => true
  | 21 => true
  | 22 => true
  | 24 => true
  | 25 => true
  | 29 => true
  | 30 => true
  | 32 => true
  | 35 => true
  | 43 => true
  | 44 => true
  | 51 => true
  | 54 => true
  | 61 => true
  | 66 => true
  | 70 => true
  | 71 => true
  | 80 => true
  | 81 => true
  | 95 => true
  | 96 => true
  | 100 => true
  | 104 => true
  | 105 => true
  | 109 => true
  | 115 => true
  | 130 => true
  | 131 => true
  | 138 => true
  | 139 => true
  | 155 => true
  | 159 => true
  | 160 => true
  | 166 => true
  | 175 => true
  | 176 => true
  | 177 => true
  | 180 => true
  | 181 => true
  | _ => false
theorem dataOK : DataOK Try.prog tt dataTy where
  tys := tt_ok
  kids := fun t h => by
    unfold dataTy at h; split at h <;> first | (cases h; done) | rfl
  pos := fun t h => by
    unfold dataTy at h; split at h <;> first
      | (cases h; done)
      | exact .inl ⟨_, rfl, by decide⟩
      | (refine .inr (.inr (And.intro ?_ ?_)) <;> (intro e hh; cases hh))
  fields := fun t fs h k => by
    unfold dataTy at h; split at h <;> first
      | (cases h; done)
      | (cases k; rfl)
      | (cases k; done)
  array := fun t m e h k => by
    unfold dataTy at h; split at h <;> first
      | (cases h; done)
      | (cases k; rfl)
      | (cases k; done)
end Go.Proofs.Ytllncocibkgjkaa
