/-
  The table of the seat's types, and that it is the program's. Printed by a program of mine (tygen.py).
-/
import Derived.Test.YtgbkjecepncjoaaVgY
import Derived.Test.YtgbkjecepncjoaaProg
import Derived.KernelRfl
namespace Go.Proofs.Ytgbkjecepncjoaa
open Go Go.VG
set_option maxRecDepth 100000
def tt : TypeId → TI := fun t => match t with
  | 1 => ⟨.func, 1, 8, .nilFunc, false⟩
  | 2 => ⟨.int .i64, 1, 8, .int .i64 0, false⟩
  | 3 => ⟨.int .i64, 1, 8, .int .i64 0, false⟩
  | 4 => ⟨.bool, 1, 1, .bool false, false⟩
  | 5 => ⟨.int .u8, 1, 1, .int .u8 0, false⟩
  | 6 => ⟨.int .u8, 1, 1, .int .u8 0, false⟩
  | 7 => ⟨.struct [(0, 2), (1, 3), (2, 4), (3, 6)], 4, 24, .agg [.int .i64 0, .int .i64 0, .bool false, .int .u8 0], false⟩
  | 8 => ⟨.struct [(0, 2), (1, 3), (2, 4), (3, 6)], 4, 24, .agg [.int .i64 0, .int .i64 0, .bool false, .int .u8 0], false⟩
  | 9 => ⟨.string, 1, 16, .str [], false⟩
  | 10 => ⟨.string, 1, 16, .str [], false⟩
  | 11 => ⟨.string, 1, 16, .str [], false⟩
  | 12 => ⟨.int .u64, 1, 8, .int .u64 0, false⟩
  | 13 => ⟨.struct [(0, 9), (1, 12)], 2, 24, .agg [.str [], .int .u64 0], false⟩
  | 14 => ⟨.struct [(0, 9), (1, 12)], 2, 24, .agg [.str [], .int .u64 0], false⟩
  | 15 => ⟨.ptr 113, 1, 8, .nilptr, false⟩
  | 16 => ⟨.ptr 116, 1, 8, .nilptr, false⟩
  | 17 => ⟨.ptr 125, 1, 8, .nilptr, false⟩
  | 18 => ⟨.struct [(0, 17)], 1, 8, .agg [.nilptr], false⟩
  | 19 => ⟨.struct [(0, 17)], 1, 8, .agg [.nilptr], false⟩
  | 20 => ⟨.iface, 1, 16, .nilIface, false⟩
  | 21 => ⟨.int .i32, 1, 4, .int .i32 0, false⟩
  | 22 => ⟨.slice 31, 1, 24, .list true 0 [], false⟩
  | 23 => ⟨.func, 1, 8, .nilFunc, false⟩
  | 24 => ⟨.ptr 59, 1, 8, .nilptr, false⟩
  | 25 => ⟨.func, 1, 8, .nilFunc, false⟩
  | 26 => ⟨.int .i64, 1, 8, .int .i64 0, false⟩
  | 27 => ⟨.struct [(0, 9), (1, 9), (2, 4), (3, 4), (4, 26)], 5, 48, .agg [.str [], .str [], .bool false, .bool false, .int .i64 0], false⟩
  | 28 => ⟨.struct [(0, 9), (1, 9), (2, 4), (3, 4), (4, 26)], 5, 48, .agg [.str [], .str [], .bool false, .bool false, .int .i64 0], false⟩
  | 29 => ⟨.func, 1, 8, .nilFunc, false⟩
  | 30 => ⟨.struct [(0, 5), (1, 9), (2, 3)], 3, 32, .agg [.int .u8 0, .str [], .int .i64 0], false⟩
  | 31 => ⟨.struct [(0, 5), (1, 9), (2, 3)], 3, 32, .agg [.int .u8 0, .str [], .int .i64 0], false⟩
  | 32 => ⟨.func, 1, 8, .nilFunc, false⟩
  | 34 => ⟨.func, 1, 8, .nilFunc, false⟩
  | 35 => ⟨.func, 1, 8, .nilFunc, false⟩
  | 36 => ⟨.func, 1, 8, .nilFunc, false⟩
  | 37 => ⟨.slice 5, 1, 24, .list true 0 [], false⟩
  | 38 => ⟨.func, 1, 8, .nilFunc, false⟩
  | 39 => ⟨.func, 1, 8, .nilFunc, false⟩
  | 40 => ⟨.func, 1, 8, .nilFunc, false⟩
  | 41 => ⟨.ptr 68, 1, 8, .nilptr, false⟩
  | 42 => ⟨.func, 1, 8, .nilFunc, false⟩
  | 43 => ⟨.func, 1, 8, .nilFunc, false⟩
  | 44 => ⟨.func, 1, 8, .nilFunc, false⟩
  | 45 => ⟨.func, 1, 8, .nilFunc, false⟩
  | 46 => ⟨.func, 1, 8, .nilFunc, false⟩
  | 47 => ⟨.struct [(0, 9), (1, 3), (2, 3), (3, 26)], 4, 40, .agg [.str [], .int .i64 0, .int .i64 0, .int .i64 0], false⟩
  | 48 => ⟨.struct [(0, 9), (1, 3), (2, 3), (3, 26)], 4, 40, .agg [.str [], .int .i64 0, .int .i64 0, .int .i64 0], false⟩
  | 49 => ⟨.func, 1, 8, .nilFunc, false⟩
  | 51 => ⟨.func, 1, 8, .nilFunc, false⟩
  | 52 => ⟨.func, 1, 8, .nilFunc, false⟩
  | 53 => ⟨.func, 1, 8, .nilFunc, false⟩
  | 54 => ⟨.func, 1, 8, .nilFunc, false⟩
  | 55 => ⟨.func, 1, 8, .nilFunc, false⟩
  | 56 => ⟨.func, 1, 8, .nilFunc, false⟩
  | 57 => ⟨.slice 82, 1, 24, .list true 0 [], false⟩
  | 58 => ⟨.struct [(0, 37), (1, 57), (2, 4), (3, 26), (4, 38)], 5, 72, .agg [.list true 0 [], .list true 0 [], .bool false, .int .i64 0, .nilFunc], false⟩
  | 59 => ⟨.struct [(0, 37), (1, 57), (2, 4), (3, 26), (4, 38)], 5, 72, .agg [.list true 0 [], .list true 0 [], .bool false, .int .i64 0, .nilFunc], false⟩
  | 60 => ⟨.func, 1, 8, .nilFunc, false⟩
  | 61 => ⟨.func, 1, 8, .nilFunc, false⟩
  | 62 => ⟨.func, 1, 8, .nilFunc, false⟩
  | 63 => ⟨.func, 1, 8, .nilFunc, false⟩
  | 64 => ⟨.func, 1, 8, .nilFunc, false⟩
  | 66 => ⟨.func, 1, 8, .nilFunc, false⟩
  | 67 => ⟨.struct [(0, 9), (1, 3), (2, 3), (3, 26)], 4, 40, .agg [.str [], .int .i64 0, .int .i64 0, .int .i64 0], false⟩
  | 68 => ⟨.struct [(0, 9), (1, 3), (2, 3), (3, 26)], 4, 40, .agg [.str [], .int .i64 0, .int .i64 0, .int .i64 0], false⟩
  | 70 => ⟨.func, 1, 8, .nilFunc, false⟩
  | 71 => ⟨.func, 1, 8, .nilFunc, false⟩
  | 72 => ⟨.func, 1, 8, .nilFunc, false⟩
  | 73 => ⟨.ptr 75, 1, 8, .nilptr, false⟩
  | 74 => ⟨.struct [(0, 41), (1, 37)], 2, 32, .agg [.nilptr, .list true 0 []], false⟩
  | 75 => ⟨.struct [(0, 41), (1, 37)], 2, 32, .agg [.nilptr, .list true 0 []], false⟩
  | 76 => ⟨.func, 1, 8, .nilFunc, false⟩
  | 77 => ⟨.func, 1, 8, .nilFunc, false⟩
  | 79 => ⟨.func, 1, 8, .nilFunc, false⟩
  | 80 => ⟨.func, 1, 8, .nilFunc, false⟩
  | 81 => ⟨.struct [(0, 5), (1, 4), (2, 4)], 3, 3, .agg [.int .u8 0, .bool false, .bool false], false⟩
  | 82 => ⟨.struct [(0, 5), (1, 4), (2, 4)], 3, 3, .agg [.int .u8 0, .bool false, .bool false], false⟩
  | 83 => ⟨.ptr 82, 1, 8, .nilptr, false⟩
  | 84 => ⟨.func, 1, 8, .nilFunc, false⟩
  | 85 => ⟨.func, 1, 8, .nilFunc, false⟩
  | 87 => ⟨.func, 1, 8, .nilFunc, false⟩
  | 88 => ⟨.func, 1, 8, .nilFunc, false⟩
  | 89 => ⟨.func, 1, 8, .nilFunc, false⟩
  | 90 => ⟨.func, 1, 8, .nilFunc, false⟩
  | 91 => ⟨.func, 1, 8, .nilFunc, false⟩
  | 93 => ⟨.func, 1, 8, .nilFunc, false⟩
  | 94 => ⟨.func, 1, 8, .nilFunc, false⟩
  | 95 => ⟨.func, 1, 8, .nilFunc, false⟩
  | 96 => ⟨.func, 1, 8, .nilFunc, false⟩
  | 97 => ⟨.int .u64, 1, 8, .int .u64 0, false⟩
  | 98 => ⟨.func, 1, 8, .nilFunc, false⟩
  | 99 => ⟨.func, 1, 8, .nilFunc, false⟩
  | 100 => ⟨.func, 1, 8, .nilFunc, false⟩
  | 102 => ⟨.int .u64, 1, 8, .int .u64 0, false⟩
  | 103 => ⟨.func, 1, 8, .nilFunc, false⟩
  | 104 => ⟨.func, 1, 8, .nilFunc, false⟩
  | 106 => ⟨.func, 1, 8, .nilFunc, false⟩
  | 107 => ⟨.func, 1, 8, .nilFunc, false⟩
  | 108 => ⟨.array 20 5, 20, 20, .agg [.int .u8 0, .int .u8 0, .int .u8 0, .int .u8 0, .int .u8 0, .int .u8 0, .int .u8 0, .int .u8 0, .int .u8 0, .int .u8 0, .int .u8 0, .int .u8 0, .int .u8 0, .int .u8 0, .int .u8 0, .int .u8 0, .int .u8 0, .int .u8 0, .int .u8 0, .int .u8 0], false⟩
  | 109 => ⟨.func, 1, 8, .nilFunc, false⟩
  | 110 => ⟨.func, 1, 8, .nilFunc, false⟩
  | 111 => ⟨.func, 1, 8, .nilFunc, false⟩
  | 112 => ⟨.struct [(0, 17), (1, 17), (2, 17), (3, 9)], 4, 40, .agg [.nilptr, .nilptr, .nilptr, .str []], false⟩
  | 113 => ⟨.struct [(0, 17), (1, 17), (2, 17), (3, 9)], 4, 40, .agg [.nilptr, .nilptr, .nilptr, .str []], false⟩
  | 117 => ⟨.int .u32, 1, 4, .int .u32 0, false⟩
  | 118 => ⟨.int .u8, 1, 1, .int .u8 0, false⟩
  | 119 => ⟨.int .u8, 1, 1, .int .u8 0, false⟩
  | 120 => ⟨.func, 1, 8, .nilFunc, false⟩
  | 121 => ⟨.ptr 5, 1, 8, .nilptr, false⟩
  | 122 => ⟨.int .i32, 1, 4, .int .i32 0, false⟩
  | 123 => ⟨.int .i32, 1, 4, .int .i32 0, false⟩
  | 124 => ⟨.struct [(0, 12), (1, 12), (2, 117), (3, 118), (4, 5), (5, 5), (6, 119), (7, 120), (8, 121), (9, 122), (10, 123)], 11, 48, .agg [.int .u64 0, .int .u64 0, .int .u32 0, .int .u8 0, .int .u8 0, .int .u8 0, .int .u8 0, .nilFunc, .nilptr, .int .i32 0, .int .i32 0], false⟩
  | 125 => ⟨.struct [(0, 12), (1, 12), (2, 117), (3, 118), (4, 5), (5, 5), (6, 119), (7, 120), (8, 121), (9, 122), (10, 123)], 11, 48, .agg [.int .u64 0, .int .u64 0, .int .u32 0, .int .u8 0, .int .u8 0, .int .u8 0, .int .u8 0, .nilFunc, .nilptr, .int .i32 0, .int .i32 0], false⟩
  | _ => ⟨.other, 0, 0, .undef, false⟩
theorem tt1 : TIok Try.prog 1 (tt 1) := ⟨⟨_, _, _, Try.underlying1⟩, ⟨Try.t1, by kernel_rfl, by kernel_rfl, by kernel_rfl, .nilFunc, by kernel_rfl, zFunc⟩, fun h => by cases h⟩
theorem tt2 : TIok Try.prog 2 (tt 2) := ⟨Try.underlying2, ⟨Try.t2, by kernel_rfl, by kernel_rfl, by kernel_rfl, .int .i64 0, by kernel_rfl, zInt⟩, fun h => by cases h⟩
theorem tt3 : TIok Try.prog 3 (tt 3) := ⟨Try.underlying3, ⟨Try.t3, by kernel_rfl, by kernel_rfl, by kernel_rfl, .int .i64 0, by kernel_rfl, zInt⟩, fun h => by cases h⟩
theorem tt4 : TIok Try.prog 4 (tt 4) := ⟨Try.underlying4, ⟨Try.t4, by kernel_rfl, by kernel_rfl, by kernel_rfl, .bool false, by kernel_rfl, zBool⟩, fun h => by cases h⟩
theorem tt5 : TIok Try.prog 5 (tt 5) := ⟨Try.underlying5, ⟨Try.t5, by kernel_rfl, by kernel_rfl, by kernel_rfl, .int .u8 0, by kernel_rfl, zInt⟩, fun h => by cases h⟩
theorem tt6 : TIok Try.prog 6 (tt 6) := ⟨Try.underlying6, ⟨Try.t6, by kernel_rfl, by kernel_rfl, by kernel_rfl, .int .u8 0, by kernel_rfl, zInt⟩, fun h => by cases h⟩
theorem tt7 : TIok Try.prog 7 (tt 7) := ⟨⟨_, Try.underlying7, by kernel_rfl, by kernel_rfl⟩, ⟨Try.t7, by kernel_rfl, by kernel_rfl, by kernel_rfl, .agg #[.int .i64 0, .int .i64 0, .bool false, .int .u8 0], by kernel_rfl, zAgg (zCons zInt (zCons zInt (zCons zBool (zCons zInt zNil))))⟩, fun h => by cases h⟩
theorem tt8 : TIok Try.prog 8 (tt 8) := ⟨⟨_, Try.underlying8, by kernel_rfl, by kernel_rfl⟩, ⟨Try.t8, by kernel_rfl, by kernel_rfl, by kernel_rfl, .agg #[.int .i64 0, .int .i64 0, .bool false, .int .u8 0], by kernel_rfl, zAgg (zCons zInt (zCons zInt (zCons zBool (zCons zInt zNil))))⟩, fun h => by cases h⟩
theorem tt9 : TIok Try.prog 9 (tt 9) := ⟨Try.underlying9, ⟨Try.t9, by kernel_rfl, by kernel_rfl, by kernel_rfl, .string ⟨#[]⟩, by kernel_rfl, zStr⟩, fun h => by cases h⟩
theorem tt10 : TIok Try.prog 10 (tt 10) := ⟨Try.underlying10, ⟨Try.t10, by kernel_rfl, by kernel_rfl, by kernel_rfl, .string ⟨#[]⟩, by kernel_rfl, zStr⟩, fun h => by cases h⟩
theorem tt11 : TIok Try.prog 11 (tt 11) := ⟨Try.underlying11, ⟨Try.t11, by kernel_rfl, by kernel_rfl, by kernel_rfl, .string ⟨#[]⟩, by kernel_rfl, zStr⟩, fun h => by cases h⟩
theorem tt12 : TIok Try.prog 12 (tt 12) := ⟨Try.underlying12, ⟨Try.t12, by kernel_rfl, by kernel_rfl, by kernel_rfl, .int .u64 0, by kernel_rfl, zInt⟩, fun h => by cases h⟩
theorem tt13 : TIok Try.prog 13 (tt 13) := ⟨⟨_, Try.underlying13, by kernel_rfl, by kernel_rfl⟩, ⟨Try.t13, by kernel_rfl, by kernel_rfl, by kernel_rfl, .agg #[.string ⟨#[]⟩, .int .u64 0], by kernel_rfl, zAgg (zCons zStr (zCons zInt zNil))⟩, fun h => by cases h⟩
theorem tt14 : TIok Try.prog 14 (tt 14) := ⟨⟨_, Try.underlying14, by kernel_rfl, by kernel_rfl⟩, ⟨Try.t14, by kernel_rfl, by kernel_rfl, by kernel_rfl, .agg #[.string ⟨#[]⟩, .int .u64 0], by kernel_rfl, zAgg (zCons zStr (zCons zInt zNil))⟩, fun h => by cases h⟩
theorem tt15 : TIok Try.prog 15 (tt 15) := ⟨Try.underlying15, ⟨Try.t15, by kernel_rfl, by kernel_rfl, by kernel_rfl, .pointer none, by kernel_rfl, zPtr⟩, fun h => by cases h⟩
theorem tt16 : TIok Try.prog 16 (tt 16) := ⟨Try.underlying16, ⟨Try.t16, by kernel_rfl, by kernel_rfl, by kernel_rfl, .pointer none, by kernel_rfl, zPtr⟩, fun h => by cases h⟩
theorem tt17 : TIok Try.prog 17 (tt 17) := ⟨Try.underlying17, ⟨Try.t17, by kernel_rfl, by kernel_rfl, by kernel_rfl, .pointer none, by kernel_rfl, zPtr⟩, fun h => by cases h⟩
theorem tt18 : TIok Try.prog 18 (tt 18) := ⟨⟨_, Try.underlying18, by kernel_rfl, by kernel_rfl⟩, ⟨Try.t18, by kernel_rfl, by kernel_rfl, by kernel_rfl, .agg #[.pointer none], by kernel_rfl, zAgg (zCons zPtr zNil)⟩, fun h => by cases h⟩
theorem tt19 : TIok Try.prog 19 (tt 19) := ⟨⟨_, Try.underlying19, by kernel_rfl, by kernel_rfl⟩, ⟨Try.t19, by kernel_rfl, by kernel_rfl, by kernel_rfl, .agg #[.pointer none], by kernel_rfl, zAgg (zCons zPtr zNil)⟩, fun h => by cases h⟩
theorem tt20 : TIok Try.prog 20 (tt 20) := ⟨⟨_, Try.underlying20⟩, ⟨Try.t20, by kernel_rfl, by kernel_rfl, by kernel_rfl, .nilIface, by kernel_rfl, zIface⟩, fun h => by cases h⟩
theorem tt21 : TIok Try.prog 21 (tt 21) := ⟨Try.underlying21, ⟨Try.t21, by kernel_rfl, by kernel_rfl, by kernel_rfl, .int .i32 0, by kernel_rfl, zInt⟩, fun h => by cases h⟩
theorem tt22 : TIok Try.prog 22 (tt 22) := ⟨Try.underlying22, ⟨Try.t22, by kernel_rfl, by kernel_rfl, by kernel_rfl, .slice none 0 0, by kernel_rfl, zList⟩, fun h => by cases h⟩
theorem tt23 : TIok Try.prog 23 (tt 23) := ⟨⟨_, _, _, Try.underlying23⟩, ⟨Try.t23, by kernel_rfl, by kernel_rfl, by kernel_rfl, .nilFunc, by kernel_rfl, zFunc⟩, fun h => by cases h⟩
theorem tt24 : TIok Try.prog 24 (tt 24) := ⟨Try.underlying24, ⟨Try.t24, by kernel_rfl, by kernel_rfl, by kernel_rfl, .pointer none, by kernel_rfl, zPtr⟩, fun h => by cases h⟩
theorem tt25 : TIok Try.prog 25 (tt 25) := ⟨⟨_, _, _, Try.underlying25⟩, ⟨Try.t25, by kernel_rfl, by kernel_rfl, by kernel_rfl, .nilFunc, by kernel_rfl, zFunc⟩, fun h => by cases h⟩
theorem tt26 : TIok Try.prog 26 (tt 26) := ⟨Try.underlying26, ⟨Try.t26, by kernel_rfl, by kernel_rfl, by kernel_rfl, .int .i64 0, by kernel_rfl, zInt⟩, fun h => by cases h⟩
theorem tt27 : TIok Try.prog 27 (tt 27) := ⟨⟨_, Try.underlying27, by kernel_rfl, by kernel_rfl⟩, ⟨Try.t27, by kernel_rfl, by kernel_rfl, by kernel_rfl, .agg #[.string ⟨#[]⟩, .string ⟨#[]⟩, .bool false, .bool false, .int .i64 0], by kernel_rfl, zAgg (zCons zStr (zCons zStr (zCons zBool (zCons zBool (zCons zInt zNil)))))⟩, fun h => by cases h⟩
theorem tt28 : TIok Try.prog 28 (tt 28) := ⟨⟨_, Try.underlying28, by kernel_rfl, by kernel_rfl⟩, ⟨Try.t28, by kernel_rfl, by kernel_rfl, by kernel_rfl, .agg #[.string ⟨#[]⟩, .string ⟨#[]⟩, .bool false, .bool false, .int .i64 0], by kernel_rfl, zAgg (zCons zStr (zCons zStr (zCons zBool (zCons zBool (zCons zInt zNil)))))⟩, fun h => by cases h⟩
theorem tt29 : TIok Try.prog 29 (tt 29) := ⟨⟨_, _, _, Try.underlying29⟩, ⟨Try.t29, by kernel_rfl, by kernel_rfl, by kernel_rfl, .nilFunc, by kernel_rfl, zFunc⟩, fun h => by cases h⟩
theorem tt30 : TIok Try.prog 30 (tt 30) := ⟨⟨_, Try.underlying30, by kernel_rfl, by kernel_rfl⟩, ⟨Try.t30, by kernel_rfl, by kernel_rfl, by kernel_rfl, .agg #[.int .u8 0, .string ⟨#[]⟩, .int .i64 0], by kernel_rfl, zAgg (zCons zInt (zCons zStr (zCons zInt zNil)))⟩, fun h => by cases h⟩
theorem tt31 : TIok Try.prog 31 (tt 31) := ⟨⟨_, Try.underlying31, by kernel_rfl, by kernel_rfl⟩, ⟨Try.t31, by kernel_rfl, by kernel_rfl, by kernel_rfl, .agg #[.int .u8 0, .string ⟨#[]⟩, .int .i64 0], by kernel_rfl, zAgg (zCons zInt (zCons zStr (zCons zInt zNil)))⟩, fun h => by cases h⟩
theorem tt32 : TIok Try.prog 32 (tt 32) := ⟨⟨_, _, _, Try.underlying32⟩, ⟨Try.t32, by kernel_rfl, by kernel_rfl, by kernel_rfl, .nilFunc, by kernel_rfl, zFunc⟩, fun h => by cases h⟩
theorem tt34 : TIok Try.prog 34 (tt 34) := ⟨⟨_, _, _, Try.underlying34⟩, ⟨Try.t34, by kernel_rfl, by kernel_rfl, by kernel_rfl, .nilFunc, by kernel_rfl, zFunc⟩, fun h => by cases h⟩
theorem tt35 : TIok Try.prog 35 (tt 35) := ⟨⟨_, _, _, Try.underlying35⟩, ⟨Try.t35, by kernel_rfl, by kernel_rfl, by kernel_rfl, .nilFunc, by kernel_rfl, zFunc⟩, fun h => by cases h⟩
theorem tt36 : TIok Try.prog 36 (tt 36) := ⟨⟨_, _, _, Try.underlying36⟩, ⟨Try.t36, by kernel_rfl, by kernel_rfl, by kernel_rfl, .nilFunc, by kernel_rfl, zFunc⟩, fun h => by cases h⟩
theorem tt37 : TIok Try.prog 37 (tt 37) := ⟨Try.underlying37, ⟨Try.t37, by kernel_rfl, by kernel_rfl, by kernel_rfl, .slice none 0 0, by kernel_rfl, zList⟩, fun h => by cases h⟩
theorem tt38 : TIok Try.prog 38 (tt 38) := ⟨⟨_, _, _, Try.underlying38⟩, ⟨Try.t38, by kernel_rfl, by kernel_rfl, by kernel_rfl, .nilFunc, by kernel_rfl, zFunc⟩, fun h => by cases h⟩
theorem tt39 : TIok Try.prog 39 (tt 39) := ⟨⟨_, _, _, Try.underlying39⟩, ⟨Try.t39, by kernel_rfl, by kernel_rfl, by kernel_rfl, .nilFunc, by kernel_rfl, zFunc⟩, fun h => by cases h⟩
theorem tt40 : TIok Try.prog 40 (tt 40) := ⟨⟨_, _, _, Try.underlying40⟩, ⟨Try.t40, by kernel_rfl, by kernel_rfl, by kernel_rfl, .nilFunc, by kernel_rfl, zFunc⟩, fun h => by cases h⟩
theorem tt41 : TIok Try.prog 41 (tt 41) := ⟨Try.underlying41, ⟨Try.t41, by kernel_rfl, by kernel_rfl, by kernel_rfl, .pointer none, by kernel_rfl, zPtr⟩, fun h => by cases h⟩
theorem tt42 : TIok Try.prog 42 (tt 42) := ⟨⟨_, _, _, Try.underlying42⟩, ⟨Try.t42, by kernel_rfl, by kernel_rfl, by kernel_rfl, .nilFunc, by kernel_rfl, zFunc⟩, fun h => by cases h⟩
theorem tt43 : TIok Try.prog 43 (tt 43) := ⟨⟨_, _, _, Try.underlying43⟩, ⟨Try.t43, by kernel_rfl, by kernel_rfl, by kernel_rfl, .nilFunc, by kernel_rfl, zFunc⟩, fun h => by cases h⟩
theorem tt44 : TIok Try.prog 44 (tt 44) := ⟨⟨_, _, _, Try.underlying44⟩, ⟨Try.t44, by kernel_rfl, by kernel_rfl, by kernel_rfl, .nilFunc, by kernel_rfl, zFunc⟩, fun h => by cases h⟩
theorem tt45 : TIok Try.prog 45 (tt 45) := ⟨⟨_, _, _, Try.underlying45⟩, ⟨Try.t45, by kernel_rfl, by kernel_rfl, by kernel_rfl, .nilFunc, by kernel_rfl, zFunc⟩, fun h => by cases h⟩
theorem tt46 : TIok Try.prog 46 (tt 46) := ⟨⟨_, _, _, Try.underlying46⟩, ⟨Try.t46, by kernel_rfl, by kernel_rfl, by kernel_rfl, .nilFunc, by kernel_rfl, zFunc⟩, fun h => by cases h⟩
theorem tt47 : TIok Try.prog 47 (tt 47) := ⟨⟨_, Try.underlying47, by kernel_rfl, by kernel_rfl⟩, ⟨Try.t47, by kernel_rfl, by kernel_rfl, by kernel_rfl, .agg #[.string ⟨#[]⟩, .int .i64 0, .int .i64 0, .int .i64 0], by kernel_rfl, zAgg (zCons zStr (zCons zInt (zCons zInt (zCons zInt zNil))))⟩, fun h => by cases h⟩
theorem tt48 : TIok Try.prog 48 (tt 48) := ⟨⟨_, Try.underlying48, by kernel_rfl, by kernel_rfl⟩, ⟨Try.t48, by kernel_rfl, by kernel_rfl, by kernel_rfl, .agg #[.string ⟨#[]⟩, .int .i64 0, .int .i64 0, .int .i64 0], by kernel_rfl, zAgg (zCons zStr (zCons zInt (zCons zInt (zCons zInt zNil))))⟩, fun h => by cases h⟩
theorem tt49 : TIok Try.prog 49 (tt 49) := ⟨⟨_, _, _, Try.underlying49⟩, ⟨Try.t49, by kernel_rfl, by kernel_rfl, by kernel_rfl, .nilFunc, by kernel_rfl, zFunc⟩, fun h => by cases h⟩
theorem tt51 : TIok Try.prog 51 (tt 51) := ⟨⟨_, _, _, Try.underlying51⟩, ⟨Try.t51, by kernel_rfl, by kernel_rfl, by kernel_rfl, .nilFunc, by kernel_rfl, zFunc⟩, fun h => by cases h⟩
theorem tt52 : TIok Try.prog 52 (tt 52) := ⟨⟨_, _, _, Try.underlying52⟩, ⟨Try.t52, by kernel_rfl, by kernel_rfl, by kernel_rfl, .nilFunc, by kernel_rfl, zFunc⟩, fun h => by cases h⟩
theorem tt53 : TIok Try.prog 53 (tt 53) := ⟨⟨_, _, _, Try.underlying53⟩, ⟨Try.t53, by kernel_rfl, by kernel_rfl, by kernel_rfl, .nilFunc, by kernel_rfl, zFunc⟩, fun h => by cases h⟩
theorem tt54 : TIok Try.prog 54 (tt 54) := ⟨⟨_, _, _, Try.underlying54⟩, ⟨Try.t54, by kernel_rfl, by kernel_rfl, by kernel_rfl, .nilFunc, by kernel_rfl, zFunc⟩, fun h => by cases h⟩
theorem tt55 : TIok Try.prog 55 (tt 55) := ⟨⟨_, _, _, Try.underlying55⟩, ⟨Try.t55, by kernel_rfl, by kernel_rfl, by kernel_rfl, .nilFunc, by kernel_rfl, zFunc⟩, fun h => by cases h⟩
theorem tt56 : TIok Try.prog 56 (tt 56) := ⟨⟨_, _, _, Try.underlying56⟩, ⟨Try.t56, by kernel_rfl, by kernel_rfl, by kernel_rfl, .nilFunc, by kernel_rfl, zFunc⟩, fun h => by cases h⟩
theorem tt57 : TIok Try.prog 57 (tt 57) := ⟨Try.underlying57, ⟨Try.t57, by kernel_rfl, by kernel_rfl, by kernel_rfl, .slice none 0 0, by kernel_rfl, zList⟩, fun h => by cases h⟩
theorem tt58 : TIok Try.prog 58 (tt 58) := ⟨⟨_, Try.underlying58, by kernel_rfl, by kernel_rfl⟩, ⟨Try.t58, by kernel_rfl, by kernel_rfl, by kernel_rfl, .agg #[.slice none 0 0, .slice none 0 0, .bool false, .int .i64 0, .nilFunc], by kernel_rfl, zAgg (zCons zList (zCons zList (zCons zBool (zCons zInt (zCons zFunc zNil)))))⟩, fun h => by cases h⟩
theorem tt59 : TIok Try.prog 59 (tt 59) := ⟨⟨_, Try.underlying59, by kernel_rfl, by kernel_rfl⟩, ⟨Try.t59, by kernel_rfl, by kernel_rfl, by kernel_rfl, .agg #[.slice none 0 0, .slice none 0 0, .bool false, .int .i64 0, .nilFunc], by kernel_rfl, zAgg (zCons zList (zCons zList (zCons zBool (zCons zInt (zCons zFunc zNil)))))⟩, fun h => by cases h⟩
theorem tt60 : TIok Try.prog 60 (tt 60) := ⟨⟨_, _, _, Try.underlying60⟩, ⟨Try.t60, by kernel_rfl, by kernel_rfl, by kernel_rfl, .nilFunc, by kernel_rfl, zFunc⟩, fun h => by cases h⟩
theorem tt61 : TIok Try.prog 61 (tt 61) := ⟨⟨_, _, _, Try.underlying61⟩, ⟨Try.t61, by kernel_rfl, by kernel_rfl, by kernel_rfl, .nilFunc, by kernel_rfl, zFunc⟩, fun h => by cases h⟩
theorem tt62 : TIok Try.prog 62 (tt 62) := ⟨⟨_, _, _, Try.underlying62⟩, ⟨Try.t62, by kernel_rfl, by kernel_rfl, by kernel_rfl, .nilFunc, by kernel_rfl, zFunc⟩, fun h => by cases h⟩
theorem tt63 : TIok Try.prog 63 (tt 63) := ⟨⟨_, _, _, Try.underlying63⟩, ⟨Try.t63, by kernel_rfl, by kernel_rfl, by kernel_rfl, .nilFunc, by kernel_rfl, zFunc⟩, fun h => by cases h⟩
theorem tt64 : TIok Try.prog 64 (tt 64) := ⟨⟨_, _, _, Try.underlying64⟩, ⟨Try.t64, by kernel_rfl, by kernel_rfl, by kernel_rfl, .nilFunc, by kernel_rfl, zFunc⟩, fun h => by cases h⟩
theorem tt66 : TIok Try.prog 66 (tt 66) := ⟨⟨_, _, _, Try.underlying66⟩, ⟨Try.t66, by kernel_rfl, by kernel_rfl, by kernel_rfl, .nilFunc, by kernel_rfl, zFunc⟩, fun h => by cases h⟩
theorem tt67 : TIok Try.prog 67 (tt 67) := ⟨⟨_, Try.underlying67, by kernel_rfl, by kernel_rfl⟩, ⟨Try.t67, by kernel_rfl, by kernel_rfl, by kernel_rfl, .agg #[.string ⟨#[]⟩, .int .i64 0, .int .i64 0, .int .i64 0], by kernel_rfl, zAgg (zCons zStr (zCons zInt (zCons zInt (zCons zInt zNil))))⟩, fun h => by cases h⟩
theorem tt68 : TIok Try.prog 68 (tt 68) := ⟨⟨_, Try.underlying68, by kernel_rfl, by kernel_rfl⟩, ⟨Try.t68, by kernel_rfl, by kernel_rfl, by kernel_rfl, .agg #[.string ⟨#[]⟩, .int .i64 0, .int .i64 0, .int .i64 0], by kernel_rfl, zAgg (zCons zStr (zCons zInt (zCons zInt (zCons zInt zNil))))⟩, fun h => by cases h⟩
theorem tt70 : TIok Try.prog 70 (tt 70) := ⟨⟨_, _, _, Try.underlying70⟩, ⟨Try.t70, by kernel_rfl, by kernel_rfl, by kernel_rfl, .nilFunc, by kernel_rfl, zFunc⟩, fun h => by cases h⟩
theorem tt71 : TIok Try.prog 71 (tt 71) := ⟨⟨_, _, _, Try.underlying71⟩, ⟨Try.t71, by kernel_rfl, by kernel_rfl, by kernel_rfl, .nilFunc, by kernel_rfl, zFunc⟩, fun h => by cases h⟩
theorem tt72 : TIok Try.prog 72 (tt 72) := ⟨⟨_, _, _, Try.underlying72⟩, ⟨Try.t72, by kernel_rfl, by kernel_rfl, by kernel_rfl, .nilFunc, by kernel_rfl, zFunc⟩, fun h => by cases h⟩
theorem tt73 : TIok Try.prog 73 (tt 73) := ⟨Try.underlying73, ⟨Try.t73, by kernel_rfl, by kernel_rfl, by kernel_rfl, .pointer none, by kernel_rfl, zPtr⟩, fun h => by cases h⟩
theorem tt74 : TIok Try.prog 74 (tt 74) := ⟨⟨_, Try.underlying74, by kernel_rfl, by kernel_rfl⟩, ⟨Try.t74, by kernel_rfl, by kernel_rfl, by kernel_rfl, .agg #[.pointer none, .slice none 0 0], by kernel_rfl, zAgg (zCons zPtr (zCons zList zNil))⟩, fun h => by cases h⟩
theorem tt75 : TIok Try.prog 75 (tt 75) := ⟨⟨_, Try.underlying75, by kernel_rfl, by kernel_rfl⟩, ⟨Try.t75, by kernel_rfl, by kernel_rfl, by kernel_rfl, .agg #[.pointer none, .slice none 0 0], by kernel_rfl, zAgg (zCons zPtr (zCons zList zNil))⟩, fun h => by cases h⟩
theorem tt76 : TIok Try.prog 76 (tt 76) := ⟨⟨_, _, _, Try.underlying76⟩, ⟨Try.t76, by kernel_rfl, by kernel_rfl, by kernel_rfl, .nilFunc, by kernel_rfl, zFunc⟩, fun h => by cases h⟩
theorem tt77 : TIok Try.prog 77 (tt 77) := ⟨⟨_, _, _, Try.underlying77⟩, ⟨Try.t77, by kernel_rfl, by kernel_rfl, by kernel_rfl, .nilFunc, by kernel_rfl, zFunc⟩, fun h => by cases h⟩
theorem tt79 : TIok Try.prog 79 (tt 79) := ⟨⟨_, _, _, Try.underlying79⟩, ⟨Try.t79, by kernel_rfl, by kernel_rfl, by kernel_rfl, .nilFunc, by kernel_rfl, zFunc⟩, fun h => by cases h⟩
theorem tt80 : TIok Try.prog 80 (tt 80) := ⟨⟨_, _, _, Try.underlying80⟩, ⟨Try.t80, by kernel_rfl, by kernel_rfl, by kernel_rfl, .nilFunc, by kernel_rfl, zFunc⟩, fun h => by cases h⟩
theorem tt81 : TIok Try.prog 81 (tt 81) := ⟨⟨_, Try.underlying81, by kernel_rfl, by kernel_rfl⟩, ⟨Try.t81, by kernel_rfl, by kernel_rfl, by kernel_rfl, .agg #[.int .u8 0, .bool false, .bool false], by kernel_rfl, zAgg (zCons zInt (zCons zBool (zCons zBool zNil)))⟩, fun h => by cases h⟩
theorem tt82 : TIok Try.prog 82 (tt 82) := ⟨⟨_, Try.underlying82, by kernel_rfl, by kernel_rfl⟩, ⟨Try.t82, by kernel_rfl, by kernel_rfl, by kernel_rfl, .agg #[.int .u8 0, .bool false, .bool false], by kernel_rfl, zAgg (zCons zInt (zCons zBool (zCons zBool zNil)))⟩, fun h => by cases h⟩
theorem tt83 : TIok Try.prog 83 (tt 83) := ⟨Try.underlying83, ⟨Try.t83, by kernel_rfl, by kernel_rfl, by kernel_rfl, .pointer none, by kernel_rfl, zPtr⟩, fun h => by cases h⟩
theorem tt84 : TIok Try.prog 84 (tt 84) := ⟨⟨_, _, _, Try.underlying84⟩, ⟨Try.t84, by kernel_rfl, by kernel_rfl, by kernel_rfl, .nilFunc, by kernel_rfl, zFunc⟩, fun h => by cases h⟩
theorem tt85 : TIok Try.prog 85 (tt 85) := ⟨⟨_, _, _, Try.underlying85⟩, ⟨Try.t85, by kernel_rfl, by kernel_rfl, by kernel_rfl, .nilFunc, by kernel_rfl, zFunc⟩, fun h => by cases h⟩
theorem tt87 : TIok Try.prog 87 (tt 87) := ⟨⟨_, _, _, Try.underlying87⟩, ⟨Try.t87, by kernel_rfl, by kernel_rfl, by kernel_rfl, .nilFunc, by kernel_rfl, zFunc⟩, fun h => by cases h⟩
theorem tt88 : TIok Try.prog 88 (tt 88) := ⟨⟨_, _, _, Try.underlying88⟩, ⟨Try.t88, by kernel_rfl, by kernel_rfl, by kernel_rfl, .nilFunc, by kernel_rfl, zFunc⟩, fun h => by cases h⟩
theorem tt89 : TIok Try.prog 89 (tt 89) := ⟨⟨_, _, _, Try.underlying89⟩, ⟨Try.t89, by kernel_rfl, by kernel_rfl, by kernel_rfl, .nilFunc, by kernel_rfl, zFunc⟩, fun h => by cases h⟩
theorem tt90 : TIok Try.prog 90 (tt 90) := ⟨⟨_, _, _, Try.underlying90⟩, ⟨Try.t90, by kernel_rfl, by kernel_rfl, by kernel_rfl, .nilFunc, by kernel_rfl, zFunc⟩, fun h => by cases h⟩
theorem tt91 : TIok Try.prog 91 (tt 91) := ⟨⟨_, _, _, Try.underlying91⟩, ⟨Try.t91, by kernel_rfl, by kernel_rfl, by kernel_rfl, .nilFunc, by kernel_rfl, zFunc⟩, fun h => by cases h⟩
theorem tt93 : TIok Try.prog 93 (tt 93) := ⟨⟨_, _, _, Try.underlying93⟩, ⟨Try.t93, by kernel_rfl, by kernel_rfl, by kernel_rfl, .nilFunc, by kernel_rfl, zFunc⟩, fun h => by cases h⟩
theorem tt94 : TIok Try.prog 94 (tt 94) := ⟨⟨_, _, _, Try.underlying94⟩, ⟨Try.t94, by kernel_rfl, by kernel_rfl, by kernel_rfl, .nilFunc, by kernel_rfl, zFunc⟩, fun h => by cases h⟩
theorem tt95 : TIok Try.prog 95 (tt 95) := ⟨⟨_, _, _, Try.underlying95⟩, ⟨Try.t95, by kernel_rfl, by kernel_rfl, by kernel_rfl, .nilFunc, by kernel_rfl, zFunc⟩, fun h => by cases h⟩
theorem tt96 : TIok Try.prog 96 (tt 96) := ⟨⟨_, _, _, Try.underlying96⟩, ⟨Try.t96, by kernel_rfl, by kernel_rfl, by kernel_rfl, .nilFunc, by kernel_rfl, zFunc⟩, fun h => by cases h⟩
theorem tt97 : TIok Try.prog 97 (tt 97) := ⟨Try.underlying97, ⟨Try.t97, by kernel_rfl, by kernel_rfl, by kernel_rfl, .int .u64 0, by kernel_rfl, zInt⟩, fun h => by cases h⟩
theorem tt98 : TIok Try.prog 98 (tt 98) := ⟨⟨_, _, _, Try.underlying98⟩, ⟨Try.t98, by kernel_rfl, by kernel_rfl, by kernel_rfl, .nilFunc, by kernel_rfl, zFunc⟩, fun h => by cases h⟩
theorem tt99 : TIok Try.prog 99 (tt 99) := ⟨⟨_, _, _, Try.underlying99⟩, ⟨Try.t99, by kernel_rfl, by kernel_rfl, by kernel_rfl, .nilFunc, by kernel_rfl, zFunc⟩, fun h => by cases h⟩
theorem tt100 : TIok Try.prog 100 (tt 100) := ⟨⟨_, _, _, Try.underlying100⟩, ⟨Try.t100, by kernel_rfl, by kernel_rfl, by kernel_rfl, .nilFunc, by kernel_rfl, zFunc⟩, fun h => by cases h⟩
theorem tt102 : TIok Try.prog 102 (tt 102) := ⟨Try.underlying102, ⟨Try.t102, by kernel_rfl, by kernel_rfl, by kernel_rfl, .int .u64 0, by kernel_rfl, zInt⟩, fun h => by cases h⟩
theorem tt103 : TIok Try.prog 103 (tt 103) := ⟨⟨_, _, _, Try.underlying103⟩, ⟨Try.t103, by kernel_rfl, by kernel_rfl, by kernel_rfl, .nilFunc, by kernel_rfl, zFunc⟩, fun h => by cases h⟩
theorem tt104 : TIok Try.prog 104 (tt 104) := ⟨⟨_, _, _, Try.underlying104⟩, ⟨Try.t104, by kernel_rfl, by kernel_rfl, by kernel_rfl, .nilFunc, by kernel_rfl, zFunc⟩, fun h => by cases h⟩
theorem tt106 : TIok Try.prog 106 (tt 106) := ⟨⟨_, _, _, Try.underlying106⟩, ⟨Try.t106, by kernel_rfl, by kernel_rfl, by kernel_rfl, .nilFunc, by kernel_rfl, zFunc⟩, fun h => by cases h⟩
theorem tt107 : TIok Try.prog 107 (tt 107) := ⟨⟨_, _, _, Try.underlying107⟩, ⟨Try.t107, by kernel_rfl, by kernel_rfl, by kernel_rfl, .nilFunc, by kernel_rfl, zFunc⟩, fun h => by cases h⟩
theorem tt108 : TIok Try.prog 108 (tt 108) := ⟨Try.underlying108, ⟨Try.t108, by kernel_rfl, by kernel_rfl, by kernel_rfl, .agg #[.int .u8 0, .int .u8 0, .int .u8 0, .int .u8 0, .int .u8 0, .int .u8 0, .int .u8 0, .int .u8 0, .int .u8 0, .int .u8 0, .int .u8 0, .int .u8 0, .int .u8 0, .int .u8 0, .int .u8 0, .int .u8 0, .int .u8 0, .int .u8 0, .int .u8 0, .int .u8 0], by kernel_rfl, zAgg (zCons zInt (zCons zInt (zCons zInt (zCons zInt (zCons zInt (zCons zInt (zCons zInt (zCons zInt (zCons zInt (zCons zInt (zCons zInt (zCons zInt (zCons zInt (zCons zInt (zCons zInt (zCons zInt (zCons zInt (zCons zInt (zCons zInt (zCons zInt zNil))))))))))))))))))))⟩, fun h => by cases h⟩
theorem tt109 : TIok Try.prog 109 (tt 109) := ⟨⟨_, _, _, Try.underlying109⟩, ⟨Try.t109, by kernel_rfl, by kernel_rfl, by kernel_rfl, .nilFunc, by kernel_rfl, zFunc⟩, fun h => by cases h⟩
theorem tt110 : TIok Try.prog 110 (tt 110) := ⟨⟨_, _, _, Try.underlying110⟩, ⟨Try.t110, by kernel_rfl, by kernel_rfl, by kernel_rfl, .nilFunc, by kernel_rfl, zFunc⟩, fun h => by cases h⟩
theorem tt111 : TIok Try.prog 111 (tt 111) := ⟨⟨_, _, _, Try.underlying111⟩, ⟨Try.t111, by kernel_rfl, by kernel_rfl, by kernel_rfl, .nilFunc, by kernel_rfl, zFunc⟩, fun h => by cases h⟩
theorem tt112 : TIok Try.prog 112 (tt 112) := ⟨⟨_, Try.underlying112, by kernel_rfl, by kernel_rfl⟩, ⟨Try.t112, by kernel_rfl, by kernel_rfl, by kernel_rfl, .agg #[.pointer none, .pointer none, .pointer none, .string ⟨#[]⟩], by kernel_rfl, zAgg (zCons zPtr (zCons zPtr (zCons zPtr (zCons zStr zNil))))⟩, fun h => by cases h⟩
theorem tt113 : TIok Try.prog 113 (tt 113) := ⟨⟨_, Try.underlying113, by kernel_rfl, by kernel_rfl⟩, ⟨Try.t113, by kernel_rfl, by kernel_rfl, by kernel_rfl, .agg #[.pointer none, .pointer none, .pointer none, .string ⟨#[]⟩], by kernel_rfl, zAgg (zCons zPtr (zCons zPtr (zCons zPtr (zCons zStr zNil))))⟩, fun h => by cases h⟩
theorem tt117 : TIok Try.prog 117 (tt 117) := ⟨Try.underlying117, ⟨Try.t117, by kernel_rfl, by kernel_rfl, by kernel_rfl, .int .u32 0, by kernel_rfl, zInt⟩, fun h => by cases h⟩
theorem tt118 : TIok Try.prog 118 (tt 118) := ⟨Try.underlying118, ⟨Try.t118, by kernel_rfl, by kernel_rfl, by kernel_rfl, .int .u8 0, by kernel_rfl, zInt⟩, fun h => by cases h⟩
theorem tt119 : TIok Try.prog 119 (tt 119) := ⟨Try.underlying119, ⟨Try.t119, by kernel_rfl, by kernel_rfl, by kernel_rfl, .int .u8 0, by kernel_rfl, zInt⟩, fun h => by cases h⟩
theorem tt120 : TIok Try.prog 120 (tt 120) := ⟨⟨_, _, _, Try.underlying120⟩, ⟨Try.t120, by kernel_rfl, by kernel_rfl, by kernel_rfl, .nilFunc, by kernel_rfl, zFunc⟩, fun h => by cases h⟩
theorem tt121 : TIok Try.prog 121 (tt 121) := ⟨Try.underlying121, ⟨Try.t121, by kernel_rfl, by kernel_rfl, by kernel_rfl, .pointer none, by kernel_rfl, zPtr⟩, fun h => by cases h⟩
theorem tt122 : TIok Try.prog 122 (tt 122) := ⟨Try.underlying122, ⟨Try.t122, by kernel_rfl, by kernel_rfl, by kernel_rfl, .int .i32 0, by kernel_rfl, zInt⟩, fun h => by cases h⟩
theorem tt123 : TIok Try.prog 123 (tt 123) := ⟨Try.underlying123, ⟨Try.t123, by kernel_rfl, by kernel_rfl, by kernel_rfl, .int .i32 0, by kernel_rfl, zInt⟩, fun h => by cases h⟩
theorem tt124 : TIok Try.prog 124 (tt 124) := ⟨⟨_, Try.underlying124, by kernel_rfl, by kernel_rfl⟩, ⟨Try.t124, by kernel_rfl, by kernel_rfl, by kernel_rfl, .agg #[.int .u64 0, .int .u64 0, .int .u32 0, .int .u8 0, .int .u8 0, .int .u8 0, .int .u8 0, .nilFunc, .pointer none, .int .i32 0, .int .i32 0], by kernel_rfl, zAgg (zCons zInt (zCons zInt (zCons zInt (zCons zInt (zCons zInt (zCons zInt (zCons zInt (zCons zFunc (zCons zPtr (zCons zInt (zCons zInt zNil)))))))))))⟩, fun h => by cases h⟩
theorem tt125 : TIok Try.prog 125 (tt 125) := ⟨⟨_, Try.underlying125, by kernel_rfl, by kernel_rfl⟩, ⟨Try.t125, by kernel_rfl, by kernel_rfl, by kernel_rfl, .agg #[.int .u64 0, .int .u64 0, .int .u32 0, .int .u8 0, .int .u8 0, .int .u8 0, .int .u8 0, .nilFunc, .pointer none, .int .i32 0, .int .i32 0], by kernel_rfl, zAgg (zCons zInt (zCons zInt (zCons zInt (zCons zInt (zCons zInt (zCons zInt (zCons zInt (zCons zFunc (zCons zPtr (zCons zInt (zCons zInt zNil)))))))))))⟩, fun h => by cases h⟩
theorem tt_ok : ∀ t, TIok Try.prog t (tt t) := fun t => by
  unfold tt
  split
  · exact tt1
  · exact tt2
  · exact tt3
  · exact tt4
  · exact tt5
  · exact tt6
  · exact tt7
  · exact tt8
  · exact tt9
  · exact tt10
  · exact tt11
  · exact tt12
  · exact tt13
  · exact tt14
  · exact tt15
  · exact tt16
  · exact tt17
  · exact tt18
  · exact tt19
  · exact tt20
  · exact tt21
  · exact tt22
  · exact tt23
  · exact tt24
  · exact tt25
  · exact tt26
  · exact tt27
  · exact tt28
  · exact tt29
  · exact tt30
  · exact tt31
  · exact tt32
  · exact tt34
  · exact tt35
  · exact tt36
  · exact tt37
  · exact tt38
  · exact tt39
  · exact tt40
  · exact tt41
  · exact tt42
  · exact tt43
  · exact tt44
  · exact tt45
  · exact tt46
  · exact tt47
  · exact tt48
  · exact tt49
  · exact tt51
  · exact tt52
  · exact tt53
  · exact tt54
  · exact tt55
  · exact tt56
  · exact tt57
  · exact tt58
  · exact tt59
  · exact tt60
  · exact tt61
  · exact tt62
  · exact tt63
  · exact tt64
  · exact tt66
  · exact tt67
  · exact tt68
  · exact tt70
  · exact tt71
  · exact tt72
  · exact tt73
  · exact tt74
  · exact tt75
  · exact tt76
  · exact tt77
  · exact tt79
  · exact tt80
  · exact tt81
  · exact tt82
  · exact tt83
  · exact tt84
  · exact tt85
  · exact tt87
  · exact tt88
  · exact tt89
  · exact tt90
  · exact tt91
  · exact tt93
  · exact tt94
  · exact tt95
  · exact tt96
  · exact tt97
  · exact tt98
  · exact tt99
  · exact tt100
  · exact tt102
  · exact tt103
  · exact tt104
  · exact tt106
  · exact tt107
  · exact tt108
  · exact tt109
  · exact tt110
  · exact tt111
  · exact tt112
  · exact tt113
  · exact tt117
  · exact tt118
  · exact tt119
  · exact tt120
  · exact tt121
  · exact tt122
  · exact tt123
  · exact tt124
  · exact tt125
  · trivial
def dataTy : TypeId → Bool := fun t => match t with
  | 2 => true
  | 3 => true
  | 4 => true
  | 5 => true
  | 6 => true
  | 7 => true
  | 8 => true
  | 9 => true
  | 10 => true
  | 11 => true
  | 12 => true
  | 13 => true
  | 14 => true
  | 21 => true
  | 22 => true
  | 26 => true
  | 27 => true
  | 28 => true
  | 30 => true
  | 31 => true
  | 37 => true
  | 47 => true
  | 48 => true
  | 57 => true
  | 67 => true
  | 68 => true
  | 81 => true
  | 82 => true
  | 97 => true
  | 102 => true
  | 108 => true
  | 117 => true
  | 118 => true
  | 119 => true
  | 122 => true
  | 123 => true
  | _ => false
theorem dataOK : DataOK Try.prog tt dataTy where
  tys := tt_ok
  kids := fun t h => by
    unfold dataTy at h; split at h <;> first | (cases h; done) | rfl
  pos := fun t h => by
    unfold dataTy at h; split at h <;> first
      | (cases h; done)
      | exact .inl ⟨_, rfl, by decide⟩
      | (refine .inr (.inr (And.intro ?_ ?_)) <;> (intro e hh; cases hh))
  fields := fun t fs h k => by
    unfold dataTy at h; split at h <;> first
      | (cases h; done)
      | (cases k; rfl)
      | (cases k; done)
  array := fun t m e h k => by
    unfold dataTy at h; split at h <;> first
      | (cases h; done)
      | (cases k; rfl)
      | (cases k; done)
end Go.Proofs.Ytgbkjecepncjoaa
