/-
  The table of the seat's types, and that it is the program's. Printed by a program of mine (tygen.py).
-/
import Derived.Test.YtgbkjecepncjoaaDoorVgY
import Derived.Test.YtgbkjecepncjoaaDoorProg
import Derived.KernelRfl
namespace Go.Proofs.YtgbkjecepncjoaaDoor
open Go Go.VG
set_option maxRecDepth 100000
def tt : TypeId → TI := fun t => match t with
  | 1 => ⟨.func, 1, 8, .nilFunc, false⟩
  | 2 => ⟨.int .i64, 1, 8, .int .i64 0, false⟩
  | 3 => ⟨.int .i64, 1, 8, .int .i64 0, false⟩
  | 4 => ⟨.bool, 1, 1, .bool false, false⟩
  | 5 => ⟨.int .u8, 1, 1, .int .u8 0, false⟩
  | 6 => ⟨.int .u8, 1, 1, .int .u8 0, false⟩
  | 7 => ⟨.struct [(0, 2), (1, 3), (2, 4), (3, 6)], 4, 24, .agg [.int .i64 0, .int .i64 0, .bool false, .int .u8 0], false⟩
  | 8 => ⟨.struct [(0, 2), (1, 3), (2, 4), (3, 6)], 4, 24, .agg [.int .i64 0, .int .i64 0, .bool false, .int .u8 0], false⟩
  | 9 => ⟨.string, 1, 16, .str [], false⟩
  | 10 => ⟨.string, 1, 16, .str [], false⟩
  | 11 => ⟨.string, 1, 16, .str [], false⟩
  | 12 => ⟨.int .u64, 1, 8, .int .u64 0, false⟩
  | 13 => ⟨.struct [(0, 9), (1, 12)], 2, 24, .agg [.str [], .int .u64 0], false⟩
  | 14 => ⟨.struct [(0, 9), (1, 12)], 2, 24, .agg [.str [], .int .u64 0], false⟩
  | 15 => ⟨.ptr 70, 1, 8, .nilptr, false⟩
  | 16 => ⟨.ptr 73, 1, 8, .nilptr, false⟩
  | 17 => ⟨.ptr 83, 1, 8, .nilptr, false⟩
  | 18 => ⟨.struct [(0, 17)], 1, 8, .agg [.nilptr], false⟩
  | 19 => ⟨.struct [(0, 17)], 1, 8, .agg [.nilptr], false⟩
  | 20 => ⟨.iface, 1, 16, .nilIface, false⟩
  | 21 => ⟨.int .i32, 1, 4, .int .i32 0, false⟩
  | 22 => ⟨.int .u64, 1, 8, .int .u64 0, false⟩
  | 23 => ⟨.slice 26, 1, 24, .list true 0 [], false⟩
  | 24 => ⟨.slice 41, 1, 24, .list true 0 [], false⟩
  | 25 => ⟨.struct [(0, 5), (1, 9), (2, 3), (3, 22), (4, 23), (5, 24)], 6, 88, .agg [.int .u8 0, .str [], .int .i64 0, .int .u64 0, .list true 0 [], .list true 0 []], false⟩
  | 26 => ⟨.struct [(0, 5), (1, 9), (2, 3), (3, 22), (4, 23), (5, 24)], 6, 88, .agg [.int .u8 0, .str [], .int .i64 0, .int .u64 0, .list true 0 [], .list true 0 []], false⟩
  | 27 => ⟨.func, 1, 8, .nilFunc, false⟩
  | 28 => ⟨.func, 1, 8, .nilFunc, false⟩
  | 29 => ⟨.func, 1, 8, .nilFunc, false⟩
  | 30 => ⟨.func, 1, 8, .nilFunc, false⟩
  | 31 => ⟨.func, 1, 8, .nilFunc, false⟩
  | 32 => ⟨.func, 1, 8, .nilFunc, false⟩
  | 33 => ⟨.int .i64, 1, 8, .int .i64 0, false⟩
  | 34 => ⟨.func, 1, 8, .nilFunc, false⟩
  | 35 => ⟨.func, 1, 8, .nilFunc, false⟩
  | 36 => ⟨.slice 5, 1, 24, .list true 0 [], false⟩
  | 37 => ⟨.func, 1, 8, .nilFunc, false⟩
  | 38 => ⟨.func, 1, 8, .nilFunc, false⟩
  | 39 => ⟨.func, 1, 8, .nilFunc, false⟩
  | 40 => ⟨.struct [(0, 9), (1, 26)], 7, 104, .agg [.str [], .int .u8 0, .str [], .int .i64 0, .int .u64 0, .list true 0 [], .list true 0 []], false⟩
  | 41 => ⟨.struct [(0, 9), (1, 26)], 7, 104, .agg [.str [], .int .u8 0, .str [], .int .i64 0, .int .u64 0, .list true 0 [], .list true 0 []], false⟩
  | 42 => ⟨.func, 1, 8, .nilFunc, false⟩
  | 43 => ⟨.string, 1, 16, .str [], false⟩
  | 44 => ⟨.string, 1, 16, .str [], false⟩
  | 45 => ⟨.func, 1, 8, .nilFunc, false⟩
  | 46 => ⟨.func, 1, 8, .nilFunc, false⟩
  | 47 => ⟨.func, 1, 8, .nilFunc, false⟩
  | 48 => ⟨.func, 1, 8, .nilFunc, false⟩
  | 49 => ⟨.slice 26, 1, 24, .list true 0 [], false⟩
  | 50 => ⟨.slice 41, 1, 24, .list true 0 [], false⟩
  | 51 => ⟨.func, 1, 8, .nilFunc, false⟩
  | 52 => ⟨.func, 1, 8, .nilFunc, false⟩
  | 53 => ⟨.func, 1, 8, .nilFunc, false⟩
  | 55 => ⟨.func, 1, 8, .nilFunc, false⟩
  | 56 => ⟨.func, 1, 8, .nilFunc, false⟩
  | 57 => ⟨.func, 1, 8, .nilFunc, false⟩
  | 58 => ⟨.func, 1, 8, .nilFunc, false⟩
  | 59 => ⟨.func, 1, 8, .nilFunc, false⟩
  | 60 => ⟨.func, 1, 8, .nilFunc, false⟩
  | 62 => ⟨.func, 1, 8, .nilFunc, false⟩
  | 63 => ⟨.array 20 5, 20, 20, .agg [.int .u8 0, .int .u8 0, .int .u8 0, .int .u8 0, .int .u8 0, .int .u8 0, .int .u8 0, .int .u8 0, .int .u8 0, .int .u8 0, .int .u8 0, .int .u8 0, .int .u8 0, .int .u8 0, .int .u8 0, .int .u8 0, .int .u8 0, .int .u8 0, .int .u8 0, .int .u8 0], false⟩
  | 64 => ⟨.array 8 5, 8, 8, .agg [.int .u8 0, .int .u8 0, .int .u8 0, .int .u8 0, .int .u8 0, .int .u8 0, .int .u8 0, .int .u8 0], false⟩
  | 65 => ⟨.int .u64, 1, 8, .int .u64 0, false⟩
  | 66 => ⟨.func, 1, 8, .nilFunc, false⟩
  | 67 => ⟨.func, 1, 8, .nilFunc, false⟩
  | 68 => ⟨.func, 1, 8, .nilFunc, false⟩
  | 69 => ⟨.struct [(0, 17), (1, 17), (2, 17), (3, 9)], 4, 40, .agg [.nilptr, .nilptr, .nilptr, .str []], false⟩
  | 70 => ⟨.struct [(0, 17), (1, 17), (2, 17), (3, 9)], 4, 40, .agg [.nilptr, .nilptr, .nilptr, .str []], false⟩
  | 74 => ⟨.func, 1, 8, .nilFunc, false⟩
  | 75 => ⟨.int .u32, 1, 4, .int .u32 0, false⟩
  | 76 => ⟨.int .u8, 1, 1, .int .u8 0, false⟩
  | 77 => ⟨.int .u8, 1, 1, .int .u8 0, false⟩
  | 78 => ⟨.func, 1, 8, .nilFunc, false⟩
  | 79 => ⟨.ptr 5, 1, 8, .nilptr, false⟩
  | 80 => ⟨.int .i32, 1, 4, .int .i32 0, false⟩
  | 81 => ⟨.int .i32, 1, 4, .int .i32 0, false⟩
  | 82 => ⟨.struct [(0, 12), (1, 12), (2, 75), (3, 76), (4, 5), (5, 5), (6, 77), (7, 78), (8, 79), (9, 80), (10, 81)], 11, 48, .agg [.int .u64 0, .int .u64 0, .int .u32 0, .int .u8 0, .int .u8 0, .int .u8 0, .int .u8 0, .nilFunc, .nilptr, .int .i32 0, .int .i32 0], false⟩
  | 83 => ⟨.struct [(0, 12), (1, 12), (2, 75), (3, 76), (4, 5), (5, 5), (6, 77), (7, 78), (8, 79), (9, 80), (10, 81)], 11, 48, .agg [.int .u64 0, .int .u64 0, .int .u32 0, .int .u8 0, .int .u8 0, .int .u8 0, .int .u8 0, .nilFunc, .nilptr, .int .i32 0, .int .i32 0], false⟩
  | _ => ⟨.other, 0, 0, .undef, false⟩
theorem tt1 : TIok Tryd.prog 1 (tt 1) := ⟨⟨_, _, _, Tryd.underlying1⟩, ⟨Tryd.t1, by kernel_rfl, by kernel_rfl, by kernel_rfl, .nilFunc, by kernel_rfl, zFunc⟩, fun h => by cases h⟩
theorem tt2 : TIok Tryd.prog 2 (tt 2) := ⟨Tryd.underlying2, ⟨Tryd.t2, by kernel_rfl, by kernel_rfl, by kernel_rfl, .int .i64 0, by kernel_rfl, zInt⟩, fun h => by cases h⟩
theorem tt3 : TIok Tryd.prog 3 (tt 3) := ⟨Tryd.underlying3, ⟨Tryd.t3, by kernel_rfl, by kernel_rfl, by kernel_rfl, .int .i64 0, by kernel_rfl, zInt⟩, fun h => by cases h⟩
theorem tt4 : TIok Tryd.prog 4 (tt 4) := ⟨Tryd.underlying4, ⟨Tryd.t4, by kernel_rfl, by kernel_rfl, by kernel_rfl, .bool false, by kernel_rfl, zBool⟩, fun h => by cases h⟩
theorem tt5 : TIok Tryd.prog 5 (tt 5) := ⟨Tryd.underlying5, ⟨Tryd.t5, by kernel_rfl, by kernel_rfl, by kernel_rfl, .int .u8 0, by kernel_rfl, zInt⟩, fun h => by cases h⟩
theorem tt6 : TIok Tryd.prog 6 (tt 6) := ⟨Tryd.underlying6, ⟨Tryd.t6, by kernel_rfl, by kernel_rfl, by kernel_rfl, .int .u8 0, by kernel_rfl, zInt⟩, fun h => by cases h⟩
theorem tt7 : TIok Tryd.prog 7 (tt 7) := ⟨⟨_, Tryd.underlying7, by kernel_rfl, by kernel_rfl⟩, ⟨Tryd.t7, by kernel_rfl, by kernel_rfl, by kernel_rfl, .agg #[.int .i64 0, .int .i64 0, .bool false, .int .u8 0], by kernel_rfl, zAgg (zCons zInt (zCons zInt (zCons zBool (zCons zInt zNil))))⟩, fun h => by cases h⟩
theorem tt8 : TIok Tryd.prog 8 (tt 8) := ⟨⟨_, Tryd.underlying8, by kernel_rfl, by kernel_rfl⟩, ⟨Tryd.t8, by kernel_rfl, by kernel_rfl, by kernel_rfl, .agg #[.int .i64 0, .int .i64 0, .bool false, .int .u8 0], by kernel_rfl, zAgg (zCons zInt (zCons zInt (zCons zBool (zCons zInt zNil))))⟩, fun h => by cases h⟩
theorem tt9 : TIok Tryd.prog 9 (tt 9) := ⟨Tryd.underlying9, ⟨Tryd.t9, by kernel_rfl, by kernel_rfl, by kernel_rfl, .string ⟨#[]⟩, by kernel_rfl, zStr⟩, fun h => by cases h⟩
theorem tt10 : TIok Tryd.prog 10 (tt 10) := ⟨Tryd.underlying10, ⟨Tryd.t10, by kernel_rfl, by kernel_rfl, by kernel_rfl, .string ⟨#[]⟩, by kernel_rfl, zStr⟩, fun h => by cases h⟩
theorem tt11 : TIok Tryd.prog 11 (tt 11) := ⟨Tryd.underlying11, ⟨Tryd.t11, by kernel_rfl, by kernel_rfl, by kernel_rfl, .string ⟨#[]⟩, by kernel_rfl, zStr⟩, fun h => by cases h⟩
theorem tt12 : TIok Tryd.prog 12 (tt 12) := ⟨Tryd.underlying12, ⟨Tryd.t12, by kernel_rfl, by kernel_rfl, by kernel_rfl, .int .u64 0, by kernel_rfl, zInt⟩, fun h => by cases h⟩
theorem tt13 : TIok Tryd.prog 13 (tt 13) := ⟨⟨_, Tryd.underlying13, by kernel_rfl, by kernel_rfl⟩, ⟨Tryd.t13, by kernel_rfl, by kernel_rfl, by kernel_rfl, .agg #[.string ⟨#[]⟩, .int .u64 0], by kernel_rfl, zAgg (zCons zStr (zCons zInt zNil))⟩, fun h => by cases h⟩
theorem tt14 : TIok Tryd.prog 14 (tt 14) := ⟨⟨_, Tryd.underlying14, by kernel_rfl, by kernel_rfl⟩, ⟨Tryd.t14, by kernel_rfl, by kernel_rfl, by kernel_rfl, .agg #[.string ⟨#[]⟩, .int .u64 0], by kernel_rfl, zAgg (zCons zStr (zCons zInt zNil))⟩, fun h => by cases h⟩
theorem tt15 : TIok Tryd.prog 15 (tt 15) := ⟨Tryd.underlying15, ⟨Tryd.t15, by kernel_rfl, by kernel_rfl, by kernel_rfl, .pointer none, by kernel_rfl, zPtr⟩, fun h => by cases h⟩
theorem tt16 : TIok Tryd.prog 16 (tt 16) := ⟨Tryd.underlying16, ⟨Tryd.t16, by kernel_rfl, by kernel_rfl, by kernel_rfl, .pointer none, by kernel_rfl, zPtr⟩, fun h => by cases h⟩
theorem tt17 : TIok Tryd.prog 17 (tt 17) := ⟨Tryd.underlying17, ⟨Tryd.t17, by kernel_rfl, by kernel_rfl, by kernel_rfl, .pointer none, by kernel_rfl, zPtr⟩, fun h => by cases h⟩
theorem tt18 : TIok Tryd.prog 18 (tt 18) := ⟨⟨_, Tryd.underlying18, by kernel_rfl, by kernel_rfl⟩, ⟨Tryd.t18, by kernel_rfl, by kernel_rfl, by kernel_rfl, .agg #[.pointer none], by kernel_rfl, zAgg (zCons zPtr zNil)⟩, fun h => by cases h⟩
theorem tt19 : TIok Tryd.prog 19 (tt 19) := ⟨⟨_, Tryd.underlying19, by kernel_rfl, by kernel_rfl⟩, ⟨Tryd.t19, by kernel_rfl, by kernel_rfl, by kernel_rfl, .agg #[.pointer none], by kernel_rfl, zAgg (zCons zPtr zNil)⟩, fun h => by cases h⟩
theorem tt20 : TIok Tryd.prog 20 (tt 20) := ⟨⟨_, Tryd.underlying20⟩, ⟨Tryd.t20, by kernel_rfl, by kernel_rfl, by kernel_rfl, .nilIface, by kernel_rfl, zIface⟩, fun h => by cases h⟩
theorem tt21 : TIok Tryd.prog 21 (tt 21) := ⟨Tryd.underlying21, ⟨Tryd.t21, by kernel_rfl, by kernel_rfl, by kernel_rfl, .int .i32 0, by kernel_rfl, zInt⟩, fun h => by cases h⟩
theorem tt22 : TIok Tryd.prog 22 (tt 22) := ⟨Tryd.underlying22, ⟨Tryd.t22, by kernel_rfl, by kernel_rfl, by kernel_rfl, .int .u64 0, by kernel_rfl, zInt⟩, fun h => by cases h⟩
theorem tt23 : TIok Tryd.prog 23 (tt 23) := ⟨Tryd.underlying23, ⟨Tryd.t23, by kernel_rfl, by kernel_rfl, by kernel_rfl, .slice none 0 0, by kernel_rfl, zList⟩, fun h => by cases h⟩
theorem tt24 : TIok Tryd.prog 24 (tt 24) := ⟨Tryd.underlying24, ⟨Tryd.t24, by kernel_rfl, by kernel_rfl, by kernel_rfl, .slice none 0 0, by kernel_rfl, zList⟩, fun h => by cases h⟩
theorem tt25 : TIok Tryd.prog 25 (tt 25) := ⟨⟨_, Tryd.underlying25, by kernel_rfl, by kernel_rfl⟩, ⟨Tryd.t25, by kernel_rfl, by kernel_rfl, by kernel_rfl, .agg #[.int .u8 0, .string ⟨#[]⟩, .int .i64 0, .int .u64 0, .slice none 0 0, .slice none 0 0], by kernel_rfl, zAgg (zCons zInt (zCons zStr (zCons zInt (zCons zInt (zCons zList (zCons zList zNil))))))⟩, fun h => by cases h⟩
theorem tt26 : TIok Tryd.prog 26 (tt 26) := ⟨⟨_, Tryd.underlying26, by kernel_rfl, by kernel_rfl⟩, ⟨Tryd.t26, by kernel_rfl, by kernel_rfl, by kernel_rfl, .agg #[.int .u8 0, .string ⟨#[]⟩, .int .i64 0, .int .u64 0, .slice none 0 0, .slice none 0 0], by kernel_rfl, zAgg (zCons zInt (zCons zStr (zCons zInt (zCons zInt (zCons zList (zCons zList zNil))))))⟩, fun h => by cases h⟩
theorem tt27 : TIok Tryd.prog 27 (tt 27) := ⟨⟨_, _, _, Tryd.underlying27⟩, ⟨Tryd.t27, by kernel_rfl, by kernel_rfl, by kernel_rfl, .nilFunc, by kernel_rfl, zFunc⟩, fun h => by cases h⟩
theorem tt28 : TIok Tryd.prog 28 (tt 28) := ⟨⟨_, _, _, Tryd.underlying28⟩, ⟨Tryd.t28, by kernel_rfl, by kernel_rfl, by kernel_rfl, .nilFunc, by kernel_rfl, zFunc⟩, fun h => by cases h⟩
theorem tt29 : TIok Tryd.prog 29 (tt 29) := ⟨⟨_, _, _, Tryd.underlying29⟩, ⟨Tryd.t29, by kernel_rfl, by kernel_rfl, by kernel_rfl, .nilFunc, by kernel_rfl, zFunc⟩, fun h => by cases h⟩
theorem tt30 : TIok Tryd.prog 30 (tt 30) := ⟨⟨_, _, _, Tryd.underlying30⟩, ⟨Tryd.t30, by kernel_rfl, by kernel_rfl, by kernel_rfl, .nilFunc, by kernel_rfl, zFunc⟩, fun h => by cases h⟩
theorem tt31 : TIok Tryd.prog 31 (tt 31) := ⟨⟨_, _, _, Tryd.underlying31⟩, ⟨Tryd.t31, by kernel_rfl, by kernel_rfl, by kernel_rfl, .nilFunc, by kernel_rfl, zFunc⟩, fun h => by cases h⟩
theorem tt32 : TIok Tryd.prog 32 (tt 32) := ⟨⟨_, _, _, Tryd.underlying32⟩, ⟨Tryd.t32, by kernel_rfl, by kernel_rfl, by kernel_rfl, .nilFunc, by kernel_rfl, zFunc⟩, fun h => by cases h⟩
theorem tt33 : TIok Tryd.prog 33 (tt 33) := ⟨Tryd.underlying33, ⟨Tryd.t33, by kernel_rfl, by kernel_rfl, by kernel_rfl, .int .i64 0, by kernel_rfl, zInt⟩, fun h => by cases h⟩
theorem tt34 : TIok Tryd.prog 34 (tt 34) := ⟨⟨_, _, _, Tryd.underlying34⟩, ⟨Tryd.t34, by kernel_rfl, by kernel_rfl, by kernel_rfl, .nilFunc, by kernel_rfl, zFunc⟩, fun h => by cases h⟩
theorem tt35 : TIok Tryd.prog 35 (tt 35) := ⟨⟨_, _, _, Tryd.underlying35⟩, ⟨Tryd.t35, by kernel_rfl, by kernel_rfl, by kernel_rfl, .nilFunc, by kernel_rfl, zFunc⟩, fun h => by cases h⟩
theorem tt36 : TIok Tryd.prog 36 (tt 36) := ⟨Tryd.underlying36, ⟨Tryd.t36, by kernel_rfl, by kernel_rfl, by kernel_rfl, .slice none 0 0, by kernel_rfl, zList⟩, fun h => by cases h⟩
theorem tt37 : TIok Tryd.prog 37 (tt 37) := ⟨⟨_, _, _, Tryd.underlying37⟩, ⟨Tryd.t37, by kernel_rfl, by kernel_rfl, by kernel_rfl, .nilFunc, by kernel_rfl, zFunc⟩, fun h => by cases h⟩
theorem tt38 : TIok Tryd.prog 38 (tt 38) := ⟨⟨_, _, _, Tryd.underlying38⟩, ⟨Tryd.t38, by kernel_rfl, by kernel_rfl, by kernel_rfl, .nilFunc, by kernel_rfl, zFunc⟩, fun h => by cases h⟩
theorem tt39 : TIok Tryd.prog 39 (tt 39) := ⟨⟨_, _, _, Tryd.underlying39⟩, ⟨Tryd.t39, by kernel_rfl, by kernel_rfl, by kernel_rfl, .nilFunc, by kernel_rfl, zFunc⟩, fun h => by cases h⟩
theorem tt40 : TIok Tryd.prog 40 (tt 40) := ⟨⟨_, Tryd.underlying40, by kernel_rfl, by kernel_rfl⟩, ⟨Tryd.t40, by kernel_rfl, by kernel_rfl, by kernel_rfl, .agg #[.string ⟨#[]⟩, .int .u8 0, .string ⟨#[]⟩, .int .i64 0, .int .u64 0, .slice none 0 0, .slice none 0 0], by kernel_rfl, zAgg (zCons zStr (zCons zInt (zCons zStr (zCons zInt (zCons zInt (zCons zList (zCons zList zNil)))))))⟩, fun h => by cases h⟩
theorem tt41 : TIok Tryd.prog 41 (tt 41) := ⟨⟨_, Tryd.underlying41, by kernel_rfl, by kernel_rfl⟩, ⟨Tryd.t41, by kernel_rfl, by kernel_rfl, by kernel_rfl, .agg #[.string ⟨#[]⟩, .int .u8 0, .string ⟨#[]⟩, .int .i64 0, .int .u64 0, .slice none 0 0, .slice none 0 0], by kernel_rfl, zAgg (zCons zStr (zCons zInt (zCons zStr (zCons zInt (zCons zInt (zCons zList (zCons zList zNil)))))))⟩, fun h => by cases h⟩
theorem tt42 : TIok Tryd.prog 42 (tt 42) := ⟨⟨_, _, _, Tryd.underlying42⟩, ⟨Tryd.t42, by kernel_rfl, by kernel_rfl, by kernel_rfl, .nilFunc, by kernel_rfl, zFunc⟩, fun h => by cases h⟩
theorem tt43 : TIok Tryd.prog 43 (tt 43) := ⟨Tryd.underlying43, ⟨Tryd.t43, by kernel_rfl, by kernel_rfl, by kernel_rfl, .string ⟨#[]⟩, by kernel_rfl, zStr⟩, fun h => by cases h⟩
theorem tt44 : TIok Tryd.prog 44 (tt 44) := ⟨Tryd.underlying44, ⟨Tryd.t44, by kernel_rfl, by kernel_rfl, by kernel_rfl, .string ⟨#[]⟩, by kernel_rfl, zStr⟩, fun h => by cases h⟩
theorem tt45 : TIok Tryd.prog 45 (tt 45) := ⟨⟨_, _, _, Tryd.underlying45⟩, ⟨Tryd.t45, by kernel_rfl, by kernel_rfl, by kernel_rfl, .nilFunc, by kernel_rfl, zFunc⟩, fun h => by cases h⟩
theorem tt46 : TIok Tryd.prog 46 (tt 46) := ⟨⟨_, _, _, Tryd.underlying46⟩, ⟨Tryd.t46, by kernel_rfl, by kernel_rfl, by kernel_rfl, .nilFunc, by kernel_rfl, zFunc⟩, fun h => by cases h⟩
theorem tt47 : TIok Tryd.prog 47 (tt 47) := ⟨⟨_, _, _, Tryd.underlying47⟩, ⟨Tryd.t47, by kernel_rfl, by kernel_rfl, by kernel_rfl, .nilFunc, by kernel_rfl, zFunc⟩, fun h => by cases h⟩
theorem tt48 : TIok Tryd.prog 48 (tt 48) := ⟨⟨_, _, _, Tryd.underlying48⟩, ⟨Tryd.t48, by kernel_rfl, by kernel_rfl, by kernel_rfl, .nilFunc, by kernel_rfl, zFunc⟩, fun h => by cases h⟩
theorem tt49 : TIok Tryd.prog 49 (tt 49) := ⟨Tryd.underlying49, ⟨Tryd.t49, by kernel_rfl, by kernel_rfl, by kernel_rfl, .slice none 0 0, by kernel_rfl, zList⟩, fun h => by cases h⟩
theorem tt50 : TIok Tryd.prog 50 (tt 50) := ⟨Tryd.underlying50, ⟨Tryd.t50, by kernel_rfl, by kernel_rfl, by kernel_rfl, .slice none 0 0, by kernel_rfl, zList⟩, fun h => by cases h⟩
theorem tt51 : TIok Tryd.prog 51 (tt 51) := ⟨⟨_, _, _, Tryd.underlying51⟩, ⟨Tryd.t51, by kernel_rfl, by kernel_rfl, by kernel_rfl, .nilFunc, by kernel_rfl, zFunc⟩, fun h => by cases h⟩
theorem tt52 : TIok Tryd.prog 52 (tt 52) := ⟨⟨_, _, _, Tryd.underlying52⟩, ⟨Tryd.t52, by kernel_rfl, by kernel_rfl, by kernel_rfl, .nilFunc, by kernel_rfl, zFunc⟩, fun h => by cases h⟩
theorem tt53 : TIok Tryd.prog 53 (tt 53) := ⟨⟨_, _, _, Tryd.underlying53⟩, ⟨Tryd.t53, by kernel_rfl, by kernel_rfl, by kernel_rfl, .nilFunc, by kernel_rfl, zFunc⟩, fun h => by cases h⟩
theorem tt55 : TIok Tryd.prog 55 (tt 55) := ⟨⟨_, _, _, Tryd.underlying55⟩, ⟨Tryd.t55, by kernel_rfl, by kernel_rfl, by kernel_rfl, .nilFunc, by kernel_rfl, zFunc⟩, fun h => by cases h⟩
theorem tt56 : TIok Tryd.prog 56 (tt 56) := ⟨⟨_, _, _, Tryd.underlying56⟩, ⟨Tryd.t56, by kernel_rfl, by kernel_rfl, by kernel_rfl, .nilFunc, by kernel_rfl, zFunc⟩, fun h => by cases h⟩
theorem tt57 : TIok Tryd.prog 57 (tt 57) := ⟨⟨_, _, _, Tryd.underlying57⟩, ⟨Tryd.t57, by kernel_rfl, by kernel_rfl, by kernel_rfl, .nilFunc, by kernel_rfl, zFunc⟩, fun h => by cases h⟩
theorem tt58 : TIok Tryd.prog 58 (tt 58) := ⟨⟨_, _, _, Tryd.underlying58⟩, ⟨Tryd.t58, by kernel_rfl, by kernel_rfl, by kernel_rfl, .nilFunc, by kernel_rfl, zFunc⟩, fun h => by cases h⟩
theorem tt59 : TIok Tryd.prog 59 (tt 59) := ⟨⟨_, _, _, Tryd.underlying59⟩, ⟨Tryd.t59, by kernel_rfl, by kernel_rfl, by kernel_rfl, .nilFunc, by kernel_rfl, zFunc⟩, fun h => by cases h⟩
theorem tt60 : TIok Tryd.prog 60 (tt 60) := ⟨⟨_, _, _, Tryd.underlying60⟩, ⟨Tryd.t60, by kernel_rfl, by kernel_rfl, by kernel_rfl, .nilFunc, by kernel_rfl, zFunc⟩, fun h => by cases h⟩
theorem tt62 : TIok Tryd.prog 62 (tt 62) := ⟨⟨_, _, _, Tryd.underlying62⟩, ⟨Tryd.t62, by kernel_rfl, by kernel_rfl, by kernel_rfl, .nilFunc, by kernel_rfl, zFunc⟩, fun h => by cases h⟩
theorem tt63 : TIok Tryd.prog 63 (tt 63) := ⟨Tryd.underlying63, ⟨Tryd.t63, by kernel_rfl, by kernel_rfl, by kernel_rfl, .agg #[.int .u8 0, .int .u8 0, .int .u8 0, .int .u8 0, .int .u8 0, .int .u8 0, .int .u8 0, .int .u8 0, .int .u8 0, .int .u8 0, .int .u8 0, .int .u8 0, .int .u8 0, .int .u8 0, .int .u8 0, .int .u8 0, .int .u8 0, .int .u8 0, .int .u8 0, .int .u8 0], by kernel_rfl, zAgg (zCons zInt (zCons zInt (zCons zInt (zCons zInt (zCons zInt (zCons zInt (zCons zInt (zCons zInt (zCons zInt (zCons zInt (zCons zInt (zCons zInt (zCons zInt (zCons zInt (zCons zInt (zCons zInt (zCons zInt (zCons zInt (zCons zInt (zCons zInt zNil))))))))))))))))))))⟩, fun h => by cases h⟩
theorem tt64 : TIok Tryd.prog 64 (tt 64) := ⟨Tryd.underlying64, ⟨Tryd.t64, by kernel_rfl, by kernel_rfl, by kernel_rfl, .agg #[.int .u8 0, .int .u8 0, .int .u8 0, .int .u8 0, .int .u8 0, .int .u8 0, .int .u8 0, .int .u8 0], by kernel_rfl, zAgg (zCons zInt (zCons zInt (zCons zInt (zCons zInt (zCons zInt (zCons zInt (zCons zInt (zCons zInt zNil))))))))⟩, fun h => by cases h⟩
theorem tt65 : TIok Tryd.prog 65 (tt 65) := ⟨Tryd.underlying65, ⟨Tryd.t65, by kernel_rfl, by kernel_rfl, by kernel_rfl, .int .u64 0, by kernel_rfl, zInt⟩, fun h => by cases h⟩
theorem tt66 : TIok Tryd.prog 66 (tt 66) := ⟨⟨_, _, _, Tryd.underlying66⟩, ⟨Tryd.t66, by kernel_rfl, by kernel_rfl, by kernel_rfl, .nilFunc, by kernel_rfl, zFunc⟩, fun h => by cases h⟩
theorem tt67 : TIok Tryd.prog 67 (tt 67) := ⟨⟨_, _, _, Tryd.underlying67⟩, ⟨Tryd.t67, by kernel_rfl, by kernel_rfl, by kernel_rfl, .nilFunc, by kernel_rfl, zFunc⟩, fun h => by cases h⟩
theorem tt68 : TIok Tryd.prog 68 (tt 68) := ⟨⟨_, _, _, Tryd.underlying68⟩, ⟨Tryd.t68, by kernel_rfl, by kernel_rfl, by kernel_rfl, .nilFunc, by kernel_rfl, zFunc⟩, fun h => by cases h⟩
theorem tt69 : TIok Tryd.prog 69 (tt 69) := ⟨⟨_, Tryd.underlying69, by kernel_rfl, by kernel_rfl⟩, ⟨Tryd.t69, by kernel_rfl, by kernel_rfl, by kernel_rfl, .agg #[.pointer none, .pointer none, .pointer none, .string ⟨#[]⟩], by kernel_rfl, zAgg (zCons zPtr (zCons zPtr (zCons zPtr (zCons zStr zNil))))⟩, fun h => by cases h⟩
theorem tt70 : TIok Tryd.prog 70 (tt 70) := ⟨⟨_, Tryd.underlying70, by kernel_rfl, by kernel_rfl⟩, ⟨Tryd.t70, by kernel_rfl, by kernel_rfl, by kernel_rfl, .agg #[.pointer none, .pointer none, .pointer none, .string ⟨#[]⟩], by kernel_rfl, zAgg (zCons zPtr (zCons zPtr (zCons zPtr (zCons zStr zNil))))⟩, fun h => by cases h⟩
theorem tt74 : TIok Tryd.prog 74 (tt 74) := ⟨⟨_, _, _, Tryd.underlying74⟩, ⟨Tryd.t74, by kernel_rfl, by kernel_rfl, by kernel_rfl, .nilFunc, by kernel_rfl, zFunc⟩, fun h => by cases h⟩
theorem tt75 : TIok Tryd.prog 75 (tt 75) := ⟨Tryd.underlying75, ⟨Tryd.t75, by kernel_rfl, by kernel_rfl, by kernel_rfl, .int .u32 0, by kernel_rfl, zInt⟩, fun h => by cases h⟩
theorem tt76 : TIok Tryd.prog 76 (tt 76) := ⟨Tryd.underlying76, ⟨Tryd.t76, by kernel_rfl, by kernel_rfl, by kernel_rfl, .int .u8 0, by kernel_rfl, zInt⟩, fun h => by cases h⟩
theorem tt77 : TIok Tryd.prog 77 (tt 77) := ⟨Tryd.underlying77, ⟨Tryd.t77, by kernel_rfl, by kernel_rfl, by kernel_rfl, .int .u8 0, by kernel_rfl, zInt⟩, fun h => by cases h⟩
theorem tt78 : TIok Tryd.prog 78 (tt 78) := ⟨⟨_, _, _, Tryd.underlying78⟩, ⟨Tryd.t78, by kernel_rfl, by kernel_rfl, by kernel_rfl, .nilFunc, by kernel_rfl, zFunc⟩, fun h => by cases h⟩
theorem tt79 : TIok Tryd.prog 79 (tt 79) := ⟨Tryd.underlying79, ⟨Tryd.t79, by kernel_rfl, by kernel_rfl, by kernel_rfl, .pointer none, by kernel_rfl, zPtr⟩, fun h => by cases h⟩
theorem tt80 : TIok Tryd.prog 80 (tt 80) := ⟨Tryd.underlying80, ⟨Tryd.t80, by kernel_rfl, by kernel_rfl, by kernel_rfl, .int .i32 0, by kernel_rfl, zInt⟩, fun h => by cases h⟩
theorem tt81 : TIok Tryd.prog 81 (tt 81) := ⟨Tryd.underlying81, ⟨Tryd.t81, by kernel_rfl, by kernel_rfl, by kernel_rfl, .int .i32 0, by kernel_rfl, zInt⟩, fun h => by cases h⟩
theorem tt82 : TIok Tryd.prog 82 (tt 82) := ⟨⟨_, Tryd.underlying82, by kernel_rfl, by kernel_rfl⟩, ⟨Tryd.t82, by kernel_rfl, by kernel_rfl, by kernel_rfl, .agg #[.int .u64 0, .int .u64 0, .int .u32 0, .int .u8 0, .int .u8 0, .int .u8 0, .int .u8 0, .nilFunc, .pointer none, .int .i32 0, .int .i32 0], by kernel_rfl, zAgg (zCons zInt (zCons zInt (zCons zInt (zCons zInt (zCons zInt (zCons zInt (zCons zInt (zCons zFunc (zCons zPtr (zCons zInt (zCons zInt zNil)))))))))))⟩, fun h => by cases h⟩
theorem tt83 : TIok Tryd.prog 83 (tt 83) := ⟨⟨_, Tryd.underlying83, by kernel_rfl, by kernel_rfl⟩, ⟨Tryd.t83, by kernel_rfl, by kernel_rfl, by kernel_rfl, .agg #[.int .u64 0, .int .u64 0, .int .u32 0, .int .u8 0, .int .u8 0, .int .u8 0, .int .u8 0, .nilFunc, .pointer none, .int .i32 0, .int .i32 0], by kernel_rfl, zAgg (zCons zInt (zCons zInt (zCons zInt (zCons zInt (zCons zInt (zCons zInt (zCons zInt (zCons zFunc (zCons zPtr (zCons zInt (zCons zInt zNil)))))))))))⟩, fun h => by cases h⟩
theorem tt_ok : ∀ t, TIok Tryd.prog t (tt t) := fun t => by
  unfold tt
  split
  · exact tt1
  · exact tt2
  · exact tt3
  · exact tt4
  · exact tt5
  · exact tt6
  · exact tt7
  · exact tt8
  · exact tt9
  · exact tt10
  · exact tt11
  · exact tt12
  · exact tt13
  · exact tt14
  · exact tt15
  · exact tt16
  · exact tt17
  · exact tt18
  · exact tt19
  · exact tt20
  · exact tt21
  · exact tt22
  · exact tt23
  · exact tt24
  · exact tt25
  · exact tt26
  · exact tt27
  · exact tt28
  · exact tt29
  · exact tt30
  · exact tt31
  · exact tt32
  · exact tt33
  · exact tt34
  · exact tt35
  · exact tt36
  · exact tt37
  · exact tt38
  · exact tt39
  · exact tt40
  · exact tt41
  · exact tt42
  · exact tt43
  · exact tt44
  · exact tt45
  · exact tt46
  · exact tt47
  · exact tt48
  · exact tt49
  · exact tt50
  · exact tt51
  · exact tt52
  · exact tt53
  · exact tt55
  · exact tt56
  · exact tt57
  · exact tt58
  · exact tt59
  · exact tt60
  · exact tt62
  · exact tt63
  · exact tt64
  · exact tt65
  · exact tt66
  · exact tt67
  · exact tt68
  · exact tt69
  · exact tt70
  · exact tt74
  · exact tt75
  · exact tt76
  · exact tt77
  · exact tt78
  · exact tt79
  · exact tt80
  · exact tt81
  · exact tt82
  · exact tt83
  · trivial
def dataTy : TypeId → Bool := fun t => match t with
  | 2 => true
  | 3 => true
  | 4 => true
  | 5 => true
  | 6 => true
  | 7 => true
  | 8 => true
  | 9 => true
  | 10 => true
  | 11 => true
  | 12 => true
  | 13 => true
  | 14 => true
  | 21 => true
  | 22 => true
  | 23 => true
  | 24 => true
  | 25 => true
  | 26 => true
  | 33 => true
  | 36 => true
  | 40 => true
  | 41 => true
  | 43 => true
  | 44 => true
  | 49 => true
  | 50 => true
  | 63 => true
  | 64 => true
  | 65 => true
  | 75 => true
  | 76 => true
  | 77 => true
  | 80 => true
  | 81 => true
  | _ => false
theorem dataOK : DataOK Tryd.prog tt dataTy where
  tys := tt_ok
  kids := fun t h => by
    unfold dataTy at h; split at h <;> first | (cases h; done) | rfl
  pos := fun t h => by
    unfold dataTy at h; split at h <;> first
      | (cases h; done)
      | exact .inl ⟨_, rfl, by decide⟩
      | (refine .inr (.inr (And.intro ?_ ?_)) <;> (intro e hh; cases hh))
  fields := fun t fs h k => by
    unfold dataTy at h; split at h <;> first
      | (cases h; done)
      | (cases k; rfl)
      | (cases k; done)
  array := fun t m e h k => by
    unfold dataTy at h; split at h <;> first
      | (cases h; done)
      | (cases k; rfl)
      | (cases k; done)
end Go.Proofs.YtgbkjecepncjoaaDoor
