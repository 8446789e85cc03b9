/-
  The table of the seat's types, and that it is the program's. Printed by a program of mine (tygen.py).
-/
import Derived.Test.YtgiocgghmlmgfaaDoorVgX
import Derived.Test.YtgiocgghmlmgfaaDoorVgMA
import Derived.Test.YtgiocgghmlmgfaaDoorProg
import Derived.KernelRfl
set_option maxHeartbeats 4000000
namespace Go.Proofs.YtgiocgghmlmgfaaDoor
open Go Go.VG
set_option maxRecDepth 100000
def tt : TypeId → TI := fun t => match t with
  | 1 => ⟨.func, 1, 8, .nilFunc, []⟩
  | 2 => ⟨.int .i64, 1, 8, .int .i64 0, []⟩
  | 3 => ⟨.int .i64, 1, 8, .int .i64 0, []⟩
  | 4 => ⟨.bool, 1, 1, .bool false, []⟩
  | 5 => ⟨.int .u8, 1, 1, .int .u8 0, []⟩
  | 6 => ⟨.int .u8, 1, 1, .int .u8 0, []⟩
  | 7 => ⟨.struct [(0, 2), (1, 3), (2, 4), (3, 6)], 4, 24, .agg [.int .i64 0, .int .i64 0, .bool false, .int .u8 0], []⟩
  | 8 => ⟨.struct [(0, 2), (1, 3), (2, 4), (3, 6)], 4, 24, .agg [.int .i64 0, .int .i64 0, .bool false, .int .u8 0], []⟩
  | 9 => ⟨.string, 1, 16, .str [], []⟩
  | 10 => ⟨.string, 1, 16, .str [], []⟩
  | 11 => ⟨.string, 1, 16, .str [], []⟩
  | 12 => ⟨.int .u64, 1, 8, .int .u64 0, []⟩
  | 13 => ⟨.struct [(0, 9), (1, 12)], 2, 24, .agg [.str [], .int .u64 0], []⟩
  | 14 => ⟨.struct [(0, 9), (1, 12)], 2, 24, .agg [.str [], .int .u64 0], []⟩
  | 15 => ⟨.ptr 90, 1, 8, .nilptr, []⟩
  | 16 => ⟨.ptr 93, 1, 8, .nilptr, []⟩
  | 17 => ⟨.ptr 101, 1, 8, .nilptr, []⟩
  | 18 => ⟨.struct [(0, 17)], 1, 8, .agg [.nilptr], []⟩
  | 19 => ⟨.struct [(0, 17)], 1, 8, .agg [.nilptr], []⟩
  | 20 => ⟨.iface, 1, 16, .nilIface, []⟩
  | 21 => ⟨.int .i32, 1, 4, .int .i32 0, []⟩
  | 22 => ⟨.slice 28, 1, 24, .list true 0 [], []⟩
  | 23 => ⟨.func, 1, 8, .nilFunc, []⟩
  | 24 => ⟨.ptr 46, 1, 8, .nilptr, []⟩
  | 25 => ⟨.func, 1, 8, .nilFunc, []⟩
  | 26 => ⟨.int .u64, 1, 8, .int .u64 0, []⟩
  | 27 => ⟨.struct [(0, 5), (1, 3), (2, 3), (3, 26), (4, 9)], 5, 48, .agg [.int .u8 0, .int .i64 0, .int .i64 0, .int .u64 0, .str []], [.kI .u8, .kI .i64, .kI .i64, .kI .u64, .kS]⟩
  | 28 => ⟨.struct [(0, 5), (1, 3), (2, 3), (3, 26), (4, 9)], 5, 48, .agg [.int .u8 0, .int .i64 0, .int .i64 0, .int .u64 0, .str []], [.kI .u8, .kI .i64, .kI .i64, .kI .u64, .kS]⟩
  | 29 => ⟨.func, 1, 8, .nilFunc, []⟩
  | 30 => ⟨.slice 38, 1, 24, .list true 0 [], []⟩
  | 31 => ⟨.int .i64, 1, 8, .int .i64 0, []⟩
  | 33 => ⟨.func, 1, 8, .nilFunc, []⟩
  | 34 => ⟨.func, 1, 8, .nilFunc, []⟩
  | 35 => ⟨.slice 5, 1, 24, .list true 0 [], []⟩
  | 36 => ⟨.func, 1, 8, .nilFunc, []⟩
  | 37 => ⟨.struct [(0, 3), (1, 3), (2, 26), (3, 9)], 4, 40, .agg [.int .i64 0, .int .i64 0, .int .u64 0, .str []], [.kI .i64, .kI .i64, .kI .u64, .kS]⟩
  | 38 => ⟨.struct [(0, 3), (1, 3), (2, 26), (3, 9)], 4, 40, .agg [.int .i64 0, .int .i64 0, .int .u64 0, .str []], [.kI .i64, .kI .i64, .kI .u64, .kS]⟩
  | 39 => ⟨.func, 1, 8, .nilFunc, []⟩
  | 40 => ⟨.func, 1, 8, .nilFunc, []⟩
  | 41 => ⟨.func, 1, 8, .nilFunc, []⟩
  | 42 => ⟨.func, 1, 8, .nilFunc, []⟩
  | 43 => ⟨.func, 1, 8, .nilFunc, []⟩
  | 44 => ⟨.slice 70, 1, 24, .list true 0 [], []⟩
  | 45 => ⟨.struct [(0, 44), (1, 3)], 2, 32, .agg [.list true 0 [], .int .i64 0], []⟩
  | 46 => ⟨.struct [(0, 44), (1, 3)], 2, 32, .agg [.list true 0 [], .int .i64 0], []⟩
  | 47 => ⟨.func, 1, 8, .nilFunc, []⟩
  | 48 => ⟨.ptr 66, 1, 8, .nilptr, []⟩
  | 49 => ⟨.func, 1, 8, .nilFunc, []⟩
  | 50 => ⟨.func, 1, 8, .nilFunc, []⟩
  | 51 => ⟨.func, 1, 8, .nilFunc, []⟩
  | 52 => ⟨.func, 1, 8, .nilFunc, []⟩
  | 53 => ⟨.func, 1, 8, .nilFunc, []⟩
  | 54 => ⟨.func, 1, 8, .nilFunc, []⟩
  | 55 => ⟨.struct [(0, 3), (1, 3)], 2, 16, .agg [.int .i64 0, .int .i64 0], [.kI .i64, .kI .i64]⟩
  | 56 => ⟨.struct [(0, 3), (1, 3)], 2, 16, .agg [.int .i64 0, .int .i64 0], [.kI .i64, .kI .i64]⟩
  | 57 => ⟨.func, 1, 8, .nilFunc, []⟩
  | 58 => ⟨.func, 1, 8, .nilFunc, []⟩
  | 59 => ⟨.func, 1, 8, .nilFunc, []⟩
  | 60 => ⟨.int .u32, 1, 4, .int .u32 0, []⟩
  | 61 => ⟨.func, 1, 8, .nilFunc, []⟩
  | 62 => ⟨.struct [(0, 56), (2, 24), (3, 3)], 4, 32, .agg [.int .i64 0, .int .i64 0, .nilptr, .int .i64 0], []⟩
  | 63 => ⟨.struct [(0, 56), (2, 24), (3, 3)], 4, 32, .agg [.int .i64 0, .int .i64 0, .nilptr, .int .i64 0], []⟩
  | 64 => ⟨.func, 1, 8, .nilFunc, []⟩
  | 65 => ⟨.struct [(0, 9), (1, 3), (2, 3), (3, 31)], 4, 40, .agg [.str [], .int .i64 0, .int .i64 0, .int .i64 0], [.kS, .kI .i64, .kI .i64, .kI .i64]⟩
  | 66 => ⟨.struct [(0, 9), (1, 3), (2, 3), (3, 31)], 4, 40, .agg [.str [], .int .i64 0, .int .i64 0, .int .i64 0], [.kS, .kI .i64, .kI .i64, .kI .i64]⟩
  | 67 => ⟨.func, 1, 8, .nilFunc, []⟩
  | 68 => ⟨.func, 1, 8, .nilFunc, []⟩
  | 69 => ⟨.iface, 1, 16, .nilIface, []⟩
  | 70 => ⟨.iface, 1, 16, .nilIface, []⟩
  | 71 => ⟨.int .u64, 1, 8, .int .u64 0, []⟩
  | 72 => ⟨.func, 1, 8, .nilFunc, []⟩
  | 73 => ⟨.array 8 5, 8, 8, .agg [.int .u8 0, .int .u8 0, .int .u8 0, .int .u8 0, .int .u8 0, .int .u8 0, .int .u8 0, .int .u8 0], []⟩
  | 74 => ⟨.func, 1, 8, .nilFunc, []⟩
  | 75 => ⟨.struct [(0, 38)], 4, 40, .agg [.int .i64 0, .int .i64 0, .int .u64 0, .str []], [.kI .i64, .kI .i64, .kI .u64, .kS]⟩
  | 76 => ⟨.struct [(0, 38)], 4, 40, .agg [.int .i64 0, .int .i64 0, .int .u64 0, .str []], [.kI .i64, .kI .i64, .kI .u64, .kS]⟩
  | 77 => ⟨.func, 1, 8, .nilFunc, []⟩
  | 78 => ⟨.func, 1, 8, .nilFunc, []⟩
  | 79 => ⟨.func, 1, 8, .nilFunc, []⟩
  | 80 => ⟨.func, 1, 8, .nilFunc, []⟩
  | 81 => ⟨.func, 1, 8, .nilFunc, []⟩
  | 82 => ⟨.func, 1, 8, .nilFunc, []⟩
  | 83 => ⟨.func, 1, 8, .nilFunc, []⟩
  | 84 => ⟨.func, 1, 8, .nilFunc, []⟩
  | 85 => ⟨.func, 1, 8, .nilFunc, []⟩
  | 86 => ⟨.func, 1, 8, .nilFunc, []⟩
  | 87 => ⟨.func, 1, 8, .nilFunc, []⟩
  | 89 => ⟨.struct [(0, 17), (1, 17), (2, 17), (3, 9)], 4, 40, .agg [.nilptr, .nilptr, .nilptr, .str []], []⟩
  | 90 => ⟨.struct [(0, 17), (1, 17), (2, 17), (3, 9)], 4, 40, .agg [.nilptr, .nilptr, .nilptr, .str []], []⟩
  | 94 => ⟨.int .u8, 1, 1, .int .u8 0, []⟩
  | 95 => ⟨.int .u8, 1, 1, .int .u8 0, []⟩
  | 96 => ⟨.func, 1, 8, .nilFunc, []⟩
  | 97 => ⟨.ptr 5, 1, 8, .nilptr, []⟩
  | 98 => ⟨.int .i32, 1, 4, .int .i32 0, []⟩
  | 99 => ⟨.int .i32, 1, 4, .int .i32 0, []⟩
  | 100 => ⟨.struct [(0, 12), (1, 12), (2, 60), (3, 94), (4, 5), (5, 5), (6, 95), (7, 96), (8, 97), (9, 98), (10, 99)], 11, 48, .agg [.int .u64 0, .int .u64 0, .int .u32 0, .int .u8 0, .int .u8 0, .int .u8 0, .int .u8 0, .nilFunc, .nilptr, .int .i32 0, .int .i32 0], []⟩
  | 101 => ⟨.struct [(0, 12), (1, 12), (2, 60), (3, 94), (4, 5), (5, 5), (6, 95), (7, 96), (8, 97), (9, 98), (10, 99)], 11, 48, .agg [.int .u64 0, .int .u64 0, .int .u32 0, .int .u8 0, .int .u8 0, .int .u8 0, .int .u8 0, .nilFunc, .nilptr, .int .i32 0, .int .i32 0], []⟩
  | 102 => ⟨.func, 1, 8, .nilFunc, []⟩
  | 103 => ⟨.func, 1, 8, .nilFunc, []⟩
  | _ => ⟨.other, 0, 0, .undef, []⟩
theorem tt1 : TIok Tryd.prog 1 (tt 1) := ⟨⟨_, _, _, Tryd.underlying1⟩, ⟨Tryd.t1, by kernel_rfl, by kernel_rfl, by kernel_rfl, .nilFunc, by kernel_rfl, zFunc⟩, fun h => absurd rfl h⟩
theorem tt2 : TIok Tryd.prog 2 (tt 2) := ⟨Tryd.underlying2, ⟨Tryd.t2, by kernel_rfl, by kernel_rfl, by kernel_rfl, .int .i64 0, by kernel_rfl, zInt⟩, fun h => absurd rfl h⟩
theorem tt3 : TIok Tryd.prog 3 (tt 3) := ⟨Tryd.underlying3, ⟨Tryd.t3, by kernel_rfl, by kernel_rfl, by kernel_rfl, .int .i64 0, by kernel_rfl, zInt⟩, fun h => absurd rfl h⟩
theorem tt4 : TIok Tryd.prog 4 (tt 4) := ⟨Tryd.underlying4, ⟨Tryd.t4, by kernel_rfl, by kernel_rfl, by kernel_rfl, .bool false, by kernel_rfl, zBool⟩, fun h => absurd rfl h⟩
theorem tt5 : TIok Tryd.prog 5 (tt 5) := ⟨Tryd.underlying5, ⟨Tryd.t5, by kernel_rfl, by kernel_rfl, by kernel_rfl, .int .u8 0, by kernel_rfl, zInt⟩, fun h => absurd rfl h⟩
theorem tt6 : TIok Tryd.prog 6 (tt 6) := ⟨Tryd.underlying6, ⟨Tryd.t6, by kernel_rfl, by kernel_rfl, by kernel_rfl, .int .u8 0, by kernel_rfl, zInt⟩, fun h => absurd rfl h⟩
theorem tt7 : TIok Tryd.prog 7 (tt 7) := ⟨⟨_, Tryd.underlying7, by kernel_rfl, by kernel_rfl⟩, ⟨Tryd.t7, by kernel_rfl, by kernel_rfl, by kernel_rfl, .agg #[.int .i64 0, .int .i64 0, .bool false, .int .u8 0], by kernel_rfl, zAgg (zCons zInt (zCons zInt (zCons zBool (zCons zInt zNil))))⟩, fun h => absurd rfl h⟩
theorem tt8 : TIok Tryd.prog 8 (tt 8) := ⟨⟨_, Tryd.underlying8, by kernel_rfl, by kernel_rfl⟩, ⟨Tryd.t8, by kernel_rfl, by kernel_rfl, by kernel_rfl, .agg #[.int .i64 0, .int .i64 0, .bool false, .int .u8 0], by kernel_rfl, zAgg (zCons zInt (zCons zInt (zCons zBool (zCons zInt zNil))))⟩, fun h => absurd rfl h⟩
theorem tt9 : TIok Tryd.prog 9 (tt 9) := ⟨Tryd.underlying9, ⟨Tryd.t9, by kernel_rfl, by kernel_rfl, by kernel_rfl, .string ⟨#[]⟩, by kernel_rfl, zStr⟩, fun h => absurd rfl h⟩
theorem tt10 : TIok Tryd.prog 10 (tt 10) := ⟨Tryd.underlying10, ⟨Tryd.t10, by kernel_rfl, by kernel_rfl, by kernel_rfl, .string ⟨#[]⟩, by kernel_rfl, zStr⟩, fun h => absurd rfl h⟩
theorem tt11 : TIok Tryd.prog 11 (tt 11) := ⟨Tryd.underlying11, ⟨Tryd.t11, by kernel_rfl, by kernel_rfl, by kernel_rfl, .string ⟨#[]⟩, by kernel_rfl, zStr⟩, fun h => absurd rfl h⟩
theorem tt12 : TIok Tryd.prog 12 (tt 12) := ⟨Tryd.underlying12, ⟨Tryd.t12, by kernel_rfl, by kernel_rfl, by kernel_rfl, .int .u64 0, by kernel_rfl, zInt⟩, fun h => absurd rfl h⟩
theorem tt13 : TIok Tryd.prog 13 (tt 13) := ⟨⟨_, Tryd.underlying13, by kernel_rfl, by kernel_rfl⟩, ⟨Tryd.t13, by kernel_rfl, by kernel_rfl, by kernel_rfl, .agg #[.string ⟨#[]⟩, .int .u64 0], by kernel_rfl, zAgg (zCons zStr (zCons zInt zNil))⟩, fun h => absurd rfl h⟩
theorem tt14 : TIok Tryd.prog 14 (tt 14) := ⟨⟨_, Tryd.underlying14, by kernel_rfl, by kernel_rfl⟩, ⟨Tryd.t14, by kernel_rfl, by kernel_rfl, by kernel_rfl, .agg #[.string ⟨#[]⟩, .int .u64 0], by kernel_rfl, zAgg (zCons zStr (zCons zInt zNil))⟩, fun h => absurd rfl h⟩
theorem tt15 : TIok Tryd.prog 15 (tt 15) := ⟨Tryd.underlying15, ⟨Tryd.t15, by kernel_rfl, by kernel_rfl, by kernel_rfl, .pointer none, by kernel_rfl, zPtr⟩, fun h => absurd rfl h⟩
theorem tt16 : TIok Tryd.prog 16 (tt 16) := ⟨Tryd.underlying16, ⟨Tryd.t16, by kernel_rfl, by kernel_rfl, by kernel_rfl, .pointer none, by kernel_rfl, zPtr⟩, fun h => absurd rfl h⟩
theorem tt17 : TIok Tryd.prog 17 (tt 17) := ⟨Tryd.underlying17, ⟨Tryd.t17, by kernel_rfl, by kernel_rfl, by kernel_rfl, .pointer none, by kernel_rfl, zPtr⟩, fun h => absurd rfl h⟩
theorem tt18 : TIok Tryd.prog 18 (tt 18) := ⟨⟨_, Tryd.underlying18, by kernel_rfl, by kernel_rfl⟩, ⟨Tryd.t18, by kernel_rfl, by kernel_rfl, by kernel_rfl, .agg #[.pointer none], by kernel_rfl, zAgg (zCons zPtr zNil)⟩, fun h => absurd rfl h⟩
theorem tt19 : TIok Tryd.prog 19 (tt 19) := ⟨⟨_, Tryd.underlying19, by kernel_rfl, by kernel_rfl⟩, ⟨Tryd.t19, by kernel_rfl, by kernel_rfl, by kernel_rfl, .agg #[.pointer none], by kernel_rfl, zAgg (zCons zPtr zNil)⟩, fun h => absurd rfl h⟩
theorem tt20 : TIok Tryd.prog 20 (tt 20) := ⟨⟨_, Tryd.underlying20⟩, ⟨Tryd.t20, by kernel_rfl, by kernel_rfl, by kernel_rfl, .nilIface, by kernel_rfl, zIface⟩, fun h => absurd rfl h⟩
theorem tt21 : TIok Tryd.prog 21 (tt 21) := ⟨Tryd.underlying21, ⟨Tryd.t21, by kernel_rfl, by kernel_rfl, by kernel_rfl, .int .i32 0, by kernel_rfl, zInt⟩, fun h => absurd rfl h⟩
theorem tt22 : TIok Tryd.prog 22 (tt 22) := ⟨Tryd.underlying22, ⟨Tryd.t22, by kernel_rfl, by kernel_rfl, by kernel_rfl, .slice none 0 0, by kernel_rfl, zList⟩, fun h => absurd rfl h⟩
theorem tt23 : TIok Tryd.prog 23 (tt 23) := ⟨⟨_, _, _, Tryd.underlying23⟩, ⟨Tryd.t23, by kernel_rfl, by kernel_rfl, by kernel_rfl, .nilFunc, by kernel_rfl, zFunc⟩, fun h => absurd rfl h⟩
theorem tt24 : TIok Tryd.prog 24 (tt 24) := ⟨Tryd.underlying24, ⟨Tryd.t24, by kernel_rfl, by kernel_rfl, by kernel_rfl, .pointer none, by kernel_rfl, zPtr⟩, fun h => absurd rfl h⟩
theorem tt25 : TIok Tryd.prog 25 (tt 25) := ⟨⟨_, _, _, Tryd.underlying25⟩, ⟨Tryd.t25, by kernel_rfl, by kernel_rfl, by kernel_rfl, .nilFunc, by kernel_rfl, zFunc⟩, fun h => absurd rfl h⟩
theorem tt26 : TIok Tryd.prog 26 (tt 26) := ⟨Tryd.underlying26, ⟨Tryd.t26, by kernel_rfl, by kernel_rfl, by kernel_rfl, .int .u64 0, by kernel_rfl, zInt⟩, fun h => absurd rfl h⟩
theorem tt27 : TIok Tryd.prog 27 (tt 27) := ⟨⟨_, Tryd.underlying27, by kernel_rfl, by kernel_rfl⟩, ⟨Tryd.t27, by kernel_rfl, by kernel_rfl, by kernel_rfl, .agg #[.int .u8 0, .int .i64 0, .int .i64 0, .int .u64 0, .string ⟨#[]⟩], by kernel_rfl, zAgg (zCons zInt (zCons zInt (zCons zInt (zCons zInt (zCons zStr zNil)))))⟩, fun h => feq_of h (by kernel_rfl) (by kernel_rfl) (by kernel_rfl) (by kernel_rfl)⟩
theorem tt28 : TIok Tryd.prog 28 (tt 28) := ⟨⟨_, Tryd.underlying28, by kernel_rfl, by kernel_rfl⟩, ⟨Tryd.t28, by kernel_rfl, by kernel_rfl, by kernel_rfl, .agg #[.int .u8 0, .int .i64 0, .int .i64 0, .int .u64 0, .string ⟨#[]⟩], by kernel_rfl, zAgg (zCons zInt (zCons zInt (zCons zInt (zCons zInt (zCons zStr zNil)))))⟩, fun h => feq_of h (by kernel_rfl) (by kernel_rfl) (by kernel_rfl) (by kernel_rfl)⟩
theorem tt29 : TIok Tryd.prog 29 (tt 29) := ⟨⟨_, _, _, Tryd.underlying29⟩, ⟨Tryd.t29, by kernel_rfl, by kernel_rfl, by kernel_rfl, .nilFunc, by kernel_rfl, zFunc⟩, fun h => absurd rfl h⟩
theorem tt30 : TIok Tryd.prog 30 (tt 30) := ⟨Tryd.underlying30, ⟨Tryd.t30, by kernel_rfl, by kernel_rfl, by kernel_rfl, .slice none 0 0, by kernel_rfl, zList⟩, fun h => absurd rfl h⟩
theorem tt31 : TIok Tryd.prog 31 (tt 31) := ⟨Tryd.underlying31, ⟨Tryd.t31, by kernel_rfl, by kernel_rfl, by kernel_rfl, .int .i64 0, by kernel_rfl, zInt⟩, fun h => absurd rfl h⟩
theorem tt33 : TIok Tryd.prog 33 (tt 33) := ⟨⟨_, _, _, Tryd.underlying33⟩, ⟨Tryd.t33, by kernel_rfl, by kernel_rfl, by kernel_rfl, .nilFunc, by kernel_rfl, zFunc⟩, fun h => absurd rfl h⟩
theorem tt34 : TIok Tryd.prog 34 (tt 34) := ⟨⟨_, _, _, Tryd.underlying34⟩, ⟨Tryd.t34, by kernel_rfl, by kernel_rfl, by kernel_rfl, .nilFunc, by kernel_rfl, zFunc⟩, fun h => absurd rfl h⟩
theorem tt35 : TIok Tryd.prog 35 (tt 35) := ⟨Tryd.underlying35, ⟨Tryd.t35, by kernel_rfl, by kernel_rfl, by kernel_rfl, .slice none 0 0, by kernel_rfl, zList⟩, fun h => absurd rfl h⟩
theorem tt36 : TIok Tryd.prog 36 (tt 36) := ⟨⟨_, _, _, Tryd.underlying36⟩, ⟨Tryd.t36, by kernel_rfl, by kernel_rfl, by kernel_rfl, .nilFunc, by kernel_rfl, zFunc⟩, fun h => absurd rfl h⟩
theorem tt37 : TIok Tryd.prog 37 (tt 37) := ⟨⟨_, Tryd.underlying37, by kernel_rfl, by kernel_rfl⟩, ⟨Tryd.t37, by kernel_rfl, by kernel_rfl, by kernel_rfl, .agg #[.int .i64 0, .int .i64 0, .int .u64 0, .string ⟨#[]⟩], by kernel_rfl, zAgg (zCons zInt (zCons zInt (zCons zInt (zCons zStr zNil))))⟩, fun h => feq_of h (by kernel_rfl) (by kernel_rfl) (by kernel_rfl) (by kernel_rfl)⟩
theorem tt38 : TIok Tryd.prog 38 (tt 38) := ⟨⟨_, Tryd.underlying38, by kernel_rfl, by kernel_rfl⟩, ⟨Tryd.t38, by kernel_rfl, by kernel_rfl, by kernel_rfl, .agg #[.int .i64 0, .int .i64 0, .int .u64 0, .string ⟨#[]⟩], by kernel_rfl, zAgg (zCons zInt (zCons zInt (zCons zInt (zCons zStr zNil))))⟩, fun h => feq_of h (by kernel_rfl) (by kernel_rfl) (by kernel_rfl) (by kernel_rfl)⟩
theorem tt39 : TIok Tryd.prog 39 (tt 39) := ⟨⟨_, _, _, Tryd.underlying39⟩, ⟨Tryd.t39, by kernel_rfl, by kernel_rfl, by kernel_rfl, .nilFunc, by kernel_rfl, zFunc⟩, fun h => absurd rfl h⟩
theorem tt40 : TIok Tryd.prog 40 (tt 40) := ⟨⟨_, _, _, Tryd.underlying40⟩, ⟨Tryd.t40, by kernel_rfl, by kernel_rfl, by kernel_rfl, .nilFunc, by kernel_rfl, zFunc⟩, fun h => absurd rfl h⟩
theorem tt41 : TIok Tryd.prog 41 (tt 41) := ⟨⟨_, _, _, Tryd.underlying41⟩, ⟨Tryd.t41, by kernel_rfl, by kernel_rfl, by kernel_rfl, .nilFunc, by kernel_rfl, zFunc⟩, fun h => absurd rfl h⟩
theorem tt42 : TIok Tryd.prog 42 (tt 42) := ⟨⟨_, _, _, Tryd.underlying42⟩, ⟨Tryd.t42, by kernel_rfl, by kernel_rfl, by kernel_rfl, .nilFunc, by kernel_rfl, zFunc⟩, fun h => absurd rfl h⟩
theorem tt43 : TIok Tryd.prog 43 (tt 43) := ⟨⟨_, _, _, Tryd.underlying43⟩, ⟨Tryd.t43, by kernel_rfl, by kernel_rfl, by kernel_rfl, .nilFunc, by kernel_rfl, zFunc⟩, fun h => absurd rfl h⟩
theorem tt44 : TIok Tryd.prog 44 (tt 44) := ⟨Tryd.underlying44, ⟨Tryd.t44, by kernel_rfl, by kernel_rfl, by kernel_rfl, .slice none 0 0, by kernel_rfl, zList⟩, fun h => absurd rfl h⟩
theorem tt45 : TIok Tryd.prog 45 (tt 45) := ⟨⟨_, Tryd.underlying45, by kernel_rfl, by kernel_rfl⟩, ⟨Tryd.t45, by kernel_rfl, by kernel_rfl, by kernel_rfl, .agg #[.slice none 0 0, .int .i64 0], by kernel_rfl, zAgg (zCons zList (zCons zInt zNil))⟩, fun h => absurd rfl h⟩
theorem tt46 : TIok Tryd.prog 46 (tt 46) := ⟨⟨_, Tryd.underlying46, by kernel_rfl, by kernel_rfl⟩, ⟨Tryd.t46, by kernel_rfl, by kernel_rfl, by kernel_rfl, .agg #[.slice none 0 0, .int .i64 0], by kernel_rfl, zAgg (zCons zList (zCons zInt zNil))⟩, fun h => absurd rfl h⟩
theorem tt47 : TIok Tryd.prog 47 (tt 47) := ⟨⟨_, _, _, Tryd.underlying47⟩, ⟨Tryd.t47, by kernel_rfl, by kernel_rfl, by kernel_rfl, .nilFunc, by kernel_rfl, zFunc⟩, fun h => absurd rfl h⟩
theorem tt48 : TIok Tryd.prog 48 (tt 48) := ⟨Tryd.underlying48, ⟨Tryd.t48, by kernel_rfl, by kernel_rfl, by kernel_rfl, .pointer none, by kernel_rfl, zPtr⟩, fun h => absurd rfl h⟩
theorem tt49 : TIok Tryd.prog 49 (tt 49) := ⟨⟨_, _, _, Tryd.underlying49⟩, ⟨Tryd.t49, by kernel_rfl, by kernel_rfl, by kernel_rfl, .nilFunc, by kernel_rfl, zFunc⟩, fun h => absurd rfl h⟩
theorem tt50 : TIok Tryd.prog 50 (tt 50) := ⟨⟨_, _, _, Tryd.underlying50⟩, ⟨Tryd.t50, by kernel_rfl, by kernel_rfl, by kernel_rfl, .nilFunc, by kernel_rfl, zFunc⟩, fun h => absurd rfl h⟩
theorem tt51 : TIok Tryd.prog 51 (tt 51) := ⟨⟨_, _, _, Tryd.underlying51⟩, ⟨Tryd.t51, by kernel_rfl, by kernel_rfl, by kernel_rfl, .nilFunc, by kernel_rfl, zFunc⟩, fun h => absurd rfl h⟩
theorem tt52 : TIok Tryd.prog 52 (tt 52) := ⟨⟨_, _, _, Tryd.underlying52⟩, ⟨Tryd.t52, by kernel_rfl, by kernel_rfl, by kernel_rfl, .nilFunc, by kernel_rfl, zFunc⟩, fun h => absurd rfl h⟩
theorem tt53 : TIok Tryd.prog 53 (tt 53) := ⟨⟨_, _, _, Tryd.underlying53⟩, ⟨Tryd.t53, by kernel_rfl, by kernel_rfl, by kernel_rfl, .nilFunc, by kernel_rfl, zFunc⟩, fun h => absurd rfl h⟩
theorem tt54 : TIok Tryd.prog 54 (tt 54) := ⟨⟨_, _, _, Tryd.underlying54⟩, ⟨Tryd.t54, by kernel_rfl, by kernel_rfl, by kernel_rfl, .nilFunc, by kernel_rfl, zFunc⟩, fun h => absurd rfl h⟩
theorem tt55 : TIok Tryd.prog 55 (tt 55) := ⟨⟨_, Tryd.underlying55, by kernel_rfl, by kernel_rfl⟩, ⟨Tryd.t55, by kernel_rfl, by kernel_rfl, by kernel_rfl, .agg #[.int .i64 0, .int .i64 0], by kernel_rfl, zAgg (zCons zInt (zCons zInt zNil))⟩, fun h => feq_of h (by kernel_rfl) (by kernel_rfl) (by kernel_rfl) (by kernel_rfl)⟩
theorem tt56 : TIok Tryd.prog 56 (tt 56) := ⟨⟨_, Tryd.underlying56, by kernel_rfl, by kernel_rfl⟩, ⟨Tryd.t56, by kernel_rfl, by kernel_rfl, by kernel_rfl, .agg #[.int .i64 0, .int .i64 0], by kernel_rfl, zAgg (zCons zInt (zCons zInt zNil))⟩, fun h => feq_of h (by kernel_rfl) (by kernel_rfl) (by kernel_rfl) (by kernel_rfl)⟩
theorem tt57 : TIok Tryd.prog 57 (tt 57) := ⟨⟨_, _, _, Tryd.underlying57⟩, ⟨Tryd.t57, by kernel_rfl, by kernel_rfl, by kernel_rfl, .nilFunc, by kernel_rfl, zFunc⟩, fun h => absurd rfl h⟩
theorem tt58 : TIok Tryd.prog 58 (tt 58) := ⟨⟨_, _, _, Tryd.underlying58⟩, ⟨Tryd.t58, by kernel_rfl, by kernel_rfl, by kernel_rfl, .nilFunc, by kernel_rfl, zFunc⟩, fun h => absurd rfl h⟩
theorem tt59 : TIok Tryd.prog 59 (tt 59) := ⟨⟨_, _, _, Tryd.underlying59⟩, ⟨Tryd.t59, by kernel_rfl, by kernel_rfl, by kernel_rfl, .nilFunc, by kernel_rfl, zFunc⟩, fun h => absurd rfl h⟩
theorem tt60 : TIok Tryd.prog 60 (tt 60) := ⟨Tryd.underlying60, ⟨Tryd.t60, by kernel_rfl, by kernel_rfl, by kernel_rfl, .int .u32 0, by kernel_rfl, zInt⟩, fun h => absurd rfl h⟩
theorem tt61 : TIok Tryd.prog 61 (tt 61) := ⟨⟨_, _, _, Tryd.underlying61⟩, ⟨Tryd.t61, by kernel_rfl, by kernel_rfl, by kernel_rfl, .nilFunc, by kernel_rfl, zFunc⟩, fun h => absurd rfl h⟩
theorem tt62 : TIok Tryd.prog 62 (tt 62) := ⟨⟨_, Tryd.underlying62, by kernel_rfl, by kernel_rfl⟩, ⟨Tryd.t62, by kernel_rfl, by kernel_rfl, by kernel_rfl, .agg #[.int .i64 0, .int .i64 0, .pointer none, .int .i64 0], by kernel_rfl, zAgg (zCons zInt (zCons zInt (zCons zPtr (zCons zInt zNil))))⟩, fun h => absurd rfl h⟩
theorem tt63 : TIok Tryd.prog 63 (tt 63) := ⟨⟨_, Tryd.underlying63, by kernel_rfl, by kernel_rfl⟩, ⟨Tryd.t63, by kernel_rfl, by kernel_rfl, by kernel_rfl, .agg #[.int .i64 0, .int .i64 0, .pointer none, .int .i64 0], by kernel_rfl, zAgg (zCons zInt (zCons zInt (zCons zPtr (zCons zInt zNil))))⟩, fun h => absurd rfl h⟩
theorem tt64 : TIok Tryd.prog 64 (tt 64) := ⟨⟨_, _, _, Tryd.underlying64⟩, ⟨Tryd.t64, by kernel_rfl, by kernel_rfl, by kernel_rfl, .nilFunc, by kernel_rfl, zFunc⟩, fun h => absurd rfl h⟩
theorem tt65 : TIok Tryd.prog 65 (tt 65) := ⟨⟨_, Tryd.underlying65, by kernel_rfl, by kernel_rfl⟩, ⟨Tryd.t65, by kernel_rfl, by kernel_rfl, by kernel_rfl, .agg #[.string ⟨#[]⟩, .int .i64 0, .int .i64 0, .int .i64 0], by kernel_rfl, zAgg (zCons zStr (zCons zInt (zCons zInt (zCons zInt zNil))))⟩, fun h => feq_of h (by kernel_rfl) (by kernel_rfl) (by kernel_rfl) (by kernel_rfl)⟩
theorem tt66 : TIok Tryd.prog 66 (tt 66) := ⟨⟨_, Tryd.underlying66, by kernel_rfl, by kernel_rfl⟩, ⟨Tryd.t66, by kernel_rfl, by kernel_rfl, by kernel_rfl, .agg #[.string ⟨#[]⟩, .int .i64 0, .int .i64 0, .int .i64 0], by kernel_rfl, zAgg (zCons zStr (zCons zInt (zCons zInt (zCons zInt zNil))))⟩, fun h => feq_of h (by kernel_rfl) (by kernel_rfl) (by kernel_rfl) (by kernel_rfl)⟩
theorem tt67 : TIok Tryd.prog 67 (tt 67) := ⟨⟨_, _, _, Tryd.underlying67⟩, ⟨Tryd.t67, by kernel_rfl, by kernel_rfl, by kernel_rfl, .nilFunc, by kernel_rfl, zFunc⟩, fun h => absurd rfl h⟩
theorem tt68 : TIok Tryd.prog 68 (tt 68) := ⟨⟨_, _, _, Tryd.underlying68⟩, ⟨Tryd.t68, by kernel_rfl, by kernel_rfl, by kernel_rfl, .nilFunc, by kernel_rfl, zFunc⟩, fun h => absurd rfl h⟩
theorem tt69 : TIok Tryd.prog 69 (tt 69) := ⟨⟨_, Tryd.underlying69⟩, ⟨Tryd.t69, by kernel_rfl, by kernel_rfl, by kernel_rfl, .nilIface, by kernel_rfl, zIface⟩, fun h => absurd rfl h⟩
theorem tt70 : TIok Tryd.prog 70 (tt 70) := ⟨⟨_, Tryd.underlying70⟩, ⟨Tryd.t70, by kernel_rfl, by kernel_rfl, by kernel_rfl, .nilIface, by kernel_rfl, zIface⟩, fun h => absurd rfl h⟩
theorem tt71 : TIok Tryd.prog 71 (tt 71) := ⟨Tryd.underlying71, ⟨Tryd.t71, by kernel_rfl, by kernel_rfl, by kernel_rfl, .int .u64 0, by kernel_rfl, zInt⟩, fun h => absurd rfl h⟩
theorem tt72 : TIok Tryd.prog 72 (tt 72) := ⟨⟨_, _, _, Tryd.underlying72⟩, ⟨Tryd.t72, by kernel_rfl, by kernel_rfl, by kernel_rfl, .nilFunc, by kernel_rfl, zFunc⟩, fun h => absurd rfl h⟩
theorem tt73 : TIok Tryd.prog 73 (tt 73) := ⟨Tryd.underlying73, ⟨Tryd.t73, by kernel_rfl, by kernel_rfl, by kernel_rfl, .agg #[.int .u8 0, .int .u8 0, .int .u8 0, .int .u8 0, .int .u8 0, .int .u8 0, .int .u8 0, .int .u8 0], by kernel_rfl, zAgg (zCons zInt (zCons zInt (zCons zInt (zCons zInt (zCons zInt (zCons zInt (zCons zInt (zCons zInt zNil))))))))⟩, fun h => absurd rfl h⟩
theorem tt74 : TIok Tryd.prog 74 (tt 74) := ⟨⟨_, _, _, Tryd.underlying74⟩, ⟨Tryd.t74, by kernel_rfl, by kernel_rfl, by kernel_rfl, .nilFunc, by kernel_rfl, zFunc⟩, fun h => absurd rfl h⟩
theorem tt75 : TIok Tryd.prog 75 (tt 75) := ⟨⟨_, Tryd.underlying75, by kernel_rfl, by kernel_rfl⟩, ⟨Tryd.t75, by kernel_rfl, by kernel_rfl, by kernel_rfl, .agg #[.int .i64 0, .int .i64 0, .int .u64 0, .string ⟨#[]⟩], by kernel_rfl, zAgg (zCons zInt (zCons zInt (zCons zInt (zCons zStr zNil))))⟩, fun h => feq_of h (by kernel_rfl) (by kernel_rfl) (by kernel_rfl) (by kernel_rfl)⟩
theorem tt76 : TIok Tryd.prog 76 (tt 76) := ⟨⟨_, Tryd.underlying76, by kernel_rfl, by kernel_rfl⟩, ⟨Tryd.t76, by kernel_rfl, by kernel_rfl, by kernel_rfl, .agg #[.int .i64 0, .int .i64 0, .int .u64 0, .string ⟨#[]⟩], by kernel_rfl, zAgg (zCons zInt (zCons zInt (zCons zInt (zCons zStr zNil))))⟩, fun h => feq_of h (by kernel_rfl) (by kernel_rfl) (by kernel_rfl) (by kernel_rfl)⟩
theorem tt77 : TIok Tryd.prog 77 (tt 77) := ⟨⟨_, _, _, Tryd.underlying77⟩, ⟨Tryd.t77, by kernel_rfl, by kernel_rfl, by kernel_rfl, .nilFunc, by kernel_rfl, zFunc⟩, fun h => absurd rfl h⟩
theorem tt78 : TIok Tryd.prog 78 (tt 78) := ⟨⟨_, _, _, Tryd.underlying78⟩, ⟨Tryd.t78, by kernel_rfl, by kernel_rfl, by kernel_rfl, .nilFunc, by kernel_rfl, zFunc⟩, fun h => absurd rfl h⟩
theorem tt79 : TIok Tryd.prog 79 (tt 79) := ⟨⟨_, _, _, Tryd.underlying79⟩, ⟨Tryd.t79, by kernel_rfl, by kernel_rfl, by kernel_rfl, .nilFunc, by kernel_rfl, zFunc⟩, fun h => absurd rfl h⟩
theorem tt80 : TIok Tryd.prog 80 (tt 80) := ⟨⟨_, _, _, Tryd.underlying80⟩, ⟨Tryd.t80, by kernel_rfl, by kernel_rfl, by kernel_rfl, .nilFunc, by kernel_rfl, zFunc⟩, fun h => absurd rfl h⟩
theorem tt81 : TIok Tryd.prog 81 (tt 81) := ⟨⟨_, _, _, Tryd.underlying81⟩, ⟨Tryd.t81, by kernel_rfl, by kernel_rfl, by kernel_rfl, .nilFunc, by kernel_rfl, zFunc⟩, fun h => absurd rfl h⟩
theorem tt82 : TIok Tryd.prog 82 (tt 82) := ⟨⟨_, _, _, Tryd.underlying82⟩, ⟨Tryd.t82, by kernel_rfl, by kernel_rfl, by kernel_rfl, .nilFunc, by kernel_rfl, zFunc⟩, fun h => absurd rfl h⟩
theorem tt83 : TIok Tryd.prog 83 (tt 83) := ⟨⟨_, _, _, Tryd.underlying83⟩, ⟨Tryd.t83, by kernel_rfl, by kernel_rfl, by kernel_rfl, .nilFunc, by kernel_rfl, zFunc⟩, fun h => absurd rfl h⟩
theorem tt84 : TIok Tryd.prog 84 (tt 84) := ⟨⟨_, _, _, Tryd.underlying84⟩, ⟨Tryd.t84, by kernel_rfl, by kernel_rfl, by kernel_rfl, .nilFunc, by kernel_rfl, zFunc⟩, fun h => absurd rfl h⟩
theorem tt85 : TIok Tryd.prog 85 (tt 85) := ⟨⟨_, _, _, Tryd.underlying85⟩, ⟨Tryd.t85, by kernel_rfl, by kernel_rfl, by kernel_rfl, .nilFunc, by kernel_rfl, zFunc⟩, fun h => absurd rfl h⟩
theorem tt86 : TIok Tryd.prog 86 (tt 86) := ⟨⟨_, _, _, Tryd.underlying86⟩, ⟨Tryd.t86, by kernel_rfl, by kernel_rfl, by kernel_rfl, .nilFunc, by kernel_rfl, zFunc⟩, fun h => absurd rfl h⟩
theorem tt87 : TIok Tryd.prog 87 (tt 87) := ⟨⟨_, _, _, Tryd.underlying87⟩, ⟨Tryd.t87, by kernel_rfl, by kernel_rfl, by kernel_rfl, .nilFunc, by kernel_rfl, zFunc⟩, fun h => absurd rfl h⟩
theorem tt89 : TIok Tryd.prog 89 (tt 89) := ⟨⟨_, Tryd.underlying89, by kernel_rfl, by kernel_rfl⟩, ⟨Tryd.t89, by kernel_rfl, by kernel_rfl, by kernel_rfl, .agg #[.pointer none, .pointer none, .pointer none, .string ⟨#[]⟩], by kernel_rfl, zAgg (zCons zPtr (zCons zPtr (zCons zPtr (zCons zStr zNil))))⟩, fun h => absurd rfl h⟩
theorem tt90 : TIok Tryd.prog 90 (tt 90) := ⟨⟨_, Tryd.underlying90, by kernel_rfl, by kernel_rfl⟩, ⟨Tryd.t90, by kernel_rfl, by kernel_rfl, by kernel_rfl, .agg #[.pointer none, .pointer none, .pointer none, .string ⟨#[]⟩], by kernel_rfl, zAgg (zCons zPtr (zCons zPtr (zCons zPtr (zCons zStr zNil))))⟩, fun h => absurd rfl h⟩
theorem tt94 : TIok Tryd.prog 94 (tt 94) := ⟨Tryd.underlying94, ⟨Tryd.t94, by kernel_rfl, by kernel_rfl, by kernel_rfl, .int .u8 0, by kernel_rfl, zInt⟩, fun h => absurd rfl h⟩
theorem tt95 : TIok Tryd.prog 95 (tt 95) := ⟨Tryd.underlying95, ⟨Tryd.t95, by kernel_rfl, by kernel_rfl, by kernel_rfl, .int .u8 0, by kernel_rfl, zInt⟩, fun h => absurd rfl h⟩
theorem tt96 : TIok Tryd.prog 96 (tt 96) := ⟨⟨_, _, _, Tryd.underlying96⟩, ⟨Tryd.t96, by kernel_rfl, by kernel_rfl, by kernel_rfl, .nilFunc, by kernel_rfl, zFunc⟩, fun h => absurd rfl h⟩
theorem tt97 : TIok Tryd.prog 97 (tt 97) := ⟨Tryd.underlying97, ⟨Tryd.t97, by kernel_rfl, by kernel_rfl, by kernel_rfl, .pointer none, by kernel_rfl, zPtr⟩, fun h => absurd rfl h⟩
theorem tt98 : TIok Tryd.prog 98 (tt 98) := ⟨Tryd.underlying98, ⟨Tryd.t98, by kernel_rfl, by kernel_rfl, by kernel_rfl, .int .i32 0, by kernel_rfl, zInt⟩, fun h => absurd rfl h⟩
theorem tt99 : TIok Tryd.prog 99 (tt 99) := ⟨Tryd.underlying99, ⟨Tryd.t99, by kernel_rfl, by kernel_rfl, by kernel_rfl, .int .i32 0, by kernel_rfl, zInt⟩, fun h => absurd rfl h⟩
theorem tt100 : TIok Tryd.prog 100 (tt 100) := ⟨⟨_, Tryd.underlying100, by kernel_rfl, by kernel_rfl⟩, ⟨Tryd.t100, by kernel_rfl, by kernel_rfl, by kernel_rfl, .agg #[.int .u64 0, .int .u64 0, .int .u32 0, .int .u8 0, .int .u8 0, .int .u8 0, .int .u8 0, .nilFunc, .pointer none, .int .i32 0, .int .i32 0], by kernel_rfl, zAgg (zCons zInt (zCons zInt (zCons zInt (zCons zInt (zCons zInt (zCons zInt (zCons zInt (zCons zFunc (zCons zPtr (zCons zInt (zCons zInt zNil)))))))))))⟩, fun h => absurd rfl h⟩
theorem tt101 : TIok Tryd.prog 101 (tt 101) := ⟨⟨_, Tryd.underlying101, by kernel_rfl, by kernel_rfl⟩, ⟨Tryd.t101, by kernel_rfl, by kernel_rfl, by kernel_rfl, .agg #[.int .u64 0, .int .u64 0, .int .u32 0, .int .u8 0, .int .u8 0, .int .u8 0, .int .u8 0, .nilFunc, .pointer none, .int .i32 0, .int .i32 0], by kernel_rfl, zAgg (zCons zInt (zCons zInt (zCons zInt (zCons zInt (zCons zInt (zCons zInt (zCons zInt (zCons zFunc (zCons zPtr (zCons zInt (zCons zInt zNil)))))))))))⟩, fun h => absurd rfl h⟩
theorem tt102 : TIok Tryd.prog 102 (tt 102) := ⟨⟨_, _, _, Tryd.underlying102⟩, ⟨Tryd.t102, by kernel_rfl, by kernel_rfl, by kernel_rfl, .nilFunc, by kernel_rfl, zFunc⟩, fun h => absurd rfl h⟩
theorem tt103 : TIok Tryd.prog 103 (tt 103) := ⟨⟨_, _, _, Tryd.underlying103⟩, ⟨Tryd.t103, by kernel_rfl, by kernel_rfl, by kernel_rfl, .nilFunc, by kernel_rfl, zFunc⟩, fun h => absurd rfl h⟩
theorem tt_ok : ∀ t, TIok Tryd.prog t (tt t) := fun t => by
  unfold tt
  split
  · exact tt1
  · exact tt2
  · exact tt3
  · exact tt4
  · exact tt5
  · exact tt6
  · exact tt7
  · exact tt8
  · exact tt9
  · exact tt10
  · exact tt11
  · exact tt12
  · exact tt13
  · exact tt14
  · exact tt15
  · exact tt16
  · exact tt17
  · exact tt18
  · exact tt19
  · exact tt20
  · exact tt21
  · exact tt22
  · exact tt23
  · exact tt24
  · exact tt25
  · exact tt26
  · exact tt27
  · exact tt28
  · exact tt29
  · exact tt30
  · exact tt31
  · exact tt33
  · exact tt34
  · exact tt35
  · exact tt36
  · exact tt37
  · exact tt38
  · exact tt39
  · exact tt40
  · exact tt41
  · exact tt42
  · exact tt43
  · exact tt44
  · exact tt45
  · exact tt46
  · exact tt47
  · exact tt48
  · exact tt49
  · exact tt50
  · exact tt51
  · exact tt52
  · exact tt53
  · exact tt54
  · exact tt55
  · exact tt56
  · exact tt57
  · exact tt58
  · exact tt59
  · exact tt60
  · exact tt61
  · exact tt62
  · exact tt63
  · exact tt64
  · exact tt65
  · exact tt66
  · exact tt67
  · exact tt68
  · exact tt69
  · exact tt70
  · exact tt71
  · exact tt72
  · exact tt73
  · exact tt74
  · exact tt75
  · exact tt76
  · exact tt77
  · exact tt78
  · exact tt79
  · exact tt80
  · exact tt81
  · exact tt82
  · exact tt83
  · exact tt84
  · exact tt85
  · exact tt86
  · exact tt87
  · exact tt89
  · exact tt90
  · exact tt94
  · exact tt95
  · exact tt96
  · exact tt97
  · exact tt98
  · exact tt99
  · exact tt100
  · exact tt101
  · exact tt102
  · exact tt103
  · trivial
def dataTy : TypeId → Bool := fun t => match t with
  | 2 => true
  | 3 => true
  | 4 => true
  | 5 => true
  | 6 => true
  | 7 => true
  | 8 => true
  | 9 => true
  | 10 => true
  | 11 => true
  | 12 => true
  | 13 => true
  | 14 => true
  | 21 => true
  | 22 => true
  | 26 => true
  | 27 => true
  | 28 => true
  | 30 => true
  | 31 => true
  | 35 => true
  | 37 => true
  | 38 => true
  | 55 => true
  | 56 => true
  | 60 => true
  | 65 => true
  | 66 => true
  | 71 => true
  | 73 => true
  | 75 => true
  | 76 => true
  | 94 => true
  | 95 => true
  | 98 => true
  | 99 => true
  | _ => false
theorem dataOK : DataOK Tryd.prog tt dataTy where
  tys := tt_ok
  kids := fun t h => by
    unfold dataTy at h; split at h <;> first | (cases h; done) | rfl
  pos := fun t h => by
    unfold dataTy at h; split at h <;> first
      | (cases h; done)
      | exact .inl ⟨_, rfl, by decide⟩
      | (refine .inr (.inr (And.intro ?_ ?_)) <;> (intro e hh; cases hh))
  fields := fun t fs h k => by
    unfold dataTy at h; split at h <;> first
      | (cases h; done)
      | (cases k; rfl)
      | (cases k; done)
  array := fun t m e h k => by
    unfold dataTy at h; split at h <;> first
      | (cases h; done)
      | (cases k; rfl)
      | (cases k; done)
end Go.Proofs.YtgiocgghmlmgfaaDoor
