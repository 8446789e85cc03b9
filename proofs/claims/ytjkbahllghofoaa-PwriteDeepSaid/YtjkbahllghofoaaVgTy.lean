/-
  The table of the seat's types, and that it is the program's. Printed by a program of mine (tygen.py).
-/
import Derived.Test.YtjkbahllghofoaaVgX
import Derived.Test.YtjkbahllghofoaaVgMA
import Derived.Test.YtjkbahllghofoaaProg
import Derived.KernelRfl
set_option maxHeartbeats 4000000
namespace Go.Proofs.Ytjkbahllghofoaa
open Go Go.VG
set_option maxRecDepth 100000
def tt : TypeId → TI := fun t => match t with
  | 1 => ⟨.func, 1, 8, .nilFunc, []⟩
  | 2 => ⟨.int .i64, 1, 8, .int .i64 0, []⟩
  | 3 => ⟨.int .i64, 1, 8, .int .i64 0, []⟩
  | 4 => ⟨.bool, 1, 1, .bool false, []⟩
  | 5 => ⟨.int .u8, 1, 1, .int .u8 0, []⟩
  | 6 => ⟨.int .u8, 1, 1, .int .u8 0, []⟩
  | 7 => ⟨.struct [(0, 2), (1, 3), (2, 4), (3, 6)], 4, 24, .agg [.int .i64 0, .int .i64 0, .bool false, .int .u8 0], []⟩
  | 8 => ⟨.struct [(0, 2), (1, 3), (2, 4), (3, 6)], 4, 24, .agg [.int .i64 0, .int .i64 0, .bool false, .int .u8 0], []⟩
  | 9 => ⟨.string, 1, 16, .str [], []⟩
  | 10 => ⟨.string, 1, 16, .str [], []⟩
  | 11 => ⟨.string, 1, 16, .str [], []⟩
  | 12 => ⟨.int .u64, 1, 8, .int .u64 0, []⟩
  | 13 => ⟨.struct [(0, 9), (1, 12)], 2, 24, .agg [.str [], .int .u64 0], []⟩
  | 14 => ⟨.struct [(0, 9), (1, 12)], 2, 24, .agg [.str [], .int .u64 0], []⟩
  | 15 => ⟨.ptr 60, 1, 8, .nilptr, []⟩
  | 16 => ⟨.ptr 63, 1, 8, .nilptr, []⟩
  | 17 => ⟨.ptr 72, 1, 8, .nilptr, []⟩
  | 18 => ⟨.struct [(0, 17)], 1, 8, .agg [.nilptr], []⟩
  | 19 => ⟨.struct [(0, 17)], 1, 8, .agg [.nilptr], []⟩
  | 20 => ⟨.iface, 1, 16, .nilIface, []⟩
  | 21 => ⟨.int .i32, 1, 4, .int .i32 0, []⟩
  | 22 => ⟨.func, 1, 8, .nilFunc, []⟩
  | 23 => ⟨.ptr 40, 1, 8, .nilptr, []⟩
  | 24 => ⟨.func, 1, 8, .nilFunc, []⟩
  | 25 => ⟨.func, 1, 8, .nilFunc, []⟩
  | 26 => ⟨.func, 1, 8, .nilFunc, []⟩
  | 27 => ⟨.func, 1, 8, .nilFunc, []⟩
  | 28 => ⟨.func, 1, 8, .nilFunc, []⟩
  | 29 => ⟨.func, 1, 8, .nilFunc, []⟩
  | 30 => ⟨.int .u64, 1, 8, .int .u64 0, []⟩
  | 31 => ⟨.struct [(0, 5), (1, 3), (2, 3), (3, 30), (4, 9)], 5, 48, .agg [.int .u8 0, .int .i64 0, .int .i64 0, .int .u64 0, .str []], [.kI .u8, .kI .i64, .kI .i64, .kI .u64, .kS]⟩
  | 32 => ⟨.struct [(0, 5), (1, 3), (2, 3), (3, 30), (4, 9)], 5, 48, .agg [.int .u8 0, .int .i64 0, .int .i64 0, .int .u64 0, .str []], [.kI .u8, .kI .i64, .kI .i64, .kI .u64, .kS]⟩
  | 33 => ⟨.func, 1, 8, .nilFunc, []⟩
  | 34 => ⟨.func, 1, 8, .nilFunc, []⟩
  | 35 => ⟨.func, 1, 8, .nilFunc, []⟩
  | 36 => ⟨.slice 5, 1, 24, .list true 0 [], []⟩
  | 37 => ⟨.func, 1, 8, .nilFunc, []⟩
  | 38 => ⟨.slice 51, 1, 24, .list true 0 [], []⟩
  | 39 => ⟨.struct [(0, 38), (1, 3)], 2, 32, .agg [.list true 0 [], .int .i64 0], []⟩
  | 40 => ⟨.struct [(0, 38), (1, 3)], 2, 32, .agg [.list true 0 [], .int .i64 0], []⟩
  | 41 => ⟨.struct [(0, 3), (1, 3)], 2, 16, .agg [.int .i64 0, .int .i64 0], [.kI .i64, .kI .i64]⟩
  | 42 => ⟨.struct [(0, 3), (1, 3)], 2, 16, .agg [.int .i64 0, .int .i64 0], [.kI .i64, .kI .i64]⟩
  | 43 => ⟨.func, 1, 8, .nilFunc, []⟩
  | 44 => ⟨.struct [(0, 42), (2, 23), (3, 3)], 4, 32, .agg [.int .i64 0, .int .i64 0, .nilptr, .int .i64 0], []⟩
  | 45 => ⟨.struct [(0, 42), (2, 23), (3, 3)], 4, 32, .agg [.int .i64 0, .int .i64 0, .nilptr, .int .i64 0], []⟩
  | 46 => ⟨.func, 1, 8, .nilFunc, []⟩
  | 47 => ⟨.func, 1, 8, .nilFunc, []⟩
  | 48 => ⟨.struct [(0, 3), (1, 3), (2, 30), (3, 9)], 4, 40, .agg [.int .i64 0, .int .i64 0, .int .u64 0, .str []], [.kI .i64, .kI .i64, .kI .u64, .kS]⟩
  | 49 => ⟨.struct [(0, 3), (1, 3), (2, 30), (3, 9)], 4, 40, .agg [.int .i64 0, .int .i64 0, .int .u64 0, .str []], [.kI .i64, .kI .i64, .kI .u64, .kS]⟩
  | 50 => ⟨.iface, 1, 16, .nilIface, []⟩
  | 51 => ⟨.iface, 1, 16, .nilIface, []⟩
  | 52 => ⟨.func, 1, 8, .nilFunc, []⟩
  | 53 => ⟨.struct [(0, 3), (1, 3), (2, 30), (3, 9)], 4, 40, .agg [.int .i64 0, .int .i64 0, .int .u64 0, .str []], [.kI .i64, .kI .i64, .kI .u64, .kS]⟩
  | 54 => ⟨.func, 1, 8, .nilFunc, []⟩
  | 55 => ⟨.func, 1, 8, .nilFunc, []⟩
  | 56 => ⟨.func, 1, 8, .nilFunc, []⟩
  | 57 => ⟨.struct [(0, 53)], 4, 40, .agg [.int .i64 0, .int .i64 0, .int .u64 0, .str []], [.kI .i64, .kI .i64, .kI .u64, .kS]⟩
  | 58 => ⟨.struct [(0, 53)], 4, 40, .agg [.int .i64 0, .int .i64 0, .int .u64 0, .str []], [.kI .i64, .kI .i64, .kI .u64, .kS]⟩
  | 59 => ⟨.struct [(0, 17), (1, 17), (2, 17), (3, 9)], 4, 40, .agg [.nilptr, .nilptr, .nilptr, .str []], []⟩
  | 60 => ⟨.struct [(0, 17), (1, 17), (2, 17), (3, 9)], 4, 40, .agg [.nilptr, .nilptr, .nilptr, .str []], []⟩
  | 64 => ⟨.int .u32, 1, 4, .int .u32 0, []⟩
  | 65 => ⟨.int .u8, 1, 1, .int .u8 0, []⟩
  | 66 => ⟨.int .u8, 1, 1, .int .u8 0, []⟩
  | 67 => ⟨.func, 1, 8, .nilFunc, []⟩
  | 68 => ⟨.ptr 5, 1, 8, .nilptr, []⟩
  | 69 => ⟨.int .i32, 1, 4, .int .i32 0, []⟩
  | 70 => ⟨.int .i32, 1, 4, .int .i32 0, []⟩
  | 71 => ⟨.struct [(0, 12), (1, 12), (2, 64), (3, 65), (4, 5), (5, 5), (6, 66), (7, 67), (8, 68), (9, 69), (10, 70)], 11, 48, .agg [.int .u64 0, .int .u64 0, .int .u32 0, .int .u8 0, .int .u8 0, .int .u8 0, .int .u8 0, .nilFunc, .nilptr, .int .i32 0, .int .i32 0], []⟩
  | 72 => ⟨.struct [(0, 12), (1, 12), (2, 64), (3, 65), (4, 5), (5, 5), (6, 66), (7, 67), (8, 68), (9, 69), (10, 70)], 11, 48, .agg [.int .u64 0, .int .u64 0, .int .u32 0, .int .u8 0, .int .u8 0, .int .u8 0, .int .u8 0, .nilFunc, .nilptr, .int .i32 0, .int .i32 0], []⟩
  | 73 => ⟨.func, 1, 8, .nilFunc, []⟩
  | 74 => ⟨.func, 1, 8, .nilFunc, []⟩
  | 75 => ⟨.func, 1, 8, .nilFunc, []⟩
  | 76 => ⟨.func, 1, 8, .nilFunc, []⟩
  | 77 => ⟨.int .u64, 1, 8, .int .u64 0, []⟩
  | 78 => ⟨.func, 1, 8, .nilFunc, []⟩
  | 79 => ⟨.func, 1, 8, .nilFunc, []⟩
  | 80 => ⟨.func, 1, 8, .nilFunc, []⟩
  | 81 => ⟨.func, 1, 8, .nilFunc, []⟩
  | 82 => ⟨.array 8 5, 8, 8, .agg [.int .u8 0, .int .u8 0, .int .u8 0, .int .u8 0, .int .u8 0, .int .u8 0, .int .u8 0, .int .u8 0], []⟩
  | _ => ⟨.other, 0, 0, .undef, []⟩
theorem tt1 : TIok Try.prog 1 (tt 1) := ⟨⟨_, _, _, Try.underlying1⟩, ⟨Try.t1, by kernel_rfl, by kernel_rfl, by kernel_rfl, .nilFunc, by kernel_rfl, zFunc⟩, fun h => absurd rfl h⟩
theorem tt2 : TIok Try.prog 2 (tt 2) := ⟨Try.underlying2, ⟨Try.t2, by kernel_rfl, by kernel_rfl, by kernel_rfl, .int .i64 0, by kernel_rfl, zInt⟩, fun h => absurd rfl h⟩
theorem tt3 : TIok Try.prog 3 (tt 3) := ⟨Try.underlying3, ⟨Try.t3, by kernel_rfl, by kernel_rfl, by kernel_rfl, .int .i64 0, by kernel_rfl, zInt⟩, fun h => absurd rfl h⟩
theorem tt4 : TIok Try.prog 4 (tt 4) := ⟨Try.underlying4, ⟨Try.t4, by kernel_rfl, by kernel_rfl, by kernel_rfl, .bool false, by kernel_rfl, zBool⟩, fun h => absurd rfl h⟩
theorem tt5 : TIok Try.prog 5 (tt 5) := ⟨Try.underlying5, ⟨Try.t5, by kernel_rfl, by kernel_rfl, by kernel_rfl, .int .u8 0, by kernel_rfl, zInt⟩, fun h => absurd rfl h⟩
theorem tt6 : TIok Try.prog 6 (tt 6) := ⟨Try.underlying6, ⟨Try.t6, by kernel_rfl, by kernel_rfl, by kernel_rfl, .int .u8 0, by kernel_rfl, zInt⟩, fun h => absurd rfl h⟩
theorem tt7 : TIok Try.prog 7 (tt 7) := ⟨⟨_, Try.underlying7, by kernel_rfl, by kernel_rfl⟩, ⟨Try.t7, by kernel_rfl, by kernel_rfl, by kernel_rfl, .agg #[.int .i64 0, .int .i64 0, .bool false, .int .u8 0], by kernel_rfl, zAgg (zCons zInt (zCons zInt (zCons zBool (zCons zInt zNil))))⟩, fun h => absurd rfl h⟩
theorem tt8 : TIok Try.prog 8 (tt 8) := ⟨⟨_, Try.underlying8, by kernel_rfl, by kernel_rfl⟩, ⟨Try.t8, by kernel_rfl, by kernel_rfl, by kernel_rfl, .agg #[.int .i64 0, .int .i64 0, .bool false, .int .u8 0], by kernel_rfl, zAgg (zCons zInt (zCons zInt (zCons zBool (zCons zInt zNil))))⟩, fun h => absurd rfl h⟩
theorem tt9 : TIok Try.prog 9 (tt 9) := ⟨Try.underlying9, ⟨Try.t9, by kernel_rfl, by kernel_rfl, by kernel_rfl, .string ⟨#[]⟩, by kernel_rfl, zStr⟩, fun h => absurd rfl h⟩
theorem tt10 : TIok Try.prog 10 (tt 10) := ⟨Try.underlying10, ⟨Try.t10, by kernel_rfl, by kernel_rfl, by kernel_rfl, .string ⟨#[]⟩, by kernel_rfl, zStr⟩, fun h => absurd rfl h⟩
theorem tt11 : TIok Try.prog 11 (tt 11) := ⟨Try.underlying11, ⟨Try.t11, by kernel_rfl, by kernel_rfl, by kernel_rfl, .string ⟨#[]⟩, by kernel_rfl, zStr⟩, fun h => absurd rfl h⟩
theorem tt12 : TIok Try.prog 12 (tt 12) := ⟨Try.underlying12, ⟨Try.t12, by kernel_rfl, by kernel_rfl, by kernel_rfl, .int .u64 0, by kernel_rfl, zInt⟩, fun h => absurd rfl h⟩
theorem tt13 : TIok Try.prog 13 (tt 13) := ⟨⟨_, Try.underlying13, by kernel_rfl, by kernel_rfl⟩, ⟨Try.t13, by kernel_rfl, by kernel_rfl, by kernel_rfl, .agg #[.string ⟨#[]⟩, .int .u64 0], by kernel_rfl, zAgg (zCons zStr (zCons zInt zNil))⟩, fun h => absurd rfl h⟩
theorem tt14 : TIok Try.prog 14 (tt 14) := ⟨⟨_, Try.underlying14, by kernel_rfl, by kernel_rfl⟩, ⟨Try.t14, by kernel_rfl, by kernel_rfl, by kernel_rfl, .agg #[.string ⟨#[]⟩, .int .u64 0], by kernel_rfl, zAgg (zCons zStr (zCons zInt zNil))⟩, fun h => absurd rfl h⟩
theorem tt15 : TIok Try.prog 15 (tt 15) := ⟨Try.underlying15, ⟨Try.t15, by kernel_rfl, by kernel_rfl, by kernel_rfl, .pointer none, by kernel_rfl, zPtr⟩, fun h => absurd rfl h⟩
theorem tt16 : TIok Try.prog 16 (tt 16) := ⟨Try.underlying16, ⟨Try.t16, by kernel_rfl, by kernel_rfl, by kernel_rfl, .pointer none, by kernel_rfl, zPtr⟩, fun h => absurd rfl h⟩
theorem tt17 : TIok Try.prog 17 (tt 17) := ⟨Try.underlying17, ⟨Try.t17, by kernel_rfl, by kernel_rfl, by kernel_rfl, .pointer none, by kernel_rfl, zPtr⟩, fun h => absurd rfl h⟩
theorem tt18 : TIok Try.prog 18 (tt 18) := ⟨⟨_, Try.underlying18, by kernel_rfl, by kernel_rfl⟩, ⟨Try.t18, by kernel_rfl, by kernel_rfl, by kernel_rfl, .agg #[.pointer none], by kernel_rfl, zAgg (zCons zPtr zNil)⟩, fun h => absurd rfl h⟩
theorem tt19 : TIok Try.prog 19 (tt 19) := ⟨⟨_, Try.underlying19, by kernel_rfl, by kernel_rfl⟩, ⟨Try.t19, by kernel_rfl, by kernel_rfl, by kernel_rfl, .agg #[.pointer none], by kernel_rfl, zAgg (zCons zPtr zNil)⟩, fun h => absurd rfl h⟩
theorem tt20 : TIok Try.prog 20 (tt 20) := ⟨⟨_, Try.underlying20⟩, ⟨Try.t20, by kernel_rfl, by kernel_rfl, by kernel_rfl, .nilIface, by kernel_rfl, zIface⟩, fun h => absurd rfl h⟩
theorem tt21 : TIok Try.prog 21 (tt 21) := ⟨Try.underlying21, ⟨Try.t21, by kernel_rfl, by kernel_rfl, by kernel_rfl, .int .i32 0, by kernel_rfl, zInt⟩, fun h => absurd rfl h⟩
theorem tt22 : TIok Try.prog 22 (tt 22) := ⟨⟨_, _, _, Try.underlying22⟩, ⟨Try.t22, by kernel_rfl, by kernel_rfl, by kernel_rfl, .nilFunc, by kernel_rfl, zFunc⟩, fun h => absurd rfl h⟩
theorem tt23 : TIok Try.prog 23 (tt 23) := ⟨Try.underlying23, ⟨Try.t23, by kernel_rfl, by kernel_rfl, by kernel_rfl, .pointer none, by kernel_rfl, zPtr⟩, fun h => absurd rfl h⟩
theorem tt24 : TIok Try.prog 24 (tt 24) := ⟨⟨_, _, _, Try.underlying24⟩, ⟨Try.t24, by kernel_rfl, by kernel_rfl, by kernel_rfl, .nilFunc, by kernel_rfl, zFunc⟩, fun h => absurd rfl h⟩
theorem tt25 : TIok Try.prog 25 (tt 25) := ⟨⟨_, _, _, Try.underlying25⟩, ⟨Try.t25, by kernel_rfl, by kernel_rfl, by kernel_rfl, .nilFunc, by kernel_rfl, zFunc⟩, fun h => absurd rfl h⟩
theorem tt26 : TIok Try.prog 26 (tt 26) := ⟨⟨_, _, _, Try.underlying26⟩, ⟨Try.t26, by kernel_rfl, by kernel_rfl, by kernel_rfl, .nilFunc, by kernel_rfl, zFunc⟩, fun h => absurd rfl h⟩
theorem tt27 : TIok Try.prog 27 (tt 27) := ⟨⟨_, _, _, Try.underlying27⟩, ⟨Try.t27, by kernel_rfl, by kernel_rfl, by kernel_rfl, .nilFunc, by kernel_rfl, zFunc⟩, fun h => absurd rfl h⟩
theorem tt28 : TIok Try.prog 28 (tt 28) := ⟨⟨_, _, _, Try.underlying28⟩, ⟨Try.t28, by kernel_rfl, by kernel_rfl, by kernel_rfl, .nilFunc, by kernel_rfl, zFunc⟩, fun h => absurd rfl h⟩
theorem tt29 : TIok Try.prog 29 (tt 29) := ⟨⟨_, _, _, Try.underlying29⟩, ⟨Try.t29, by kernel_rfl, by kernel_rfl, by kernel_rfl, .nilFunc, by kernel_rfl, zFunc⟩, fun h => absurd rfl h⟩
theorem tt30 : TIok Try.prog 30 (tt 30) := ⟨Try.underlying30, ⟨Try.t30, by kernel_rfl, by kernel_rfl, by kernel_rfl, .int .u64 0, by kernel_rfl, zInt⟩, fun h => absurd rfl h⟩
theorem tt31 : TIok Try.prog 31 (tt 31) := ⟨⟨_, Try.underlying31, by kernel_rfl, by kernel_rfl⟩, ⟨Try.t31, by kernel_rfl, by kernel_rfl, by kernel_rfl, .agg #[.int .u8 0, .int .i64 0, .int .i64 0, .int .u64 0, .string ⟨#[]⟩], by kernel_rfl, zAgg (zCons zInt (zCons zInt (zCons zInt (zCons zInt (zCons zStr zNil)))))⟩, fun h => feq_of h (by kernel_rfl) (by kernel_rfl) (by kernel_rfl) (by kernel_rfl)⟩
theorem tt32 : TIok Try.prog 32 (tt 32) := ⟨⟨_, Try.underlying32, by kernel_rfl, by kernel_rfl⟩, ⟨Try.t32, by kernel_rfl, by kernel_rfl, by kernel_rfl, .agg #[.int .u8 0, .int .i64 0, .int .i64 0, .int .u64 0, .string ⟨#[]⟩], by kernel_rfl, zAgg (zCons zInt (zCons zInt (zCons zInt (zCons zInt (zCons zStr zNil)))))⟩, fun h => feq_of h (by kernel_rfl) (by kernel_rfl) (by kernel_rfl) (by kernel_rfl)⟩
theorem tt33 : TIok Try.prog 33 (tt 33) := ⟨⟨_, _, _, Try.underlying33⟩, ⟨Try.t33, by kernel_rfl, by kernel_rfl, by kernel_rfl, .nilFunc, by kernel_rfl, zFunc⟩, fun h => absurd rfl h⟩
theorem tt34 : TIok Try.prog 34 (tt 34) := ⟨⟨_, _, _, Try.underlying34⟩, ⟨Try.t34, by kernel_rfl, by kernel_rfl, by kernel_rfl, .nilFunc, by kernel_rfl, zFunc⟩, fun h => absurd rfl h⟩
theorem tt35 : TIok Try.prog 35 (tt 35) := ⟨⟨_, _, _, Try.underlying35⟩, ⟨Try.t35, by kernel_rfl, by kernel_rfl, by kernel_rfl, .nilFunc, by kernel_rfl, zFunc⟩, fun h => absurd rfl h⟩
theorem tt36 : TIok Try.prog 36 (tt 36) := ⟨Try.underlying36, ⟨Try.t36, by kernel_rfl, by kernel_rfl, by kernel_rfl, .slice none 0 0, by kernel_rfl, zList⟩, fun h => absurd rfl h⟩
theorem tt37 : TIok Try.prog 37 (tt 37) := ⟨⟨_, _, _, Try.underlying37⟩, ⟨Try.t37, by kernel_rfl, by kernel_rfl, by kernel_rfl, .nilFunc, by kernel_rfl, zFunc⟩, fun h => absurd rfl h⟩
theorem tt38 : TIok Try.prog 38 (tt 38) := ⟨Try.underlying38, ⟨Try.t38, by kernel_rfl, by kernel_rfl, by kernel_rfl, .slice none 0 0, by kernel_rfl, zList⟩, fun h => absurd rfl h⟩
theorem tt39 : TIok Try.prog 39 (tt 39) := ⟨⟨_, Try.underlying39, by kernel_rfl, by kernel_rfl⟩, ⟨Try.t39, by kernel_rfl, by kernel_rfl, by kernel_rfl, .agg #[.slice none 0 0, .int .i64 0], by kernel_rfl, zAgg (zCons zList (zCons zInt zNil))⟩, fun h => absurd rfl h⟩
theorem tt40 : TIok Try.prog 40 (tt 40) := ⟨⟨_, Try.underlying40, by kernel_rfl, by kernel_rfl⟩, ⟨Try.t40, by kernel_rfl, by kernel_rfl, by kernel_rfl, .agg #[.slice none 0 0, .int .i64 0], by kernel_rfl, zAgg (zCons zList (zCons zInt zNil))⟩, fun h => absurd rfl h⟩
theorem tt41 : TIok Try.prog 41 (tt 41) := ⟨⟨_, Try.underlying41, by kernel_rfl, by kernel_rfl⟩, ⟨Try.t41, by kernel_rfl, by kernel_rfl, by kernel_rfl, .agg #[.int .i64 0, .int .i64 0], by kernel_rfl, zAgg (zCons zInt (zCons zInt zNil))⟩, fun h => feq_of h (by kernel_rfl) (by kernel_rfl) (by kernel_rfl) (by kernel_rfl)⟩
theorem tt42 : TIok Try.prog 42 (tt 42) := ⟨⟨_, Try.underlying42, by kernel_rfl, by kernel_rfl⟩, ⟨Try.t42, by kernel_rfl, by kernel_rfl, by kernel_rfl, .agg #[.int .i64 0, .int .i64 0], by kernel_rfl, zAgg (zCons zInt (zCons zInt zNil))⟩, fun h => feq_of h (by kernel_rfl) (by kernel_rfl) (by kernel_rfl) (by kernel_rfl)⟩
theorem tt43 : TIok Try.prog 43 (tt 43) := ⟨⟨_, _, _, Try.underlying43⟩, ⟨Try.t43, by kernel_rfl, by kernel_rfl, by kernel_rfl, .nilFunc, by kernel_rfl, zFunc⟩, fun h => absurd rfl h⟩
theorem tt44 : TIok Try.prog 44 (tt 44) := ⟨⟨_, Try.underlying44, by kernel_rfl, by kernel_rfl⟩, ⟨Try.t44, by kernel_rfl, by kernel_rfl, by kernel_rfl, .agg #[.int .i64 0, .int .i64 0, .pointer none, .int .i64 0], by kernel_rfl, zAgg (zCons zInt (zCons zInt (zCons zPtr (zCons zInt zNil))))⟩, fun h => absurd rfl h⟩
theorem tt45 : TIok Try.prog 45 (tt 45) := ⟨⟨_, Try.underlying45, by kernel_rfl, by kernel_rfl⟩, ⟨Try.t45, by kernel_rfl, by kernel_rfl, by kernel_rfl, .agg #[.int .i64 0, .int .i64 0, .pointer none, .int .i64 0], by kernel_rfl, zAgg (zCons zInt (zCons zInt (zCons zPtr (zCons zInt zNil))))⟩, fun h => absurd rfl h⟩
theorem tt46 : TIok Try.prog 46 (tt 46) := ⟨⟨_, _, _, Try.underlying46⟩, ⟨Try.t46, by kernel_rfl, by kernel_rfl, by kernel_rfl, .nilFunc, by kernel_rfl, zFunc⟩, fun h => absurd rfl h⟩
theorem tt47 : TIok Try.prog 47 (tt 47) := ⟨⟨_, _, _, Try.underlying47⟩, ⟨Try.t47, by kernel_rfl, by kernel_rfl, by kernel_rfl, .nilFunc, by kernel_rfl, zFunc⟩, fun h => absurd rfl h⟩
theorem tt48 : TIok Try.prog 48 (tt 48) := ⟨⟨_, Try.underlying48, by kernel_rfl, by kernel_rfl⟩, ⟨Try.t48, by kernel_rfl, by kernel_rfl, by kernel_rfl, .agg #[.int .i64 0, .int .i64 0, .int .u64 0, .string ⟨#[]⟩], by kernel_rfl, zAgg (zCons zInt (zCons zInt (zCons zInt (zCons zStr zNil))))⟩, fun h => feq_of h (by kernel_rfl) (by kernel_rfl) (by kernel_rfl) (by kernel_rfl)⟩
theorem tt49 : TIok Try.prog 49 (tt 49) := ⟨⟨_, Try.underlying49, by kernel_rfl, by kernel_rfl⟩, ⟨Try.t49, by kernel_rfl, by kernel_rfl, by kernel_rfl, .agg #[.int .i64 0, .int .i64 0, .int .u64 0, .string ⟨#[]⟩], by kernel_rfl, zAgg (zCons zInt (zCons zInt (zCons zInt (zCons zStr zNil))))⟩, fun h => feq_of h (by kernel_rfl) (by kernel_rfl) (by kernel_rfl) (by kernel_rfl)⟩
theorem tt50 : TIok Try.prog 50 (tt 50) := ⟨⟨_, Try.underlying50⟩, ⟨Try.t50, by kernel_rfl, by kernel_rfl, by kernel_rfl, .nilIface, by kernel_rfl, zIface⟩, fun h => absurd rfl h⟩
theorem tt51 : TIok Try.prog 51 (tt 51) := ⟨⟨_, Try.underlying51⟩, ⟨Try.t51, by kernel_rfl, by kernel_rfl, by kernel_rfl, .nilIface, by kernel_rfl, zIface⟩, fun h => absurd rfl h⟩
theorem tt52 : TIok Try.prog 52 (tt 52) := ⟨⟨_, _, _, Try.underlying52⟩, ⟨Try.t52, by kernel_rfl, by kernel_rfl, by kernel_rfl, .nilFunc, by kernel_rfl, zFunc⟩, fun h => absurd rfl h⟩
theorem tt53 : TIok Try.prog 53 (tt 53) := ⟨⟨_, Try.underlying53, by kernel_rfl, by kernel_rfl⟩, ⟨Try.t53, by kernel_rfl, by kernel_rfl, by kernel_rfl, .agg #[.int .i64 0, .int .i64 0, .int .u64 0, .string ⟨#[]⟩], by kernel_rfl, zAgg (zCons zInt (zCons zInt (zCons zInt (zCons zStr zNil))))⟩, fun h => feq_of h (by kernel_rfl) (by kernel_rfl) (by kernel_rfl) (by kernel_rfl)⟩
theorem tt54 : TIok Try.prog 54 (tt 54) := ⟨⟨_, _, _, Try.underlying54⟩, ⟨Try.t54, by kernel_rfl, by kernel_rfl, by kernel_rfl, .nilFunc, by kernel_rfl, zFunc⟩, fun h => absurd rfl h⟩
theorem tt55 : TIok Try.prog 55 (tt 55) := ⟨⟨_, _, _, Try.underlying55⟩, ⟨Try.t55, by kernel_rfl, by kernel_rfl, by kernel_rfl, .nilFunc, by kernel_rfl, zFunc⟩, fun h => absurd rfl h⟩
theorem tt56 : TIok Try.prog 56 (tt 56) := ⟨⟨_, _, _, Try.underlying56⟩, ⟨Try.t56, by kernel_rfl, by kernel_rfl, by kernel_rfl, .nilFunc, by kernel_rfl, zFunc⟩, fun h => absurd rfl h⟩
theorem tt57 : TIok Try.prog 57 (tt 57) := ⟨⟨_, Try.underlying57, by kernel_rfl, by kernel_rfl⟩, ⟨Try.t57, by kernel_rfl, by kernel_rfl, by kernel_rfl, .agg #[.int .i64 0, .int .i64 0, .int .u64 0, .string ⟨#[]⟩], by kernel_rfl, zAgg (zCons zInt (zCons zInt (zCons zInt (zCons zStr zNil))))⟩, fun h => feq_of h (by kernel_rfl) (by kernel_rfl) (by kernel_rfl) (by kernel_rfl)⟩
theorem tt58 : TIok Try.prog 58 (tt 58) := ⟨⟨_, Try.underlying58, by kernel_rfl, by kernel_rfl⟩, ⟨Try.t58, by kernel_rfl, by kernel_rfl, by kernel_rfl, .agg #[.int .i64 0, .int .i64 0, .int .u64 0, .string ⟨#[]⟩], by kernel_rfl, zAgg (zCons zInt (zCons zInt (zCons zInt (zCons zStr zNil))))⟩, fun h => feq_of h (by kernel_rfl) (by kernel_rfl) (by kernel_rfl) (by kernel_rfl)⟩
theorem tt59 : TIok Try.prog 59 (tt 59) := ⟨⟨_, Try.underlying59, by kernel_rfl, by kernel_rfl⟩, ⟨Try.t59, by kernel_rfl, by kernel_rfl, by kernel_rfl, .agg #[.pointer none, .pointer none, .pointer none, .string ⟨#[]⟩], by kernel_rfl, zAgg (zCons zPtr (zCons zPtr (zCons zPtr (zCons zStr zNil))))⟩, fun h => absurd rfl h⟩
theorem tt60 : TIok Try.prog 60 (tt 60) := ⟨⟨_, Try.underlying60, by kernel_rfl, by kernel_rfl⟩, ⟨Try.t60, by kernel_rfl, by kernel_rfl, by kernel_rfl, .agg #[.pointer none, .pointer none, .pointer none, .string ⟨#[]⟩], by kernel_rfl, zAgg (zCons zPtr (zCons zPtr (zCons zPtr (zCons zStr zNil))))⟩, fun h => absurd rfl h⟩
theorem tt64 : TIok Try.prog 64 (tt 64) := ⟨Try.underlying64, ⟨Try.t64, by kernel_rfl, by kernel_rfl, by kernel_rfl, .int .u32 0, by kernel_rfl, zInt⟩, fun h => absurd rfl h⟩
theorem tt65 : TIok Try.prog 65 (tt 65) := ⟨Try.underlying65, ⟨Try.t65, by kernel_rfl, by kernel_rfl, by kernel_rfl, .int .u8 0, by kernel_rfl, zInt⟩, fun h => absurd rfl h⟩
theorem tt66 : TIok Try.prog 66 (tt 66) := ⟨Try.underlying66, ⟨Try.t66, by kernel_rfl, by kernel_rfl, by kernel_rfl, .int .u8 0, by kernel_rfl, zInt⟩, fun h => absurd rfl h⟩
theorem tt67 : TIok Try.prog 67 (tt 67) := ⟨⟨_, _, _, Try.underlying67⟩, ⟨Try.t67, by kernel_rfl, by kernel_rfl, by kernel_rfl, .nilFunc, by kernel_rfl, zFunc⟩, fun h => absurd rfl h⟩
theorem tt68 : TIok Try.prog 68 (tt 68) := ⟨Try.underlying68, ⟨Try.t68, by kernel_rfl, by kernel_rfl, by kernel_rfl, .pointer none, by kernel_rfl, zPtr⟩, fun h => absurd rfl h⟩
theorem tt69 : TIok Try.prog 69 (tt 69) := ⟨Try.underlying69, ⟨Try.t69, by kernel_rfl, by kernel_rfl, by kernel_rfl, .int .i32 0, by kernel_rfl, zInt⟩, fun h => absurd rfl h⟩
theorem tt70 : TIok Try.prog 70 (tt 70) := ⟨Try.underlying70, ⟨Try.t70, by kernel_rfl, by kernel_rfl, by kernel_rfl, .int .i32 0, by kernel_rfl, zInt⟩, fun h => absurd rfl h⟩
theorem tt71 : TIok Try.prog 71 (tt 71) := ⟨⟨_, Try.underlying71, by kernel_rfl, by kernel_rfl⟩, ⟨Try.t71, by kernel_rfl, by kernel_rfl, by kernel_rfl, .agg #[.int .u64 0, .int .u64 0, .int .u32 0, .int .u8 0, .int .u8 0, .int .u8 0, .int .u8 0, .nilFunc, .pointer none, .int .i32 0, .int .i32 0], by kernel_rfl, zAgg (zCons zInt (zCons zInt (zCons zInt (zCons zInt (zCons zInt (zCons zInt (zCons zInt (zCons zFunc (zCons zPtr (zCons zInt (zCons zInt zNil)))))))))))⟩, fun h => absurd rfl h⟩
theorem tt72 : TIok Try.prog 72 (tt 72) := ⟨⟨_, Try.underlying72, by kernel_rfl, by kernel_rfl⟩, ⟨Try.t72, by kernel_rfl, by kernel_rfl, by kernel_rfl, .agg #[.int .u64 0, .int .u64 0, .int .u32 0, .int .u8 0, .int .u8 0, .int .u8 0, .int .u8 0, .nilFunc, .pointer none, .int .i32 0, .int .i32 0], by kernel_rfl, zAgg (zCons zInt (zCons zInt (zCons zInt (zCons zInt (zCons zInt (zCons zInt (zCons zInt (zCons zFunc (zCons zPtr (zCons zInt (zCons zInt zNil)))))))))))⟩, fun h => absurd rfl h⟩
theorem tt73 : TIok Try.prog 73 (tt 73) := ⟨⟨_, _, _, Try.underlying73⟩, ⟨Try.t73, by kernel_rfl, by kernel_rfl, by kernel_rfl, .nilFunc, by kernel_rfl, zFunc⟩, fun h => absurd rfl h⟩
theorem tt74 : TIok Try.prog 74 (tt 74) := ⟨⟨_, _, _, Try.underlying74⟩, ⟨Try.t74, by kernel_rfl, by kernel_rfl, by kernel_rfl, .nilFunc, by kernel_rfl, zFunc⟩, fun h => absurd rfl h⟩
theorem tt75 : TIok Try.prog 75 (tt 75) := ⟨⟨_, _, _, Try.underlying75⟩, ⟨Try.t75, by kernel_rfl, by kernel_rfl, by kernel_rfl, .nilFunc, by kernel_rfl, zFunc⟩, fun h => absurd rfl h⟩
theorem tt76 : TIok Try.prog 76 (tt 76) := ⟨⟨_, _, _, Try.underlying76⟩, ⟨Try.t76, by kernel_rfl, by kernel_rfl, by kernel_rfl, .nilFunc, by kernel_rfl, zFunc⟩, fun h => absurd rfl h⟩
theorem tt77 : TIok Try.prog 77 (tt 77) := ⟨Try.underlying77, ⟨Try.t77, by kernel_rfl, by kernel_rfl, by kernel_rfl, .int .u64 0, by kernel_rfl, zInt⟩, fun h => absurd rfl h⟩
theorem tt78 : TIok Try.prog 78 (tt 78) := ⟨⟨_, _, _, Try.underlying78⟩, ⟨Try.t78, by kernel_rfl, by kernel_rfl, by kernel_rfl, .nilFunc, by kernel_rfl, zFunc⟩, fun h => absurd rfl h⟩
theorem tt79 : TIok Try.prog 79 (tt 79) := ⟨⟨_, _, _, Try.underlying79⟩, ⟨Try.t79, by kernel_rfl, by kernel_rfl, by kernel_rfl, .nilFunc, by kernel_rfl, zFunc⟩, fun h => absurd rfl h⟩
theorem tt80 : TIok Try.prog 80 (tt 80) := ⟨⟨_, _, _, Try.underlying80⟩, ⟨Try.t80, by kernel_rfl, by kernel_rfl, by kernel_rfl, .nilFunc, by kernel_rfl, zFunc⟩, fun h => absurd rfl h⟩
theorem tt81 : TIok Try.prog 81 (tt 81) := ⟨⟨_, _, _, Try.underlying81⟩, ⟨Try.t81, by kernel_rfl, by kernel_rfl, by kernel_rfl, .nilFunc, by kernel_rfl, zFunc⟩, fun h => absurd rfl h⟩
theorem tt82 : TIok Try.prog 82 (tt 82) := ⟨Try.underlying82, ⟨Try.t82, by kernel_rfl, by kernel_rfl, by kernel_rfl, .agg #[.int .u8 0, .int .u8 0, .int .u8 0, .int .u8 0, .int .u8 0, .int .u8 0, .int .u8 0, .int .u8 0], by kernel_rfl, zAgg (zCons zInt (zCons zInt (zCons zInt (zCons zInt (zCons zInt (zCons zInt (zCons zInt (zCons zInt zNil))))))))⟩, fun h => absurd rfl h⟩
theorem tt_ok : ∀ t, TIok Try.prog t (tt t) := fun t => by
  unfold tt
  split
  · exact tt1
  · exact tt2
  · exact tt3
  · exact tt4
  · exact tt5
  · exact tt6
  · exact tt7
  · exact tt8
  · exact tt9
  · exact tt10
  · exact tt11
  · exact tt12
  · exact tt13
  · exact tt14
  · exact tt15
  · exact tt16
  · exact tt17
  · exact tt18
  · exact tt19
  · exact tt20
  · exact tt21
  · exact tt22
  · exact tt23
  · exact tt24
  · exact tt25
  · exact tt26
  · exact tt27
  · exact tt28
  · exact tt29
  · exact tt30
  · exact tt31
  · exact tt32
  · exact tt33
  · exact tt34
  · exact tt35
  · exact tt36
  · exact tt37
  · exact tt38
  · exact tt39
  · exact tt40
  · exact tt41
  · exact tt42
  · exact tt43
  · exact tt44
  · exact tt45
  · exact tt46
  · exact tt47
  · exact tt48
  · exact tt49
  · exact tt50
  · exact tt51
  · exact tt52
  · exact tt53
  · exact tt54
  · exact tt55
  · exact tt56
  · exact tt57
  · exact tt58
  · exact tt59
  · exact tt60
  · exact tt64
  · exact tt65
  · exact tt66
  · exact tt67
  · exact tt68
  · exact tt69
  · exact tt70
  · exact tt71
  · exact tt72
  · exact tt73
  · exact tt74
  · exact tt75
  · exact tt76
  · exact tt77
  · exact tt78
  · exact tt79
  · exact tt80
  · exact tt81
  · exact tt82
  · trivial
def dataTy : TypeId → Bool := fun t => match t with
  | 2 => true
  | 3 => true
  | 4 => true
  | 5 => true
  | 6 => true
  | 7 => true
  | 8 => true
  | 9 => true
  | 10 => true
  | 11 => true
  | 12 => true
  | 13 => true
  | 14 => true
  | 21 => true
  | 30 => true
  | 31 => true
  | 32 => true
  | 36 => true
  | 41 => true
  | 42 => true
  | 48 => true
  | 49 => true
  | 53 => true
  | 57 => true
  | 58 => true
  | 64 => true
  | 65 => true
  | 66 => true
  | 69 => true
  | 70 => true
  | 77 => true
  | 82 => true
  | _ => false
theorem dataOK : DataOK Try.prog tt dataTy where
  tys := tt_ok
  kids := fun t h => by
    unfold dataTy at h; split at h <;> first | (cases h; done) | rfl
  pos := fun t h => by
    unfold dataTy at h; split at h <;> first
      | (cases h; done)
      | exact .inl ⟨_, rfl, by decide⟩
      | (refine .inr (.inr (And.intro ?_ ?_)) <;> (intro e hh; cases hh))
  fields := fun t fs h k => by
    unfold dataTy at h; split at h <;> first
      | (cases h; done)
      | (cases k; rfl)
      | (cases k; done)
  array := fun t m e h k => by
    unfold dataTy at h; split at h <;> first
      | (cases h; done)
      | (cases k; rfl)
      | (cases k; done)
end Go.Proofs.Ytjkbahllghofoaa
