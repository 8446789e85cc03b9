/-
  A part of the proof.
-/
import Derived.Test.YtllncocibkgjkaaDoorVgX
import Derived.Test.YtllncocibkgjkaaDoorVgMA
import Derived.Test.YtllncocibkgjkaaDoorProg
import Derived.KernelRfl
namespace Go.Proofs.YtllncocibkgjkaaDoor
open Go Go.VG
set_option maxRecDepth 100000
def tt : TypeId → TI := fun t => match t with
 | 1 => ⟨.func, 1, 8, .nilFunc, []⟩
 | 2 => ⟨.int .i64, 1, 8, .int .i64 0, []⟩
 | 3 => ⟨.int .i64, 1, 8, .int .i64 0, []⟩
 | 4 => ⟨.bool, 1, 1, .bool false, []⟩
 | 5 => ⟨.int .u8, 1, 1, .int .u8 0, []⟩
 | 6 => ⟨.int .u8, 1, 1, .int .u8 0, []⟩
 | 7 => ⟨.struct [(0, 2), (1, 3), (2, 4), (3, 6)], 4, 24, .agg [.int .i64 0, .int .i64 0, .bool false, .int .u8 0], []⟩
 | 8 => ⟨.struct [(0, 2), (1, 3), (2, 4), (3, 6)], 4, 24, .agg [.int .i64 0, .int .i64 0, .bool false, .int .u8 0], []⟩
 | 9 => ⟨.string, 1, 16, .str [], []⟩
 | 10 => ⟨.string, 1, 16, .str [], []⟩
 | 11 => ⟨.string, 1, 16, .str [], []⟩
 | 12 => ⟨.int .u64, 1, 8, .int .u64 0, []⟩
 | 13 => ⟨.struct [(0, 9), (1, 12)], 2, 24, .agg [.str [], .int .u64 0], []⟩
 | 14 => ⟨.struct [(0, 9), (1, 12)], 2, 24, .agg [.str [], .int .u64 0], []⟩
 | 15 => ⟨.ptr 125, 1, 8, .nilptr, []⟩
 | 16 => ⟨.ptr 128, 1, 8, .nilptr, []⟩
 | 17 => ⟨.ptr 137, 1, 8, .nilptr, []⟩
 | 18 => ⟨.struct [(0, 17)], 1, 8, .agg [.nilptr], []⟩
 | 19 => ⟨.struct [(0, 17)], 1, 8, .agg [.nilptr], []⟩
 | 20 => ⟨.iface, 1, 16, .nilIface, []⟩
 | 21 => ⟨.int .i32, 1, 4, .int .i32 0, []⟩
 | 22 => ⟨.int .u64, 1, 8, .int .u64 0, []⟩
 | 23 => ⟨.slice 26, 1, 24, .list true 0 [], []⟩
 | 24 => ⟨.slice 56, 1, 24, .list true 0 [], []⟩
 | 25 => ⟨.struct [(0, 5), (1, 9), (2, 3), (3, 22), (4, 23), (5, 24)], 6, 88, .agg [.int .u8 0, .str [], .int .i64 0, .int .u64 0, .list true 0 [], .list true 0 []], []⟩
 | 26 => ⟨.struct [(0, 5), (1, 9), (2, 3), (3, 22), (4, 23), (5, 24)], 6, 88, .agg [.int .u8 0, .str [], .int .i64 0, .int .u64 0, .list true 0 [], .list true 0 []], []⟩
 | 28 => ⟨.int .i64, 1, 8, .int .i64 0, []⟩
 | 31 => ⟨.slice 67, 1, 24, .list true 0 [], []⟩
 | 36 => ⟨.slice 5, 1, 24, .list true 0 [], []⟩
 | 40 => ⟨.func, 1, 8, .nilFunc, []⟩
 | 43 => ⟨.ptr 47, 1, 8, .nilptr, []⟩
 | 44 => ⟨.ptr 65, 1, 8, .nilptr, []⟩
 | 46 => ⟨.struct [(0, 44), (1, 31)], 2, 32, .agg [.nilptr, .list true 0 []], []⟩
 | 47 => ⟨.struct [(0, 44), (1, 31)], 2, 32, .agg [.nilptr, .list true 0 []], []⟩
 | 48 => ⟨.int .i64, 1, 8, .int .i64 0, []⟩
 | 51 => ⟨.struct [(0, 5), (1, 9)], 2, 24, .agg [.int .u8 0, .str []], [.kI .u8, .kS]⟩
 | 52 => ⟨.struct [(0, 5), (1, 9)], 2, 24, .agg [.int .u8 0, .str []], [.kI .u8, .kS]⟩
 | 55 => ⟨.struct [(0, 9), (1, 26)], 7, 104, .agg [.str [], .int .u8 0, .str [], .int .i64 0, .int .u64 0, .list true 0 [], .list true 0 []], []⟩
 | 56 => ⟨.struct [(0, 9), (1, 26)], 7, 104, .agg [.str [], .int .u8 0, .str [], .int .i64 0, .int .u64 0, .list true 0 [], .list true 0 []], []⟩
 | 62 => ⟨.string, 1, 16, .str [], []⟩
 | 63 => ⟨.string, 1, 16, .str [], []⟩
 | 64 => ⟨.struct [(0, 9), (1, 3), (2, 3), (3, 28)], 4, 40, .agg [.str [], .int .i64 0, .int .i64 0, .int .i64 0], [.kS, .kI .i64, .kI .i64, .kI .i64]⟩
 | 65 => ⟨.struct [(0, 9), (1, 3), (2, 3), (3, 28)], 4, 40, .agg [.str [], .int .i64 0, .int .i64 0, .int .i64 0], [.kS, .kI .i64, .kI .i64, .kI .i64]⟩
 | 66 => ⟨.struct [(0, 5), (1, 9), (2, 9), (3, 3)], 4, 48, .agg [.int .u8 0, .str [], .str [], .int .i64 0], [.kI .u8, .kS, .kS, .kI .i64]⟩
 | 67 => ⟨.struct [(0, 5), (1, 9), (2, 9), (3, 3)], 4, 48, .agg [.int .u8 0, .str [], .str [], .int .i64 0], [.kI .u8, .kS, .kS, .kI .i64]⟩
 | 72 => ⟨.slice 26, 1, 24, .list true 0 [], []⟩
 | 73 => ⟨.slice 56, 1, 24, .list true 0 [], []⟩
 | 75 => ⟨.slice 3, 1, 24, .list true 0 [], []⟩
 | 83 => ⟨.map 9 3, 1, 8, .nilmap, [.kS]⟩
 | 88 => ⟨.func, 1, 8, .nilFunc, []⟩
 | 103 => ⟨.ptr 105, 1, 8, .nilptr, []⟩
 | 104 => ⟨.struct [(0, 44), (1, 36)], 2, 32, .agg [.nilptr, .list true 0 []], []⟩
 | 105 => ⟨.struct [(0, 44), (1, 36)], 2, 32, .agg [.nilptr, .list true 0 []], []⟩
 | 106 => ⟨.ptr 108, 1, 8, .nilptr, []⟩
 | 107 => ⟨.struct [(0, 44), (1, 36)], 2, 32, .agg [.nilptr, .list true 0 []], []⟩
 | 108 => ⟨.struct [(0, 44), (1, 36)], 2, 32, .agg [.nilptr, .list true 0 []], []⟩
 | 109 => ⟨.array 20 5, 20, 20, .agg [.int .u8 0, .int .u8 0, .int .u8 0, .int .u8 0, .int .u8 0, .int .u8 0, .int .u8 0, .int .u8 0, .int .u8 0, .int .u8 0, .int .u8 0, .int .u8 0, .int .u8 0, .int .u8 0, .int .u8 0, .int .u8 0, .int .u8 0, .int .u8 0, .int .u8 0, .int .u8 0], []⟩
 | 110 => ⟨.array 8 5, 8, 8, .agg [.int .u8 0, .int .u8 0, .int .u8 0, .int .u8 0, .int .u8 0, .int .u8 0, .int .u8 0, .int .u8 0], []⟩
 | 111 => ⟨.int .u64, 1, 8, .int .u64 0, []⟩
 | 124 => ⟨.struct [(0, 17), (1, 17), (2, 17), (3, 9)], 4, 40, .agg [.nilptr, .nilptr, .nilptr, .str []], []⟩
 | 125 => ⟨.struct [(0, 17), (1, 17), (2, 17), (3, 9)], 4, 40, .agg [.nilptr, .nilptr, .nilptr, .str []], []⟩
 | 129 => ⟨.int .u32, 1, 4, .int .u32 0, []⟩
 | 130 => ⟨.int .u8, 1, 1, .int .u8 0, []⟩
 | 131 => ⟨.int .u8, 1, 1, .int .u8 0, []⟩
 | 132 => ⟨.func, 1, 8, .nilFunc, []⟩
 | 133 => ⟨.ptr 5, 1, 8, .nilptr, []⟩
 | 134 => ⟨.int .i32, 1, 4, .int .i32 0, []⟩
 | 135 => ⟨.int .i32, 1, 4, .int .i32 0, []⟩
 | 136 => ⟨.struct [(0, 12), (1, 12), (2, 129), (3, 130), (4, 5), (5, 5), (6, 131), (7, 132), (8, 133), (9, 134), (10, 135)], 11, 48, .agg [.int .u64 0, .int .u64 0, .int .u32 0, .int .u8 0, .int .u8 0, .int .u8 0, .int .u8 0, .nilFunc, .nilptr, .int .i32 0, .int .i32 0], []⟩
 | 137 => ⟨.struct [(0, 12), (1, 12), (2, 129), (3, 130), (4, 5), (5, 5), (6, 131), (7, 132), (8, 133), (9, 134), (10, 135)], 11, 48, .agg [.int .u64 0, .int .u64 0, .int .u32 0, .int .u8 0, .int .u8 0, .int .u8 0, .int .u8 0, .nilFunc, .nilptr, .int .i32 0, .int .i32 0], []⟩
 | _ => ⟨.other, 0, 0, .undef, []⟩
theorem tt1 : aR Tryd.prog 1 (tt 1) := ⟨⟨_, _, _, Tryd.underlying1⟩, ⟨Tryd.t1, by kernel_rfl, by kernel_rfl, by kernel_rfl, .nilFunc, by kernel_rfl, oY⟩, fun h => absurd rfl h⟩
theorem tt2 : aR Tryd.prog 2 (tt 2) := ⟨Tryd.underlying2, ⟨Tryd.t2, by kernel_rfl, by kernel_rfl, by kernel_rfl, .int .i64 0, by kernel_rfl, aF⟩, fun h => absurd rfl h⟩
theorem tt3 : aR Tryd.prog 3 (tt 3) := ⟨Tryd.underlying3, ⟨Tryd.t3, by kernel_rfl, by kernel_rfl, by kernel_rfl, .int .i64 0, by kernel_rfl, aF⟩, fun h => absurd rfl h⟩
theorem tt4 : aR Tryd.prog 4 (tt 4) := ⟨Tryd.underlying4, ⟨Tryd.t4, by kernel_rfl, by kernel_rfl, by kernel_rfl, .bool false, by kernel_rfl, xp⟩, fun h => absurd rfl h⟩
theorem tt5 : aR Tryd.prog 5 (tt 5) := ⟨Tryd.underlying5, ⟨Tryd.t5, by kernel_rfl, by kernel_rfl, by kernel_rfl, .int .u8 0, by kernel_rfl, aF⟩, fun h => absurd rfl h⟩
theorem tt6 : aR Tryd.prog 6 (tt 6) := ⟨Tryd.underlying6, ⟨Tryd.t6, by kernel_rfl, by kernel_rfl, by kernel_rfl, .int .u8 0, by kernel_rfl, aF⟩, fun h => absurd rfl h⟩
theorem tt7 : aR Tryd.prog 7 (tt 7) := ⟨⟨_, Tryd.underlying7, by kernel_rfl, by kernel_rfl⟩, ⟨Tryd.t7, by kernel_rfl, by kernel_rfl, by kernel_rfl, .agg #[.int .i64 0, .int .i64 0, .bool false, .int .u8 0], by kernel_rfl, dt (al aF (al aF (al xp (al aF du))))⟩, fun h => absurd rfl h⟩
theorem tt8 : aR Tryd.prog 8 (tt 8) := ⟨⟨_, Tryd.underlying8, by kernel_rfl, by kernel_rfl⟩, ⟨Tryd.t8, by kernel_rfl, by kernel_rfl, by kernel_rfl, .agg #[.int .i64 0, .int .i64 0, .bool false, .int .u8 0], by kernel_rfl, dt (al aF (al aF (al xp (al aF du))))⟩, fun h => absurd rfl h⟩
theorem tt9 : aR Tryd.prog 9 (tt 9) := ⟨Tryd.underlying9, ⟨Tryd.t9, by kernel_rfl, by kernel_rfl, by kernel_rfl, .string ⟨#[]⟩, by kernel_rfl, eF⟩, fun h => absurd rfl h⟩
theorem tt10 : aR Tryd.prog 10 (tt 10) := ⟨Tryd.underlying10, ⟨Tryd.t10, by kernel_rfl, by kernel_rfl, by kernel_rfl, .string ⟨#[]⟩, by kernel_rfl, eF⟩, fun h => absurd rfl h⟩
theorem tt11 : aR Tryd.prog 11 (tt 11) := ⟨Tryd.underlying11, ⟨Tryd.t11, by kernel_rfl, by kernel_rfl, by kernel_rfl, .string ⟨#[]⟩, by kernel_rfl, eF⟩, fun h => absurd rfl h⟩
theorem tt12 : aR Tryd.prog 12 (tt 12) := ⟨Tryd.underlying12, ⟨Tryd.t12, by kernel_rfl, by kernel_rfl, by kernel_rfl, .int .u64 0, by kernel_rfl, aF⟩, fun h => absurd rfl h⟩
theorem tt13 : aR Tryd.prog 13 (tt 13) := ⟨⟨_, Tryd.underlying13, by kernel_rfl, by kernel_rfl⟩, ⟨Tryd.t13, by kernel_rfl, by kernel_rfl, by kernel_rfl, .agg #[.string ⟨#[]⟩, .int .u64 0], by kernel_rfl, dt (al eF (al aF du))⟩, fun h => absurd rfl h⟩
theorem tt14 : aR Tryd.prog 14 (tt 14) := ⟨⟨_, Tryd.underlying14, by kernel_rfl, by kernel_rfl⟩, ⟨Tryd.t14, by kernel_rfl, by kernel_rfl, by kernel_rfl, .agg #[.string ⟨#[]⟩, .int .u64 0], by kernel_rfl, dt (al eF (al aF du))⟩, fun h => absurd rfl h⟩
theorem tt15 : aR Tryd.prog 15 (tt 15) := ⟨Tryd.underlying15, ⟨Tryd.t15, by kernel_rfl, by kernel_rfl, by kernel_rfl, .pointer none, by kernel_rfl, ep⟩, fun h => absurd rfl h⟩
theorem tt16 : aR Tryd.prog 16 (tt 16) := ⟨Tryd.underlying16, ⟨Tryd.t16, by kernel_rfl, by kernel_rfl, by kernel_rfl, .pointer none, by kernel_rfl, ep⟩, fun h => absurd rfl h⟩
theorem tt17 : aR Tryd.prog 17 (tt 17) := ⟨Tryd.underlying17, ⟨Tryd.t17, by kernel_rfl, by kernel_rfl, by kernel_rfl, .pointer none, by kernel_rfl, ep⟩, fun h => absurd rfl h⟩
theorem tt18 : aR Tryd.prog 18 (tt 18) := ⟨⟨_, Tryd.underlying18, by kernel_rfl, by kernel_rfl⟩, ⟨Tryd.t18, by kernel_rfl, by kernel_rfl, by kernel_rfl, .agg #[.pointer none], by kernel_rfl, dt (al ep du)⟩, fun h => absurd rfl h⟩
theorem tt19 : aR Tryd.prog 19 (tt 19) := ⟨⟨_, Tryd.underlying19, by kernel_rfl, by kernel_rfl⟩, ⟨Tryd.t19, by kernel_rfl, by kernel_rfl, by kernel_rfl, .agg #[.pointer none], by kernel_rfl, dt (al ep du)⟩, fun h => absurd rfl h⟩
theorem tt20 : aR Tryd.prog 20 (tt 20) := ⟨⟨_, Tryd.underlying20⟩, ⟨Tryd.t20, by kernel_rfl, by kernel_rfl, by kernel_rfl, .nilIface, by kernel_rfl, KG⟩, fun h => absurd rfl h⟩
theorem tt21 : aR Tryd.prog 21 (tt 21) := ⟨Tryd.underlying21, ⟨Tryd.t21, by kernel_rfl, by kernel_rfl, by kernel_rfl, .int .i32 0, by kernel_rfl, aF⟩, fun h => absurd rfl h⟩
theorem tt22 : aR Tryd.prog 22 (tt 22) := ⟨Tryd.underlying22, ⟨Tryd.t22, by kernel_rfl, by kernel_rfl, by kernel_rfl, .int .u64 0, by kernel_rfl, aF⟩, fun h => absurd rfl h⟩
theorem tt23 : aR Tryd.prog 23 (tt 23) := ⟨Tryd.underlying23, ⟨Tryd.t23, by kernel_rfl, by kernel_rfl, by kernel_rfl, .slice none 0 0, by kernel_rfl, fk⟩, fun h => absurd rfl h⟩
theorem tt24 : aR Tryd.prog 24 (tt 24) := ⟨Tryd.underlying24, ⟨Tryd.t24, by kernel_rfl, by kernel_rfl, by kernel_rfl, .slice none 0 0, by kernel_rfl, fk⟩, fun h => absurd rfl h⟩
theorem tt25 : aR Tryd.prog 25 (tt 25) := ⟨⟨_, Tryd.underlying25, by kernel_rfl, by kernel_rfl⟩, ⟨Tryd.t25, by kernel_rfl, by kernel_rfl, by kernel_rfl, .agg #[.int .u8 0, .string ⟨#[]⟩, .int .i64 0, .int .u64 0, .slice none 0 0, .slice none 0 0], by kernel_rfl, dt (al aF (al eF (al aF (al aF (al fk (al fk du))))))⟩, fun h => absurd rfl h⟩
theorem tt26 : aR Tryd.prog 26 (tt 26) := ⟨⟨_, Tryd.underlying26, by kernel_rfl, by kernel_rfl⟩, ⟨Tryd.t26, by kernel_rfl, by kernel_rfl, by kernel_rfl, .agg #[.int .u8 0, .string ⟨#[]⟩, .int .i64 0, .int .u64 0, .slice none 0 0, .slice none 0 0], by kernel_rfl, dt (al aF (al eF (al aF (al aF (al fk (al fk du))))))⟩, fun h => absurd rfl h⟩
theorem tt28 : aR Tryd.prog 28 (tt 28) := ⟨Tryd.underlying28, ⟨Tryd.t28, by kernel_rfl, by kernel_rfl, by kernel_rfl, .int .i64 0, by kernel_rfl, aF⟩, fun h => absurd rfl h⟩
theorem tt31 : aR Tryd.prog 31 (tt 31) := ⟨Tryd.underlying31, ⟨Tryd.t31, by kernel_rfl, by kernel_rfl, by kernel_rfl, .slice none 0 0, by kernel_rfl, fk⟩, fun h => absurd rfl h⟩
theorem tt36 : aR Tryd.prog 36 (tt 36) := ⟨Tryd.underlying36, ⟨Tryd.t36, by kernel_rfl, by kernel_rfl, by kernel_rfl, .slice none 0 0, by kernel_rfl, fk⟩, fun h => absurd rfl h⟩
theorem tt40 : aR Tryd.prog 40 (tt 40) := ⟨⟨_, _, _, Tryd.underlying40⟩, ⟨Tryd.t40, by kernel_rfl, by kernel_rfl, by kernel_rfl, .nilFunc, by kernel_rfl, oY⟩, fun h => absurd rfl h⟩
theorem tt43 : aR Tryd.prog 43 (tt 43) := ⟨Tryd.underlying43, ⟨Tryd.t43, by kernel_rfl, by kernel_rfl, by kernel_rfl, .pointer none, by kernel_rfl, ep⟩, fun h => absurd rfl h⟩
theorem tt44 : aR Tryd.prog 44 (tt 44) := ⟨Tryd.underlying44, ⟨Tryd.t44, by kernel_rfl, by kernel_rfl, by kernel_rfl, .pointer none, by kernel_rfl, ep⟩, fun h => absurd rfl h⟩
theorem tt46 : aR Tryd.prog 46 (tt 46) := ⟨⟨_, Tryd.underlying46, by kernel_rfl, by kernel_rfl⟩, ⟨Tryd.t46, by kernel_rfl, by kernel_rfl, by kernel_rfl, .agg #[.pointer none, .slice none 0 0], by kernel_rfl, dt (al ep (al fk du))⟩, fun h => absurd rfl h⟩
theorem tt47 : aR Tryd.prog 47 (tt 47) := ⟨⟨_, Tryd.underlying47, by kernel_rfl, by kernel_rfl⟩, ⟨Tryd.t47, by kernel_rfl, by kernel_rfl, by kernel_rfl, .agg #[.pointer none, .slice none 0 0], by kernel_rfl, dt (al ep (al fk du))⟩, fun h => absurd rfl h⟩
theorem tt48 : aR Tryd.prog 48 (tt 48) := ⟨Tryd.underlying48, ⟨Tryd.t48, by kernel_rfl, by kernel_rfl, by kernel_rfl, .int .i64 0, by kernel_rfl, aF⟩, fun h => absurd rfl h⟩
theorem tt51 : aR Tryd.prog 51 (tt 51) := ⟨⟨_, Tryd.underlying51, by kernel_rfl, by kernel_rfl⟩, ⟨Tryd.t51, by kernel_rfl, by kernel_rfl, by kernel_rfl, .agg #[.int .u8 0, .string ⟨#[]⟩], by kernel_rfl, dt (al aF (al eF du))⟩, fun h => o8 h (by kernel_rfl) (by kernel_rfl) (by kernel_rfl) (by kernel_rfl)⟩
theorem tt52 : aR Tryd.prog 52 (tt 52) := ⟨⟨_, Tryd.underlying52, by kernel_rfl, by kernel_rfl⟩, ⟨Tryd.t52, by kernel_rfl, by kernel_rfl, by kernel_rfl, .agg #[.int .u8 0, .string ⟨#[]⟩], by kernel_rfl, dt (al aF (al eF du))⟩, fun h => o8 h (by kernel_rfl) (by kernel_rfl) (by kernel_rfl) (by kernel_rfl)⟩
theorem tt55 : aR Tryd.prog 55 (tt 55) := ⟨⟨_, Tryd.underlying55, by kernel_rfl, by kernel_rfl⟩, ⟨Tryd.t55, by kernel_rfl, by kernel_rfl, by kernel_rfl, .agg #[.string ⟨#[]⟩, .int .u8 0, .string ⟨#[]⟩, .int .i64 0, .int .u64 0, .slice none 0 0, .slice none 0 0], by kernel_rfl, dt (al eF (al aF (al eF (al aF (al aF (al fk (al fk du)))))))⟩, fun h => absurd rfl h⟩
theorem tt56 : aR Tryd.prog 56 (tt 56) := ⟨⟨_, Tryd.underlying56, by kernel_rfl, by kernel_rfl⟩, ⟨Tryd.t56, by kernel_rfl, by kernel_rfl, by kernel_rfl, .agg #[.string ⟨#[]⟩, .int .u8 0, .string ⟨#[]⟩, .int .i64 0, .int .u64 0, .slice none 0 0, .slice none 0 0], by kernel_rfl, dt (al eF (al aF (al eF (al aF (al aF (al fk (al fk du)))))))⟩, fun h => absurd rfl h⟩
theorem tt62 : aR Tryd.prog 62 (tt 62) := ⟨Tryd.underlying62, ⟨Tryd.t62, by kernel_rfl, by kernel_rfl, by kernel_rfl, .string ⟨#[]⟩, by kernel_rfl, eF⟩, fun h => absurd rfl h⟩
theorem tt63 : aR Tryd.prog 63 (tt 63) := ⟨Tryd.underlying63, ⟨Tryd.t63, by kernel_rfl, by kernel_rfl, by kernel_rfl, .string ⟨#[]⟩, by kernel_rfl, eF⟩, fun h => absurd rfl h⟩
theorem tt64 : aR Tryd.prog 64 (tt 64) := ⟨⟨_, Tryd.underlying64, by kernel_rfl, by kernel_rfl⟩, ⟨Tryd.t64, by kernel_rfl, by kernel_rfl, by kernel_rfl, .agg #[.string ⟨#[]⟩, .int .i64 0, .int .i64 0, .int .i64 0], by kernel_rfl, dt (al eF (al aF (al aF (al aF du))))⟩, fun h => o8 h (by kernel_rfl) (by kernel_rfl) (by kernel_rfl) (by kernel_rfl)⟩
theorem tt65 : aR Tryd.prog 65 (tt 65) := ⟨⟨_, Tryd.underlying65, by kernel_rfl, by kernel_rfl⟩, ⟨Tryd.t65, by kernel_rfl, by kernel_rfl, by kernel_rfl, .agg #[.string ⟨#[]⟩, .int .i64 0, .int .i64 0, .int .i64 0], by kernel_rfl, dt (al eF (al aF (al aF (al aF du))))⟩, fun h => o8 h (by kernel_rfl) (by kernel_rfl) (by kernel_rfl) (by kernel_rfl)⟩
theorem tt66 : aR Tryd.prog 66 (tt 66) := ⟨⟨_, Tryd.underlying66, by kernel_rfl, by kernel_rfl⟩, ⟨Tryd.t66, by kernel_rfl, by kernel_rfl, by kernel_rfl, .agg #[.int .u8 0, .string ⟨#[]⟩, .string ⟨#[]⟩, .int .i64 0], by kernel_rfl, dt (al aF (al eF (al eF (al aF du))))⟩, fun h => o8 h (by kernel_rfl) (by kernel_rfl) (by kernel_rfl) (by kernel_rfl)⟩
theorem tt67 : aR Tryd.prog 67 (tt 67) := ⟨⟨_, Tryd.underlying67, by kernel_rfl, by kernel_rfl⟩, ⟨Tryd.t67, by kernel_rfl, by kernel_rfl, by kernel_rfl, .agg #[.int .u8 0, .string ⟨#[]⟩, .string ⟨#[]⟩, .int .i64 0], by kernel_rfl, dt (al aF (al eF (al eF (al aF du))))⟩, fun h => o8 h (by kernel_rfl) (by kernel_rfl) (by kernel_rfl) (by kernel_rfl)⟩
theorem tt72 : aR Tryd.prog 72 (tt 72) := ⟨Tryd.underlying72, ⟨Tryd.t72, by kernel_rfl, by kernel_rfl, by kernel_rfl, .slice none 0 0, by kernel_rfl, fk⟩, fun h => absurd rfl h⟩
theorem tt73 : aR Tryd.prog 73 (tt 73) := ⟨Tryd.underlying73, ⟨Tryd.t73, by kernel_rfl, by kernel_rfl, by kernel_rfl, .slice none 0 0, by kernel_rfl, fk⟩, fun h => absurd rfl h⟩
theorem tt75 : aR Tryd.prog 75 (tt 75) := ⟨Tryd.underlying75, ⟨Tryd.t75, by kernel_rfl, by kernel_rfl, by kernel_rfl, .slice none 0 0, by kernel_rfl, fk⟩, fun h => absurd rfl h⟩
theorem tt83 : aR Tryd.prog 83 (tt 83) := ⟨Tryd.underlying83, ⟨Tryd.t83, by kernel_rfl, by kernel_rfl, by kernel_rfl, .map none, by kernel_rfl, zMap⟩, fun _ => H7 Tryd.underlying9⟩
theorem tt88 : aR Tryd.prog 88 (tt 88) := ⟨⟨_, _, _, Tryd.underlying88⟩, ⟨Tryd.t88, by kernel_rfl, by kernel_rfl, by kernel_rfl, .nilFunc, by kernel_rfl, oY⟩, fun h => absurd rfl h⟩
theorem tt103 : aR Tryd.prog 103 (tt 103) := ⟨Tryd.underlying103, ⟨Tryd.t103, by kernel_rfl, by kernel_rfl, by kernel_rfl, .pointer none, by kernel_rfl, ep⟩, fun h => absurd rfl h⟩
theorem tt104 : aR Tryd.prog 104 (tt 104) := ⟨⟨_, Tryd.underlying104, by kernel_rfl, by kernel_rfl⟩, ⟨Tryd.t104, by kernel_rfl, by kernel_rfl, by kernel_rfl, .agg #[.pointer none, .slice none 0 0], by kernel_rfl, dt (al ep (al fk du))⟩, fun h => absurd rfl h⟩
theorem tt105 : aR Tryd.prog 105 (tt 105) := ⟨⟨_, Tryd.underlying105, by kernel_rfl, by kernel_rfl⟩, ⟨Tryd.t105, by kernel_rfl, by kernel_rfl, by kernel_rfl, .agg #[.pointer none, .slice none 0 0], by kernel_rfl, dt (al ep (al fk du))⟩, fun h => absurd rfl h⟩
theorem tt106 : aR Tryd.prog 106 (tt 106) := ⟨Tryd.underlying106, ⟨Tryd.t106, by kernel_rfl, by kernel_rfl, by kernel_rfl, .pointer none, by kernel_rfl, ep⟩, fun h => absurd rfl h⟩
theorem tt107 : aR Tryd.prog 107 (tt 107) := ⟨⟨_, Tryd.underlying107, by kernel_rfl, by kernel_rfl⟩, ⟨Tryd.t107, by kernel_rfl, by kernel_rfl, by kernel_rfl, .agg #[.pointer none, .slice none 0 0], by kernel_rfl, dt (al ep (al fk du))⟩, fun h => absurd rfl h⟩
theorem tt108 : aR Tryd.prog 108 (tt 108) := ⟨⟨_, Tryd.underlying108, by kernel_rfl, by kernel_rfl⟩, ⟨Tryd.t108, by kernel_rfl, by kernel_rfl, by kernel_rfl, .agg #[.pointer none, .slice none 0 0], by kernel_rfl, dt (al ep (al fk du))⟩, fun h => absurd rfl h⟩
theorem tt109 : aR Tryd.prog 109 (tt 109) := ⟨Tryd.underlying109, ⟨Tryd.t109, by kernel_rfl, by kernel_rfl, by kernel_rfl, .agg #[.int .u8 0, .int .u8 0, .int .u8 0, .int .u8 0, .int .u8 0, .int .u8 0, .int .u8 0, .int .u8 0, .int .u8 0, .int .u8 0, .int .u8 0, .int .u8 0, .int .u8 0, .int .u8 0, .int .u8 0, .int .u8 0, .int .u8 0, .int .u8 0, .int .u8 0, .int .u8 0], by kernel_rfl, dt (al aF (al aF (al aF (al aF (al aF (al aF (al aF (al aF (al aF (al aF (al aF (al aF (al aF (al aF (al aF (al aF (al aF (al aF (al aF (al aF du))))))))))))))))))))⟩, fun h => absurd rfl h⟩
theorem tt110 : aR Tryd.prog 110 (tt 110) := ⟨Tryd.underlying110, ⟨Tryd.t110, by kernel_rfl, by kernel_rfl, by kernel_rfl, .agg #[.int .u8 0, .int .u8 0, .int .u8 0, .int .u8 0, .int .u8 0, .int .u8 0, .int .u8 0, .int .u8 0], by kernel_rfl, dt (al aF (al aF (al aF (al aF (al aF (al aF (al aF (al aF du))))))))⟩, fun h => absurd rfl h⟩
theorem tt111 : aR Tryd.prog 111 (tt 111) := ⟨Tryd.underlying111, ⟨Tryd.t111, by kernel_rfl, by kernel_rfl, by kernel_rfl, .int .u64 0, by kernel_rfl, aF⟩, fun h => absurd rfl h⟩
theorem tt124 : aR Tryd.prog 124 (tt 124) := ⟨⟨_, Tryd.underlying124, by kernel_rfl, by kernel_rfl⟩, ⟨Tryd.t124, by kernel_rfl, by kernel_rfl, by kernel_rfl, .agg #[.pointer none, .pointer none, .pointer none, .string ⟨#[]⟩], by kernel_rfl, dt (al ep (al ep (al ep (al eF du))))⟩, fun h => absurd rfl h⟩
theorem tt125 : aR Tryd.prog 125 (tt 125) := ⟨⟨_, Tryd.underlying125, by kernel_rfl, by kernel_rfl⟩, ⟨Tryd.t125, by kernel_rfl, by kernel_rfl, by kernel_rfl, .agg #[.pointer none, .pointer none, .pointer none, .string ⟨#[]⟩], by kernel_rfl, dt (al ep (al ep (al ep (al eF du))))⟩, fun h => absurd rfl h⟩
theorem tt129 : aR Tryd.prog 129 (tt 129) := ⟨Tryd.underlying129, ⟨Tryd.t129, by kernel_rfl, by kernel_rfl, by kernel_rfl, .int .u32 0, by kernel_rfl, aF⟩, fun h => absurd rfl h⟩
theorem tt130 : aR Tryd.prog 130 (tt 130) := ⟨Tryd.underlying130, ⟨Tryd.t130, by kernel_rfl, by kernel_rfl, by kernel_rfl, .int .u8 0, by kernel_rfl, aF⟩, fun h => absurd rfl h⟩
theorem tt131 : aR Tryd.prog 131 (tt 131) := ⟨Tryd.underlying131, ⟨Tryd.t131, by kernel_rfl, by kernel_rfl, by kernel_rfl, .int .u8 0, by kernel_rfl, aF⟩, fun h => absurd rfl h⟩
theorem tt132 : aR Tryd.prog 132 (tt 132) := ⟨⟨_, _, _, Tryd.underlying132⟩, ⟨Tryd.t132, by kernel_rfl, by kernel_rfl, by kernel_rfl, .nilFunc, by kernel_rfl, oY⟩, fun h => absurd rfl h⟩
theorem tt133 : aR Tryd.prog 133 (tt 133) := ⟨Tryd.underlying133, ⟨Tryd.t133, by kernel_rfl, by kernel_rfl, by kernel_rfl, .pointer none, by kernel_rfl, ep⟩, fun h => absurd rfl h⟩
theorem tt134 : aR Tryd.prog 134 (tt 134) := ⟨Tryd.underlying134, ⟨Tryd.t134, by kernel_rfl, by kernel_rfl, by kernel_rfl, .int .i32 0, by kernel_rfl, aF⟩, fun h => absurd rfl h⟩
theorem tt135 : aR Tryd.prog 135 (tt 135) := ⟨Tryd.underlying135, ⟨Tryd.t135, by kernel_rfl, by kernel_rfl, by kernel_rfl, .int .i32 0, by kernel_rfl, aF⟩, fun h => absurd rfl h⟩
theorem tt136 : aR Tryd.prog 136 (tt 136) := ⟨⟨_, Tryd.underlying136, by kernel_rfl, by kernel_rfl⟩, ⟨Tryd.t136, by kernel_rfl, by kernel_rfl, by kernel_rfl, .agg #[.int .u64 0, .int .u64 0, .int .u32 0, .int .u8 0, .int .u8 0, .int .u8 0, .int .u8 0, .nilFunc, .pointer none, .int .i32 0, .int .i32 0], by kernel_rfl, dt (al aF (al aF (al aF (al aF (al aF (al aF (al aF (al oY (al ep (al aF (al aF du)))))))))))⟩, fun h => absurd rfl h⟩
theorem tt137 : aR Tryd.prog 137 (tt 137) := ⟨⟨_, Tryd.underlying137, by kernel_rfl, by kernel_rfl⟩, ⟨Tryd.t137, by kernel_rfl, by kernel_rfl, by kernel_rfl, .agg #[.int .u64 0, .int .u64 0, .int .u32 0, .int .u8 0, .int .u8 0, .int .u8 0, .int .u8 0, .nilFunc, .pointer none, .int .i32 0, .int .i32 0], by kernel_rfl, dt (al aF (al aF (al aF (al aF (al aF (al aF (al aF (al oY (al ep (al aF (al aF du)))))))))))⟩, fun h => absurd rfl h⟩
theorem qQ : ∀ t, aR Tryd.prog t (tt t) := fun t => by
 unfold tt
 split
 . exact tt1
 . exact tt2
 . exact tt3
 . exact tt4
 . exact tt5
 . exact tt6
 . exact tt7
 . exact tt8
 . exact tt9
 . exact tt10
 . exact tt11
 . exact tt12
 . exact tt13
 . exact tt14
 . exact tt15
 . exact tt16
 . exact tt17
 . exact tt18
 . exact tt19
 . exact tt20
 . exact tt21
 . exact tt22
 . exact tt23
 . exact tt24
 . exact tt25
 . exact tt26
 . exact tt28
 . exact tt31
 . exact tt36
 . exact tt40
 . exact tt43
 . exact tt44
 . exact tt46
 . exact tt47
 . exact tt48
 . exact tt51
 . exact tt52
 . exact tt55
 . exact tt56
 . exact tt62
 . exact tt63
 . exact tt64
 . exact tt65
 . exact tt66
 . exact tt67
 . exact tt72
 . exact tt73
 . exact tt75
 . exact tt83
 . exact tt88
 . exact tt103
 . exact tt104
 . exact tt105
 . exact tt106
 . exact tt107
 . exact tt108
 . exact tt109
 . exact tt110
 . exact tt111
 . exact tt124
 . exact tt125
 . exact tt129
 . exact tt130
 . exact tt131
 . exact tt132
 . exact tt133
 . exact tt134
 . exact tt135
 . exact tt136
 . exact tt137
 . trivial
def nJ : TypeId → Bool := fun t => match t with
 | 2 => true
 | 3 => true
 | 4 => true
 | 5 => true
 | 6 => true
 | 7 => true
 | 8 => true
 | 9 => true
 | 10 => true
 | 11 => true
 | 12 => true
 | 13 => true
 | 14 => true
 | 21 => true
 | 22 => true
 | 23 => true
 | 24 => true
 | 25 => true
 | 26 => true
 | 28 => true
 | 31 => true
 | 36 => true
 | 48 => true
 | 51 => true
 | 52 => true
 | 55 => true
 | 56 => true
 | 62 => true
 | 63 => true
 | 64 => true
 | 65 => true
 | 66 => true
 | 67 => true
 | 72 => true
 | 73 => true
 | 75 => true
 | 109 => true
 | 110 => true
 | 111 => true
 | 129 => true
 | 130 => true
 | 131 => true
 | 134 => true
 | 135 => true
 | _ => false
theorem Dg : nu Tryd.prog tt nJ where
 tys := qQ
 kids := fun t h => by
  unfold nJ at h; split at h <;> first | (cases h; done) | rfl
 pos := fun t h => by
  unfold nJ at h; split at h <;> first
   | (cases h; done)
   | exact .inl ⟨_, rfl, by decide⟩
   | (refine .inr (.inr (And.intro ?_ ?_)) <;> (intro e hh; cases hh))
 fields := fun t fs h k => by
  unfold nJ at h; split at h <;> first
   | (cases h; done)
   | (cases k; rfl)
   | (cases k; done)
 array := fun t m e h k => by
  unfold nJ at h; split at h <;> first
   | (cases h; done)
   | (cases k; rfl)
   | (cases k; done)
end Go.Proofs.YtllncocibkgjkaaDoor
