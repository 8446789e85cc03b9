/-
  The table of the seat's types, and that it is the program's. Printed by a program of mine (tygen.py).
-/
import Derived.Test.YtafgmmfbhpbogaaGreatDoorVgX
import Derived.Test.YtafgmmfbhpbogaaGreatDoorVgMA
import Derived.Test.YtafgmmfbhpbogaaGreatDoorProg
import Derived.KernelRfl
set_option maxHeartbeats 4000000
namespace Go.Proofs.YtafgmmfbhpbogaaGreatDoor
open Go Go.VG
set_option maxRecDepth 100000
def tt : TypeId → TI := fun t => match t with
  | 1 => ⟨.func, 1, 8, .nilFunc, []⟩
  | 2 => ⟨.int .i64, 1, 8, .int .i64 0, []⟩
  | 3 => ⟨.int .i64, 1, 8, .int .i64 0, []⟩
  | 4 => ⟨.bool, 1, 1, .bool false, []⟩
  | 5 => ⟨.int .u8, 1, 1, .int .u8 0, []⟩
  | 6 => ⟨.int .u8, 1, 1, .int .u8 0, []⟩
  | 7 => ⟨.struct [(0, 2), (1, 3), (2, 4), (3, 6)], 4, 24, .agg [.int .i64 0, .int .i64 0, .bool false, .int .u8 0], []⟩
  | 8 => ⟨.struct [(0, 2), (1, 3), (2, 4), (3, 6)], 4, 24, .agg [.int .i64 0, .int .i64 0, .bool false, .int .u8 0], []⟩
  | 9 => ⟨.string, 1, 16, .str [], []⟩
  | 10 => ⟨.string, 1, 16, .str [], []⟩
  | 11 => ⟨.string, 1, 16, .str [], []⟩
  | 12 => ⟨.int .u64, 1, 8, .int .u64 0, []⟩
  | 13 => ⟨.struct [(0, 9), (1, 12)], 2, 24, .agg [.str [], .int .u64 0], []⟩
  | 14 => ⟨.struct [(0, 9), (1, 12)], 2, 24, .agg [.str [], .int .u64 0], []⟩
  | 15 => ⟨.ptr 491, 1, 8, .nilptr, []⟩
  | 16 => ⟨.ptr 494, 1, 8, .nilptr, []⟩
  | 17 => ⟨.ptr 502, 1, 8, .nilptr, []⟩
  | 18 => ⟨.struct [(0, 17)], 1, 8, .agg [.nilptr], []⟩
  | 19 => ⟨.struct [(0, 17)], 1, 8, .agg [.nilptr], []⟩
  | 20 => ⟨.iface, 1, 16, .nilIface, []⟩
  | 21 => ⟨.int .i32, 1, 4, .int .i32 0, []⟩
  | 22 => ⟨.struct [(0, 3), (1, 3), (2, 3), (3, 3), (4, 3)], 5, 40, .agg [.int .i64 0, .int .i64 0, .int .i64 0, .int .i64 0, .int .i64 0], [.kI .i64, .kI .i64, .kI .i64, .kI .i64, .kI .i64]⟩
  | 23 => ⟨.struct [(0, 3), (1, 3), (2, 3), (3, 3), (4, 3)], 5, 40, .agg [.int .i64 0, .int .i64 0, .int .i64 0, .int .i64 0, .int .i64 0], [.kI .i64, .kI .i64, .kI .i64, .kI .i64, .kI .i64]⟩
  | 24 => ⟨.slice 46, 1, 24, .list true 0 [], []⟩
  | 25 => ⟨.struct [(0, 24)], 1, 24, .agg [.list true 0 []], []⟩
  | 26 => ⟨.struct [(0, 24)], 1, 24, .agg [.list true 0 []], []⟩
  | 27 => ⟨.func, 1, 8, .nilFunc, []⟩
  | 28 => ⟨.func, 1, 8, .nilFunc, []⟩
  | 29 => ⟨.int .i64, 1, 8, .int .i64 0, []⟩
  | 30 => ⟨.struct [(0, 3), (1, 3)], 2, 16, .agg [.int .i64 0, .int .i64 0], [.kI .i64, .kI .i64]⟩
  | 31 => ⟨.struct [(0, 3), (1, 3)], 2, 16, .agg [.int .i64 0, .int .i64 0], [.kI .i64, .kI .i64]⟩
  | 32 => ⟨.struct [(0, 3), (1, 3), (2, 3)], 3, 24, .agg [.int .i64 0, .int .i64 0, .int .i64 0], [.kI .i64, .kI .i64, .kI .i64]⟩
  | 33 => ⟨.struct [(0, 3), (1, 3), (2, 3)], 3, 24, .agg [.int .i64 0, .int .i64 0, .int .i64 0], [.kI .i64, .kI .i64, .kI .i64]⟩
  | 34 => ⟨.struct [(0, 31), (2, 33)], 5, 40, .agg [.int .i64 0, .int .i64 0, .int .i64 0, .int .i64 0, .int .i64 0], [.kI .i64, .kI .i64, .kI .i64, .kI .i64, .kI .i64]⟩
  | 35 => ⟨.struct [(0, 31), (2, 33)], 5, 40, .agg [.int .i64 0, .int .i64 0, .int .i64 0, .int .i64 0, .int .i64 0], [.kI .i64, .kI .i64, .kI .i64, .kI .i64, .kI .i64]⟩
  | 36 => ⟨.func, 1, 8, .nilFunc, []⟩
  | 37 => ⟨.func, 1, 8, .nilFunc, []⟩
  | 38 => ⟨.func, 1, 8, .nilFunc, []⟩
  | 39 => ⟨.func, 1, 8, .nilFunc, []⟩
  | 40 => ⟨.func, 1, 8, .nilFunc, []⟩
  | 41 => ⟨.func, 1, 8, .nilFunc, []⟩
  | 42 => ⟨.func, 1, 8, .nilFunc, []⟩
  | 43 => ⟨.slice 74, 1, 24, .list true 0 [], []⟩
  | 44 => ⟨.slice 50, 1, 24, .list true 0 [], []⟩
  | 45 => ⟨.struct [(0, 43), (1, 44)], 2, 48, .agg [.list true 0 [], .list true 0 []], []⟩
  | 46 => ⟨.struct [(0, 43), (1, 44)], 2, 48, .agg [.list true 0 [], .list true 0 []], []⟩
  | 47 => ⟨.func, 1, 8, .nilFunc, []⟩
  | 48 => ⟨.slice 62, 1, 24, .list true 0 [], []⟩
  | 49 => ⟨.struct [(0, 9), (1, 9), (2, 48)], 3, 56, .agg [.str [], .str [], .list true 0 []], []⟩
  | 50 => ⟨.struct [(0, 9), (1, 9), (2, 48)], 3, 56, .agg [.str [], .str [], .list true 0 []], []⟩
  | 51 => ⟨.func, 1, 8, .nilFunc, []⟩
  | 52 => ⟨.array 16 5, 16, 16, .agg [.int .u8 0, .int .u8 0, .int .u8 0, .int .u8 0, .int .u8 0, .int .u8 0, .int .u8 0, .int .u8 0, .int .u8 0, .int .u8 0, .int .u8 0, .int .u8 0, .int .u8 0, .int .u8 0, .int .u8 0, .int .u8 0], []⟩
  | 53 => ⟨.array 16 5, 16, 16, .agg [.int .u8 0, .int .u8 0, .int .u8 0, .int .u8 0, .int .u8 0, .int .u8 0, .int .u8 0, .int .u8 0, .int .u8 0, .int .u8 0, .int .u8 0, .int .u8 0, .int .u8 0, .int .u8 0, .int .u8 0, .int .u8 0], []⟩
  | 54 => ⟨.array 8 5, 8, 8, .agg [.int .u8 0, .int .u8 0, .int .u8 0, .int .u8 0, .int .u8 0, .int .u8 0, .int .u8 0, .int .u8 0], []⟩
  | 55 => ⟨.array 8 5, 8, 8, .agg [.int .u8 0, .int .u8 0, .int .u8 0, .int .u8 0, .int .u8 0, .int .u8 0, .int .u8 0, .int .u8 0], []⟩
  | 56 => ⟨.int .u64, 1, 8, .int .u64 0, []⟩
  | 57 => ⟨.slice 84, 1, 24, .list true 0 [], []⟩
  | 58 => ⟨.slice 86, 1, 24, .list true 0 [], []⟩
  | 59 => ⟨.struct [(0, 3), (1, 9)], 2, 24, .agg [.int .i64 0, .str []], [.kI .i64, .kS]⟩
  | 60 => ⟨.struct [(0, 3), (1, 9)], 2, 24, .agg [.int .i64 0, .str []], [.kI .i64, .kS]⟩
  | 61 => ⟨.struct [(0, 53), (16, 55), (24, 55), (32, 9), (33, 9), (34, 3), (35, 56), (36, 56), (37, 43), (38, 57), (39, 58), (40, 60)], 42, 184, .agg [.int .u8 0, .int .u8 0, .int .u8 0, .int .u8 0, .int .u8 0, .int .u8 0, .int .u8 0, .int .u8 0, .int .u8 0, .int .u8 0, .int .u8 0, .int .u8 0, .int .u8 0, .int .u8 0, .int .u8 0, .int .u8 0, .int .u8 0, .int .u8 0, .int .u8 0, .int .u8 0, .int .u8 0, .int .u8 0, .int .u8 0, .int .u8 0, .int .u8 0, .int .u8 0, .int .u8 0, .int .u8 0, .int .u8 0, .int .u8 0, .int .u8 0, .int .u8 0, .str [], .str [], .int .i64 0, .int .u64 0, .int .u64 0, .list true 0 [], .list true 0 [], .list true 0 [], .int .i64 0, .str []], []⟩
  | 62 => ⟨.struct [(0, 53), (16, 55), (24, 55), (32, 9), (33, 9), (34, 3), (35, 56), (36, 56), (37, 43), (38, 57), (39, 58), (40, 60)], 42, 184, .agg [.int .u8 0, .int .u8 0, .int .u8 0, .int .u8 0, .int .u8 0, .int .u8 0, .int .u8 0, .int .u8 0, .int .u8 0, .int .u8 0, .int .u8 0, .int .u8 0, .int .u8 0, .int .u8 0, .int .u8 0, .int .u8 0, .int .u8 0, .int .u8 0, .int .u8 0, .int .u8 0, .int .u8 0, .int .u8 0, .int .u8 0, .int .u8 0, .int .u8 0, .int .u8 0, .int .u8 0, .int .u8 0, .int .u8 0, .int .u8 0, .int .u8 0, .int .u8 0, .str [], .str [], .int .i64 0, .int .u64 0, .int .u64 0, .list true 0 [], .list true 0 [], .list true 0 [], .int .i64 0, .str []], []⟩
  | 63 => ⟨.int .i64, 1, 8, .int .i64 0, []⟩
  | 65 => ⟨.func, 1, 8, .nilFunc, []⟩
  | 66 => ⟨.func, 1, 8, .nilFunc, []⟩
  | 67 => ⟨.func, 1, 8, .nilFunc, []⟩
  | 68 => ⟨.slice 43, 1, 24, .list true 0 [], []⟩
  | 69 => ⟨.func, 1, 8, .nilFunc, []⟩
  | 70 => ⟨.slice 72, 1, 24, .list true 0 [], []⟩
  | 71 => ⟨.struct [(0, 5), (1, 9), (2, 3), (3, 56), (4, 70), (5, 43)], 6, 88, .agg [.int .u8 0, .str [], .int .i64 0, .int .u64 0, .list true 0 [], .list true 0 []], []⟩
  | 72 => ⟨.struct [(0, 5), (1, 9), (2, 3), (3, 56), (4, 70), (5, 43)], 6, 88, .agg [.int .u8 0, .str [], .int .i64 0, .int .u64 0, .list true 0 [], .list true 0 []], []⟩
  | 73 => ⟨.struct [(0, 9), (1, 72)], 7, 104, .agg [.str [], .int .u8 0, .str [], .int .i64 0, .int .u64 0, .list true 0 [], .list true 0 []], []⟩
  | 74 => ⟨.struct [(0, 9), (1, 72)], 7, 104, .agg [.str [], .int .u8 0, .str [], .int .i64 0, .int .u64 0, .list true 0 [], .list true 0 []], []⟩
  | 75 => ⟨.func, 1, 8, .nilFunc, []⟩
  | 76 => ⟨.slice 82, 1, 24, .list true 0 [], []⟩
  | 77 => ⟨.func, 1, 8, .nilFunc, []⟩
  | 79 => ⟨.func, 1, 8, .nilFunc, []⟩
  | 80 => ⟨.func, 1, 8, .nilFunc, []⟩
  | 81 => ⟨.struct [(0, 3), (1, 3), (2, 3)], 3, 24, .agg [.int .i64 0, .int .i64 0, .int .i64 0], [.kI .i64, .kI .i64, .kI .i64]⟩
  | 82 => ⟨.struct [(0, 3), (1, 3), (2, 3)], 3, 24, .agg [.int .i64 0, .int .i64 0, .int .i64 0], [.kI .i64, .kI .i64, .kI .i64]⟩
  | 83 => ⟨.struct [(0, 56), (1, 9), (2, 43)], 3, 48, .agg [.int .u64 0, .str [], .list true 0 []], []⟩
  | 84 => ⟨.struct [(0, 56), (1, 9), (2, 43)], 3, 48, .agg [.int .u64 0, .str [], .list true 0 []], []⟩
  | 85 => ⟨.struct [(0, 53), (16, 55), (24, 9), (25, 43)], 26, 64, .agg [.int .u8 0, .int .u8 0, .int .u8 0, .int .u8 0, .int .u8 0, .int .u8 0, .int .u8 0, .int .u8 0, .int .u8 0, .int .u8 0, .int .u8 0, .int .u8 0, .int .u8 0, .int .u8 0, .int .u8 0, .int .u8 0, .int .u8 0, .int .u8 0, .int .u8 0, .int .u8 0, .int .u8 0, .int .u8 0, .int .u8 0, .int .u8 0, .str [], .list true 0 []], []⟩
  | 86 => ⟨.struct [(0, 53), (16, 55), (24, 9), (25, 43)], 26, 64, .agg [.int .u8 0, .int .u8 0, .int .u8 0, .int .u8 0, .int .u8 0, .int .u8 0, .int .u8 0, .int .u8 0, .int .u8 0, .int .u8 0, .int .u8 0, .int .u8 0, .int .u8 0, .int .u8 0, .int .u8 0, .int .u8 0, .int .u8 0, .int .u8 0, .int .u8 0, .int .u8 0, .int .u8 0, .int .u8 0, .int .u8 0, .int .u8 0, .str [], .list true 0 []], []⟩
  | 87 => ⟨.func, 1, 8, .nilFunc, []⟩
  | 88 => ⟨.func, 1, 8, .nilFunc, []⟩
  | 89 => ⟨.func, 1, 8, .nilFunc, []⟩
  | 90 => ⟨.func, 1, 8, .nilFunc, []⟩
  | 91 => ⟨.func, 1, 8, .nilFunc, []⟩
  | 92 => ⟨.func, 1, 8, .nilFunc, []⟩
  | 93 => ⟨.func, 1, 8, .nilFunc, []⟩
  | 94 => ⟨.struct [(0, 3), (1, 3), (2, 3)], 3, 24, .agg [.int .i64 0, .int .i64 0, .int .i64 0], [.kI .i64, .kI .i64, .kI .i64]⟩
  | 95 => ⟨.func, 1, 8, .nilFunc, []⟩
  | 96 => ⟨.string, 1, 16, .str [], []⟩
  | 97 => ⟨.string, 1, 16, .str [], []⟩
  | 98 => ⟨.iface, 1, 16, .nilIface, []⟩
  | 99 => ⟨.iface, 1, 16, .nilIface, []⟩
  | 101 => ⟨.func, 1, 8, .nilFunc, []⟩
  | 102 => ⟨.func, 1, 8, .nilFunc, []⟩
  | 103 => ⟨.func, 1, 8, .nilFunc, []⟩
  | 104 => ⟨.func, 1, 8, .nilFunc, []⟩
  | 105 => ⟨.slice 5, 1, 24, .list true 0 [], []⟩
  | 106 => ⟨.func, 1, 8, .nilFunc, []⟩
  | 107 => ⟨.func, 1, 8, .nilFunc, []⟩
  | 108 => ⟨.func, 1, 8, .nilFunc, []⟩
  | 109 => ⟨.slice 72, 1, 24, .list true 0 [], []⟩
  | 110 => ⟨.slice 74, 1, 24, .list true 0 [], []⟩
  | 111 => ⟨.func, 1, 8, .nilFunc, []⟩
  | 112 => ⟨.int .i64, 1, 8, .int .i64 0, []⟩
  | 113 => ⟨.func, 1, 8, .nilFunc, []⟩
  | 114 => ⟨.func, 1, 8, .nilFunc, []⟩
  | 115 => ⟨.array 4 9, 4, 64, .agg [.str [], .str [], .str [], .str []], []⟩
  | 117 => ⟨.func, 1, 8, .nilFunc, []⟩
  | 118 => ⟨.func, 1, 8, .nilFunc, []⟩
  | 119 => ⟨.ptr 123, 1, 8, .nilptr, []⟩
  | 120 => ⟨.func, 1, 8, .nilFunc, []⟩
  | 121 => ⟨.ptr 119, 1, 8, .nilptr, []⟩
  | 122 => ⟨.struct [(0, 29)], 1, 8, .agg [.int .i64 0], [.kI .i64]⟩
  | 123 => ⟨.struct [(0, 29)], 1, 8, .agg [.int .i64 0], [.kI .i64]⟩
  | 124 => ⟨.func, 1, 8, .nilFunc, []⟩
  | 125 => ⟨.func, 1, 8, .nilFunc, []⟩
  | 126 => ⟨.func, 1, 8, .nilFunc, []⟩
  | 127 => ⟨.func, 1, 8, .nilFunc, []⟩
  | 128 => ⟨.ptr 130, 1, 8, .nilptr, []⟩
  | 129 => ⟨.struct [(0, 9), (1, 99)], 2, 32, .agg [.str [], .nilIface], []⟩
  | 130 => ⟨.struct [(0, 9), (1, 99)], 2, 32, .agg [.str [], .nilIface], []⟩
  | 131 => ⟨.func, 1, 8, .nilFunc, []⟩
  | 132 => ⟨.func, 1, 8, .nilFunc, []⟩
  | 133 => ⟨.func, 1, 8, .nilFunc, []⟩
  | 135 => ⟨.int .u64, 1, 8, .int .u64 0, []⟩
  | 138 => ⟨.func, 1, 8, .nilFunc, []⟩
  | 139 => ⟨.iface, 1, 16, .nilIface, []⟩
  | 140 => ⟨.iface, 1, 16, .nilIface, []⟩
  | 141 => ⟨.func, 1, 8, .nilFunc, []⟩
  | 142 => ⟨.int .u8, 1, 1, .int .u8 0, []⟩
  | 143 => ⟨.func, 1, 8, .nilFunc, []⟩
  | 144 => ⟨.func, 1, 8, .nilFunc, []⟩
  | 145 => ⟨.func, 1, 8, .nilFunc, []⟩
  | 146 => ⟨.array 20 5, 20, 20, .agg [.int .u8 0, .int .u8 0, .int .u8 0, .int .u8 0, .int .u8 0, .int .u8 0, .int .u8 0, .int .u8 0, .int .u8 0, .int .u8 0, .int .u8 0, .int .u8 0, .int .u8 0, .int .u8 0, .int .u8 0, .int .u8 0, .int .u8 0, .int .u8 0, .int .u8 0, .int .u8 0], []⟩
  | 147 => ⟨.int .u64, 1, 8, .int .u64 0, []⟩
  | 148 => ⟨.func, 1, 8, .nilFunc, []⟩
  | 149 => ⟨.func, 1, 8, .nilFunc, []⟩
  | 150 => ⟨.ptr 193, 1, 8, .nilptr, []⟩
  | 152 => ⟨.func, 1, 8, .nilFunc, []⟩
  | 154 => ⟨.func, 1, 8, .nilFunc, []⟩
  | 155 => ⟨.slice 9, 1, 24, .list true 0 [], []⟩
  | 156 => ⟨.func, 1, 8, .nilFunc, []⟩
  | 157 => ⟨.func, 1, 8, .nilFunc, []⟩
  | 158 => ⟨.func, 1, 8, .nilFunc, []⟩
  | 160 => ⟨.func, 1, 8, .nilFunc, []⟩
  | 161 => ⟨.slice 165, 1, 24, .list true 0 [], []⟩
  | 163 => ⟨.func, 1, 8, .nilFunc, []⟩
  | 164 => ⟨.struct [(0, 5), (1, 9), (2, 9), (3, 3)], 4, 48, .agg [.int .u8 0, .str [], .str [], .int .i64 0], [.kI .u8, .kS, .kS, .kI .i64]⟩
  | 165 => ⟨.struct [(0, 5), (1, 9), (2, 9), (3, 3)], 4, 48, .agg [.int .u8 0, .str [], .str [], .int .i64 0], [.kI .u8, .kS, .kS, .kI .i64]⟩
  | 166 => ⟨.slice 3, 1, 24, .list true 0 [], []⟩
  | 169 => ⟨.func, 1, 8, .nilFunc, []⟩
  | 170 => ⟨.func, 1, 8, .nilFunc, []⟩
  | 171 => ⟨.func, 1, 8, .nilFunc, []⟩
  | 172 => ⟨.func, 1, 8, .nilFunc, []⟩
  | 173 => ⟨.func, 1, 8, .nilFunc, []⟩
  | 174 => ⟨.func, 1, 8, .nilFunc, []⟩
  | 175 => ⟨.struct [(0, 17)], 1, 8, .agg [.nilptr], []⟩
  | 176 => ⟨.struct [(0, 17)], 1, 8, .agg [.nilptr], []⟩
  | 179 => ⟨.func, 1, 8, .nilFunc, []⟩
  | 180 => ⟨.func, 1, 8, .nilFunc, []⟩
  | 183 => ⟨.func, 1, 8, .nilFunc, []⟩
  | 184 => ⟨.iface, 1, 16, .nilIface, []⟩
  | 185 => ⟨.func, 1, 8, .nilFunc, []⟩
  | 186 => ⟨.iface, 1, 16, .nilIface, []⟩
  | 187 => ⟨.slice 99, 1, 24, .list true 0 [], []⟩
  | 188 => ⟨.func, 1, 8, .nilFunc, []⟩
  | 189 => ⟨.slice 200, 1, 24, .list true 0 [], []⟩
  | 192 => ⟨.struct [(0, 189)], 1, 24, .agg [.list true 0 []], []⟩
  | 193 => ⟨.struct [(0, 189)], 1, 24, .agg [.list true 0 []], []⟩
  | 200 => ⟨.struct [(0, 3), (1, 3), (2, 56), (3, 9)], 4, 40, .agg [.int .i64 0, .int .i64 0, .int .u64 0, .str []], [.kI .i64, .kI .i64, .kI .u64, .kS]⟩
  | 201 => ⟨.func, 1, 8, .nilFunc, []⟩
  | 211 => ⟨.slice 215, 1, 24, .list true 0 [], []⟩
  | 215 => ⟨.struct [(0, 3), (1, 5), (2, 3), (3, 56), (4, 9), (5, 9)], 6, 64, .agg [.int .i64 0, .int .u8 0, .int .i64 0, .int .u64 0, .str [], .str []], [.kI .i64, .kI .u8, .kI .i64, .kI .u64, .kS, .kS]⟩
  | 220 => ⟨.func, 1, 8, .nilFunc, []⟩
  | 222 => ⟨.func, 1, 8, .nilFunc, []⟩
  | 224 => ⟨.ptr 228, 1, 8, .nilptr, []⟩
  | 225 => ⟨.ptr 305, 1, 8, .nilptr, []⟩
  | 228 => ⟨.struct [(0, 225), (1, 161)], 2, 32, .agg [.nilptr, .list true 0 []], []⟩
  | 229 => ⟨.int .i64, 1, 8, .int .i64 0, []⟩
  | 233 => ⟨.struct [(0, 5), (1, 9)], 2, 24, .agg [.int .u8 0, .str []], [.kI .u8, .kS]⟩
  | 235 => ⟨.int .i64, 1, 8, .int .i64 0, []⟩
  | 240 => ⟨.ptr 62, 1, 8, .nilptr, []⟩
  | 241 => ⟨.func, 1, 8, .nilFunc, []⟩
  | 242 => ⟨.func, 1, 8, .nilFunc, []⟩
  | 243 => ⟨.func, 1, 8, .nilFunc, []⟩
  | 244 => ⟨.func, 1, 8, .nilFunc, []⟩
  | 245 => ⟨.func, 1, 8, .nilFunc, []⟩
  | 246 => ⟨.func, 1, 8, .nilFunc, []⟩
  | 247 => ⟨.func, 1, 8, .nilFunc, []⟩
  | 248 => ⟨.ptr 251, 1, 8, .nilptr, []⟩
  | 249 => ⟨.map 9 3, 1, 8, .nilmap, [.kS]⟩
  | 251 => ⟨.struct [(0, 249), (1, 24)], 2, 32, .agg [.nilmap, .list true 0 []], []⟩
  | 256 => ⟨.func, 1, 8, .nilFunc, []⟩
  | 261 => ⟨.func, 1, 8, .nilFunc, []⟩
  | 263 => ⟨.func, 1, 8, .nilFunc, []⟩
  | 293 => ⟨.func, 1, 8, .nilFunc, []⟩
  | 294 => ⟨.struct [(0, 211), (1, 3), (2, 29), (3, 293)], 4, 48, .agg [.list true 0 [], .int .i64 0, .int .i64 0, .nilFunc], []⟩
  | 295 => ⟨.struct [(0, 211), (1, 3), (2, 29), (3, 293)], 4, 48, .agg [.list true 0 [], .int .i64 0, .int .i64 0, .nilFunc], []⟩
  | 296 => ⟨.struct [(0, 56), (1, 56)], 2, 16, .agg [.int .u64 0, .int .u64 0], [.kI .u64, .kI .u64]⟩
  | 305 => ⟨.struct [(0, 9), (1, 3), (2, 3), (3, 29)], 4, 40, .agg [.str [], .int .i64 0, .int .i64 0, .int .i64 0], [.kS, .kI .i64, .kI .i64, .kI .i64]⟩
  | 306 => ⟨.func, 1, 8, .nilFunc, []⟩
  | 307 => ⟨.func, 1, 8, .nilFunc, []⟩
  | 308 => ⟨.func, 1, 8, .nilFunc, []⟩
  | 317 => ⟨.struct [(0, 3), (1, 4), (2, 29)], 3, 24, .agg [.int .i64 0, .bool false, .int .i64 0], [.kI .i64, .kB, .kI .i64]⟩
  | 329 => ⟨.ptr 50, 1, 8, .nilptr, []⟩
  | 331 => ⟨.func, 1, 8, .nilFunc, []⟩
  | 336 => ⟨.func, 1, 8, .nilFunc, []⟩
  | 338 => ⟨.func, 1, 8, .nilFunc, []⟩
  | 339 => ⟨.func, 1, 8, .nilFunc, []⟩
  | 340 => ⟨.func, 1, 8, .nilFunc, []⟩
  | 348 => ⟨.func, 1, 8, .nilFunc, []⟩
  | 349 => ⟨.func, 1, 8, .nilFunc, []⟩
  | 350 => ⟨.func, 1, 8, .nilFunc, []⟩
  | 358 => ⟨.func, 1, 8, .nilFunc, []⟩
  | 359 => ⟨.func, 1, 8, .nilFunc, []⟩
  | 360 => ⟨.func, 1, 8, .nilFunc, []⟩
  | 370 => ⟨.func, 1, 8, .nilFunc, []⟩
  | 406 => ⟨.func, 1, 8, .nilFunc, []⟩
  | 408 => ⟨.func, 1, 8, .nilFunc, []⟩
  | 411 => ⟨.int .u32, 1, 4, .int .u32 0, []⟩
  | 423 => ⟨.int .i64, 1, 8, .int .i64 0, []⟩
  | 432 => ⟨.func, 1, 8, .nilFunc, []⟩
  | 439 => ⟨.ptr 441, 1, 8, .nilptr, []⟩
  | 441 => ⟨.struct [(0, 225), (1, 105)], 2, 32, .agg [.nilptr, .list true 0 []], []⟩
  | 455 => ⟨.int .u64, 1, 8, .int .u64 0, []⟩
  | 491 => ⟨.struct [(0, 17), (1, 17), (2, 17), (3, 9)], 4, 40, .agg [.nilptr, .nilptr, .nilptr, .str []], []⟩
  | 496 => ⟨.int .u8, 1, 1, .int .u8 0, []⟩
  | 497 => ⟨.func, 1, 8, .nilFunc, []⟩
  | 498 => ⟨.ptr 5, 1, 8, .nilptr, []⟩
  | 499 => ⟨.int .i32, 1, 4, .int .i32 0, []⟩
  | 500 => ⟨.int .i32, 1, 4, .int .i32 0, []⟩
  | 502 => ⟨.struct [(0, 12), (1, 12), (2, 411), (3, 496), (4, 5), (5, 5), (6, 142), (7, 497), (8, 498), (9, 499), (10, 500)], 11, 48, .agg [.int .u64 0, .int .u64 0, .int .u32 0, .int .u8 0, .int .u8 0, .int .u8 0, .int .u8 0, .nilFunc, .nilptr, .int .i32 0, .int .i32 0], []⟩
  | 509 => ⟨.int .u16, 1, 2, .int .u16 0, []⟩
  | 513 => ⟨.int .i32, 1, 4, .int .i32 0, []⟩
  | _ => ⟨.other, 0, 0, .undef, []⟩
theorem tt1 : TIok Tryz.prog 1 (tt 1) := ⟨⟨_, _, _, Tryz.underlying1⟩, ⟨Tryz.t1, by kernel_rfl, by kernel_rfl, by kernel_rfl, .nilFunc, by kernel_rfl, zFunc⟩, fun h => absurd rfl h⟩
theorem tt2 : TIok Tryz.prog 2 (tt 2) := ⟨Tryz.underlying2, ⟨Tryz.t2, by kernel_rfl, by kernel_rfl, by kernel_rfl, .int .i64 0, by kernel_rfl, zInt⟩, fun h => absurd rfl h⟩
theorem tt3 : TIok Tryz.prog 3 (tt 3) := ⟨Tryz.underlying3, ⟨Tryz.t3, by kernel_rfl, by kernel_rfl, by kernel_rfl, .int .i64 0, by kernel_rfl, zInt⟩, fun h => absurd rfl h⟩
theorem tt4 : TIok Tryz.prog 4 (tt 4) := ⟨Tryz.underlying4, ⟨Tryz.t4, by kernel_rfl, by kernel_rfl, by kernel_rfl, .bool false, by kernel_rfl, zBool⟩, fun h => absurd rfl h⟩
theorem tt5 : TIok Tryz.prog 5 (tt 5) := ⟨Tryz.underlying5, ⟨Tryz.t5, by kernel_rfl, by kernel_rfl, by kernel_rfl, .int .u8 0, by kernel_rfl, zInt⟩, fun h => absurd rfl h⟩
theorem tt6 : TIok Tryz.prog 6 (tt 6) := ⟨Tryz.underlying6, ⟨Tryz.t6, by kernel_rfl, by kernel_rfl, by kernel_rfl, .int .u8 0, by kernel_rfl, zInt⟩, fun h => absurd rfl h⟩
theorem tt7 : TIok Tryz.prog 7 (tt 7) := ⟨⟨_, Tryz.underlying7, by kernel_rfl, by kernel_rfl⟩, ⟨Tryz.t7, by kernel_rfl, by kernel_rfl, by kernel_rfl, .agg #[.int .i64 0, .int .i64 0, .bool false, .int .u8 0], by kernel_rfl, zAgg (zCons zInt (zCons zInt (zCons zBool (zCons zInt zNil))))⟩, fun h => absurd rfl h⟩
theorem tt8 : TIok Tryz.prog 8 (tt 8) := ⟨⟨_, Tryz.underlying8, by kernel_rfl, by kernel_rfl⟩, ⟨Tryz.t8, by kernel_rfl, by kernel_rfl, by kernel_rfl, .agg #[.int .i64 0, .int .i64 0, .bool false, .int .u8 0], by kernel_rfl, zAgg (zCons zInt (zCons zInt (zCons zBool (zCons zInt zNil))))⟩, fun h => absurd rfl h⟩
theorem tt9 : TIok Tryz.prog 9 (tt 9) := ⟨Tryz.underlying9, ⟨Tryz.t9, by kernel_rfl, by kernel_rfl, by kernel_rfl, .string ⟨#[]⟩, by kernel_rfl, zStr⟩, fun h => absurd rfl h⟩
theorem tt10 : TIok Tryz.prog 10 (tt 10) := ⟨Tryz.underlying10, ⟨Tryz.t10, by kernel_rfl, by kernel_rfl, by kernel_rfl, .string ⟨#[]⟩, by kernel_rfl, zStr⟩, fun h => absurd rfl h⟩
theorem tt11 : TIok Tryz.prog 11 (tt 11) := ⟨Tryz.underlying11, ⟨Tryz.t11, by kernel_rfl, by kernel_rfl, by kernel_rfl, .string ⟨#[]⟩, by kernel_rfl, zStr⟩, fun h => absurd rfl h⟩
theorem tt12 : TIok Tryz.prog 12 (tt 12) := ⟨Tryz.underlying12, ⟨Tryz.t12, by kernel_rfl, by kernel_rfl, by kernel_rfl, .int .u64 0, by kernel_rfl, zInt⟩, fun h => absurd rfl h⟩
theorem tt13 : TIok Tryz.prog 13 (tt 13) := ⟨⟨_, Tryz.underlying13, by kernel_rfl, by kernel_rfl⟩, ⟨Tryz.t13, by kernel_rfl, by kernel_rfl, by kernel_rfl, .agg #[.string ⟨#[]⟩, .int .u64 0], by kernel_rfl, zAgg (zCons zStr (zCons zInt zNil))⟩, fun h => absurd rfl h⟩
theorem tt14 : TIok Tryz.prog 14 (tt 14) := ⟨⟨_, Tryz.underlying14, by kernel_rfl, by kernel_rfl⟩, ⟨Tryz.t14, by kernel_rfl, by kernel_rfl, by kernel_rfl, .agg #[.string ⟨#[]⟩, .int .u64 0], by kernel_rfl, zAgg (zCons zStr (zCons zInt zNil))⟩, fun h => absurd rfl h⟩
theorem tt15 : TIok Tryz.prog 15 (tt 15) := ⟨Tryz.underlying15, ⟨Tryz.t15, by kernel_rfl, by kernel_rfl, by kernel_rfl, .pointer none, by kernel_rfl, zPtr⟩, fun h => absurd rfl h⟩
theorem tt16 : TIok Tryz.prog 16 (tt 16) := ⟨Tryz.underlying16, ⟨Tryz.t16, by kernel_rfl, by kernel_rfl, by kernel_rfl, .pointer none, by kernel_rfl, zPtr⟩, fun h => absurd rfl h⟩
theorem tt17 : TIok Tryz.prog 17 (tt 17) := ⟨Tryz.underlying17, ⟨Tryz.t17, by kernel_rfl, by kernel_rfl, by kernel_rfl, .pointer none, by kernel_rfl, zPtr⟩, fun h => absurd rfl h⟩
theorem tt18 : TIok Tryz.prog 18 (tt 18) := ⟨⟨_, Tryz.underlying18, by kernel_rfl, by kernel_rfl⟩, ⟨Tryz.t18, by kernel_rfl, by kernel_rfl, by kernel_rfl, .agg #[.pointer none], by kernel_rfl, zAgg (zCons zPtr zNil)⟩, fun h => absurd rfl h⟩
theorem tt19 : TIok Tryz.prog 19 (tt 19) := ⟨⟨_, Tryz.underlying19, by kernel_rfl, by kernel_rfl⟩, ⟨Tryz.t19, by kernel_rfl, by kernel_rfl, by kernel_rfl, .agg #[.pointer none], by kernel_rfl, zAgg (zCons zPtr zNil)⟩, fun h => absurd rfl h⟩
theorem tt20 : TIok Tryz.prog 20 (tt 20) := ⟨⟨_, Tryz.underlying20⟩, ⟨Tryz.t20, by kernel_rfl, by kernel_rfl, by kernel_rfl, .nilIface, by kernel_rfl, zIface⟩, fun h => absurd rfl h⟩
theorem tt21 : TIok Tryz.prog 21 (tt 21) := ⟨Tryz.underlying21, ⟨Tryz.t21, by kernel_rfl, by kernel_rfl, by kernel_rfl, .int .i32 0, by kernel_rfl, zInt⟩, fun h => absurd rfl h⟩
theorem tt22 : TIok Tryz.prog 22 (tt 22) := ⟨⟨_, Tryz.underlying22, by kernel_rfl, by kernel_rfl⟩, ⟨Tryz.t22, by kernel_rfl, by kernel_rfl, by kernel_rfl, .agg #[.int .i64 0, .int .i64 0, .int .i64 0, .int .i64 0, .int .i64 0], by kernel_rfl, zAgg (zCons zInt (zCons zInt (zCons zInt (zCons zInt (zCons zInt zNil)))))⟩, fun h => feq_of h (by kernel_rfl) (by kernel_rfl) (by kernel_rfl) (by kernel_rfl)⟩
theorem tt23 : TIok Tryz.prog 23 (tt 23) := ⟨⟨_, Tryz.underlying23, by kernel_rfl, by kernel_rfl⟩, ⟨Tryz.t23, by kernel_rfl, by kernel_rfl, by kernel_rfl, .agg #[.int .i64 0, .int .i64 0, .int .i64 0, .int .i64 0, .int .i64 0], by kernel_rfl, zAgg (zCons zInt (zCons zInt (zCons zInt (zCons zInt (zCons zInt zNil)))))⟩, fun h => feq_of h (by kernel_rfl) (by kernel_rfl) (by kernel_rfl) (by kernel_rfl)⟩
theorem tt24 : TIok Tryz.prog 24 (tt 24) := ⟨Tryz.underlying24, ⟨Tryz.t24, by kernel_rfl, by kernel_rfl, by kernel_rfl, .slice none 0 0, by kernel_rfl, zList⟩, fun h => absurd rfl h⟩
theorem tt25 : TIok Tryz.prog 25 (tt 25) := ⟨⟨_, Tryz.underlying25, by kernel_rfl, by kernel_rfl⟩, ⟨Tryz.t25, by kernel_rfl, by kernel_rfl, by kernel_rfl, .agg #[.slice none 0 0], by kernel_rfl, zAgg (zCons zList zNil)⟩, fun h => absurd rfl h⟩
theorem tt26 : TIok Tryz.prog 26 (tt 26) := ⟨⟨_, Tryz.underlying26, by kernel_rfl, by kernel_rfl⟩, ⟨Tryz.t26, by kernel_rfl, by kernel_rfl, by kernel_rfl, .agg #[.slice none 0 0], by kernel_rfl, zAgg (zCons zList zNil)⟩, fun h => absurd rfl h⟩
theorem tt27 : TIok Tryz.prog 27 (tt 27) := ⟨⟨_, _, _, Tryz.underlying27⟩, ⟨Tryz.t27, by kernel_rfl, by kernel_rfl, by kernel_rfl, .nilFunc, by kernel_rfl, zFunc⟩, fun h => absurd rfl h⟩
theorem tt28 : TIok Tryz.prog 28 (tt 28) := ⟨⟨_, _, _, Tryz.underlying28⟩, ⟨Tryz.t28, by kernel_rfl, by kernel_rfl, by kernel_rfl, .nilFunc, by kernel_rfl, zFunc⟩, fun h => absurd rfl h⟩
theorem tt29 : TIok Tryz.prog 29 (tt 29) := ⟨Tryz.underlying29, ⟨Tryz.t29, by kernel_rfl, by kernel_rfl, by kernel_rfl, .int .i64 0, by kernel_rfl, zInt⟩, fun h => absurd rfl h⟩
theorem tt30 : TIok Tryz.prog 30 (tt 30) := ⟨⟨_, Tryz.underlying30, by kernel_rfl, by kernel_rfl⟩, ⟨Tryz.t30, by kernel_rfl, by kernel_rfl, by kernel_rfl, .agg #[.int .i64 0, .int .i64 0], by kernel_rfl, zAgg (zCons zInt (zCons zInt zNil))⟩, fun h => feq_of h (by kernel_rfl) (by kernel_rfl) (by kernel_rfl) (by kernel_rfl)⟩
theorem tt31 : TIok Tryz.prog 31 (tt 31) := ⟨⟨_, Tryz.underlying31, by kernel_rfl, by kernel_rfl⟩, ⟨Tryz.t31, by kernel_rfl, by kernel_rfl, by kernel_rfl, .agg #[.int .i64 0, .int .i64 0], by kernel_rfl, zAgg (zCons zInt (zCons zInt zNil))⟩, fun h => feq_of h (by kernel_rfl) (by kernel_rfl) (by kernel_rfl) (by kernel_rfl)⟩
theorem tt32 : TIok Tryz.prog 32 (tt 32) := ⟨⟨_, Tryz.underlying32, by kernel_rfl, by kernel_rfl⟩, ⟨Tryz.t32, by kernel_rfl, by kernel_rfl, by kernel_rfl, .agg #[.int .i64 0, .int .i64 0, .int .i64 0], by kernel_rfl, zAgg (zCons zInt (zCons zInt (zCons zInt zNil)))⟩, fun h => feq_of h (by kernel_rfl) (by kernel_rfl) (by kernel_rfl) (by kernel_rfl)⟩
theorem tt33 : TIok Tryz.prog 33 (tt 33) := ⟨⟨_, Tryz.underlying33, by kernel_rfl, by kernel_rfl⟩, ⟨Tryz.t33, by kernel_rfl, by kernel_rfl, by kernel_rfl, .agg #[.int .i64 0, .int .i64 0, .int .i64 0], by kernel_rfl, zAgg (zCons zInt (zCons zInt (zCons zInt zNil)))⟩, fun h => feq_of h (by kernel_rfl) (by kernel_rfl) (by kernel_rfl) (by kernel_rfl)⟩
theorem tt34 : TIok Tryz.prog 34 (tt 34) := ⟨⟨_, Tryz.underlying34, by kernel_rfl, by kernel_rfl⟩, ⟨Tryz.t34, by kernel_rfl, by kernel_rfl, by kernel_rfl, .agg #[.int .i64 0, .int .i64 0, .int .i64 0, .int .i64 0, .int .i64 0], by kernel_rfl, zAgg (zCons zInt (zCons zInt (zCons zInt (zCons zInt (zCons zInt zNil)))))⟩, fun h => feq_of h (by kernel_rfl) (by kernel_rfl) (by kernel_rfl) (by kernel_rfl)⟩
theorem tt35 : TIok Tryz.prog 35 (tt 35) := ⟨⟨_, Tryz.underlying35, by kernel_rfl, by kernel_rfl⟩, ⟨Tryz.t35, by kernel_rfl, by kernel_rfl, by kernel_rfl, .agg #[.int .i64 0, .int .i64 0, .int .i64 0, .int .i64 0, .int .i64 0], by kernel_rfl, zAgg (zCons zInt (zCons zInt (zCons zInt (zCons zInt (zCons zInt zNil)))))⟩, fun h => feq_of h (by kernel_rfl) (by kernel_rfl) (by kernel_rfl) (by kernel_rfl)⟩
theorem tt36 : TIok Tryz.prog 36 (tt 36) := ⟨⟨_, _, _, Tryz.underlying36⟩, ⟨Tryz.t36, by kernel_rfl, by kernel_rfl, by kernel_rfl, .nilFunc, by kernel_rfl, zFunc⟩, fun h => absurd rfl h⟩
theorem tt37 : TIok Tryz.prog 37 (tt 37) := ⟨⟨_, _, _, Tryz.underlying37⟩, ⟨Tryz.t37, by kernel_rfl, by kernel_rfl, by kernel_rfl, .nilFunc, by kernel_rfl, zFunc⟩, fun h => absurd rfl h⟩
theorem tt38 : TIok Tryz.prog 38 (tt 38) := ⟨⟨_, _, _, Tryz.underlying38⟩, ⟨Tryz.t38, by kernel_rfl, by kernel_rfl, by kernel_rfl, .nilFunc, by kernel_rfl, zFunc⟩, fun h => absurd rfl h⟩
theorem tt39 : TIok Tryz.prog 39 (tt 39) := ⟨⟨_, _, _, Tryz.underlying39⟩, ⟨Tryz.t39, by kernel_rfl, by kernel_rfl, by kernel_rfl, .nilFunc, by kernel_rfl, zFunc⟩, fun h => absurd rfl h⟩
theorem tt40 : TIok Tryz.prog 40 (tt 40) := ⟨⟨_, _, _, Tryz.underlying40⟩, ⟨Tryz.t40, by kernel_rfl, by kernel_rfl, by kernel_rfl, .nilFunc, by kernel_rfl, zFunc⟩, fun h => absurd rfl h⟩
theorem tt41 : TIok Tryz.prog 41 (tt 41) := ⟨⟨_, _, _, Tryz.underlying41⟩, ⟨Tryz.t41, by kernel_rfl, by kernel_rfl, by kernel_rfl, .nilFunc, by kernel_rfl, zFunc⟩, fun h => absurd rfl h⟩
theorem tt42 : TIok Tryz.prog 42 (tt 42) := ⟨⟨_, _, _, Tryz.underlying42⟩, ⟨Tryz.t42, by kernel_rfl, by kernel_rfl, by kernel_rfl, .nilFunc, by kernel_rfl, zFunc⟩, fun h => absurd rfl h⟩
theorem tt43 : TIok Tryz.prog 43 (tt 43) := ⟨Tryz.underlying43, ⟨Tryz.t43, by kernel_rfl, by kernel_rfl, by kernel_rfl, .slice none 0 0, by kernel_rfl, zList⟩, fun h => absurd rfl h⟩
theorem tt44 : TIok Tryz.prog 44 (tt 44) := ⟨Tryz.underlying44, ⟨Tryz.t44, by kernel_rfl, by kernel_rfl, by kernel_rfl, .slice none 0 0, by kernel_rfl, zList⟩, fun h => absurd rfl h⟩
theorem tt45 : TIok Tryz.prog 45 (tt 45) := ⟨⟨_, Tryz.underlying45, by kernel_rfl, by kernel_rfl⟩, ⟨Tryz.t45, by kernel_rfl, by kernel_rfl, by kernel_rfl, .agg #[.slice none 0 0, .slice none 0 0], by kernel_rfl, zAgg (zCons zList (zCons zList zNil))⟩, fun h => absurd rfl h⟩
theorem tt46 : TIok Tryz.prog 46 (tt 46) := ⟨⟨_, Tryz.underlying46, by kernel_rfl, by kernel_rfl⟩, ⟨Tryz.t46, by kernel_rfl, by kernel_rfl, by kernel_rfl, .agg #[.slice none 0 0, .slice none 0 0], by kernel_rfl, zAgg (zCons zList (zCons zList zNil))⟩, fun h => absurd rfl h⟩
theorem tt47 : TIok Tryz.prog 47 (tt 47) := ⟨⟨_, _, _, Tryz.underlying47⟩, ⟨Tryz.t47, by kernel_rfl, by kernel_rfl, by kernel_rfl, .nilFunc, by kernel_rfl, zFunc⟩, fun h => absurd rfl h⟩
theorem tt48 : TIok Tryz.prog 48 (tt 48) := ⟨Tryz.underlying48, ⟨Tryz.t48, by kernel_rfl, by kernel_rfl, by kernel_rfl, .slice none 0 0, by kernel_rfl, zList⟩, fun h => absurd rfl h⟩
theorem tt49 : TIok Tryz.prog 49 (tt 49) := ⟨⟨_, Tryz.underlying49, by kernel_rfl, by kernel_rfl⟩, ⟨Tryz.t49, by kernel_rfl, by kernel_rfl, by kernel_rfl, .agg #[.string ⟨#[]⟩, .string ⟨#[]⟩, .slice none 0 0], by kernel_rfl, zAgg (zCons zStr (zCons zStr (zCons zList zNil)))⟩, fun h => absurd rfl h⟩
theorem tt50 : TIok Tryz.prog 50 (tt 50) := ⟨⟨_, Tryz.underlying50, by kernel_rfl, by kernel_rfl⟩, ⟨Tryz.t50, by kernel_rfl, by kernel_rfl, by kernel_rfl, .agg #[.string ⟨#[]⟩, .string ⟨#[]⟩, .slice none 0 0], by kernel_rfl, zAgg (zCons zStr (zCons zStr (zCons zList zNil)))⟩, fun h => absurd rfl h⟩
theorem tt51 : TIok Tryz.prog 51 (tt 51) := ⟨⟨_, _, _, Tryz.underlying51⟩, ⟨Tryz.t51, by kernel_rfl, by kernel_rfl, by kernel_rfl, .nilFunc, by kernel_rfl, zFunc⟩, fun h => absurd rfl h⟩
theorem tt52 : TIok Tryz.prog 52 (tt 52) := ⟨Tryz.underlying52, ⟨Tryz.t52, by kernel_rfl, by kernel_rfl, by kernel_rfl, .agg #[.int .u8 0, .int .u8 0, .int .u8 0, .int .u8 0, .int .u8 0, .int .u8 0, .int .u8 0, .int .u8 0, .int .u8 0, .int .u8 0, .int .u8 0, .int .u8 0, .int .u8 0, .int .u8 0, .int .u8 0, .int .u8 0], by kernel_rfl, zAgg (zCons zInt (zCons zInt (zCons zInt (zCons zInt (zCons zInt (zCons zInt (zCons zInt (zCons zInt (zCons zInt (zCons zInt (zCons zInt (zCons zInt (zCons zInt (zCons zInt (zCons zInt (zCons zInt zNil))))))))))))))))⟩, fun h => absurd rfl h⟩
theorem tt53 : TIok Tryz.prog 53 (tt 53) := ⟨Tryz.underlying53, ⟨Tryz.t53, by kernel_rfl, by kernel_rfl, by kernel_rfl, .agg #[.int .u8 0, .int .u8 0, .int .u8 0, .int .u8 0, .int .u8 0, .int .u8 0, .int .u8 0, .int .u8 0, .int .u8 0, .int .u8 0, .int .u8 0, .int .u8 0, .int .u8 0, .int .u8 0, .int .u8 0, .int .u8 0], by kernel_rfl, zAgg (zCons zInt (zCons zInt (zCons zInt (zCons zInt (zCons zInt (zCons zInt (zCons zInt (zCons zInt (zCons zInt (zCons zInt (zCons zInt (zCons zInt (zCons zInt (zCons zInt (zCons zInt (zCons zInt zNil))))))))))))))))⟩, fun h => absurd rfl h⟩
theorem tt54 : TIok Tryz.prog 54 (tt 54) := ⟨Tryz.underlying54, ⟨Tryz.t54, by kernel_rfl, by kernel_rfl, by kernel_rfl, .agg #[.int .u8 0, .int .u8 0, .int .u8 0, .int .u8 0, .int .u8 0, .int .u8 0, .int .u8 0, .int .u8 0], by kernel_rfl, zAgg (zCons zInt (zCons zInt (zCons zInt (zCons zInt (zCons zInt (zCons zInt (zCons zInt (zCons zInt zNil))))))))⟩, fun h => absurd rfl h⟩
theorem tt55 : TIok Tryz.prog 55 (tt 55) := ⟨Tryz.underlying55, ⟨Tryz.t55, by kernel_rfl, by kernel_rfl, by kernel_rfl, .agg #[.int .u8 0, .int .u8 0, .int .u8 0, .int .u8 0, .int .u8 0, .int .u8 0, .int .u8 0, .int .u8 0], by kernel_rfl, zAgg (zCons zInt (zCons zInt (zCons zInt (zCons zInt (zCons zInt (zCons zInt (zCons zInt (zCons zInt zNil))))))))⟩, fun h => absurd rfl h⟩
theorem tt56 : TIok Tryz.prog 56 (tt 56) := ⟨Tryz.underlying56, ⟨Tryz.t56, by kernel_rfl, by kernel_rfl, by kernel_rfl, .int .u64 0, by kernel_rfl, zInt⟩, fun h => absurd rfl h⟩
theorem tt57 : TIok Tryz.prog 57 (tt 57) := ⟨Tryz.underlying57, ⟨Tryz.t57, by kernel_rfl, by kernel_rfl, by kernel_rfl, .slice none 0 0, by kernel_rfl, zList⟩, fun h => absurd rfl h⟩
theorem tt58 : TIok Tryz.prog 58 (tt 58) := ⟨Tryz.underlying58, ⟨Tryz.t58, by kernel_rfl, by kernel_rfl, by kernel_rfl, .slice none 0 0, by kernel_rfl, zList⟩, fun h => absurd rfl h⟩
theorem tt59 : TIok Tryz.prog 59 (tt 59) := ⟨⟨_, Tryz.underlying59, by kernel_rfl, by kernel_rfl⟩, ⟨Tryz.t59, by kernel_rfl, by kernel_rfl, by kernel_rfl, .agg #[.int .i64 0, .string ⟨#[]⟩], by kernel_rfl, zAgg (zCons zInt (zCons zStr zNil))⟩, fun h => feq_of h (by kernel_rfl) (by kernel_rfl) (by kernel_rfl) (by kernel_rfl)⟩
theorem tt60 : TIok Tryz.prog 60 (tt 60) := ⟨⟨_, Tryz.underlying60, by kernel_rfl, by kernel_rfl⟩, ⟨Tryz.t60, by kernel_rfl, by kernel_rfl, by kernel_rfl, .agg #[.int .i64 0, .string ⟨#[]⟩], by kernel_rfl, zAgg (zCons zInt (zCons zStr zNil))⟩, fun h => feq_of h (by kernel_rfl) (by kernel_rfl) (by kernel_rfl) (by kernel_rfl)⟩
theorem tt61 : TIok Tryz.prog 61 (tt 61) := ⟨⟨_, Tryz.underlying61, by kernel_rfl, by kernel_rfl⟩, ⟨Tryz.t61, by kernel_rfl, by kernel_rfl, by kernel_rfl, .agg #[.int .u8 0, .int .u8 0, .int .u8 0, .int .u8 0, .int .u8 0, .int .u8 0, .int .u8 0, .int .u8 0, .int .u8 0, .int .u8 0, .int .u8 0, .int .u8 0, .int .u8 0, .int .u8 0, .int .u8 0, .int .u8 0, .int .u8 0, .int .u8 0, .int .u8 0, .int .u8 0, .int .u8 0, .int .u8 0, .int .u8 0, .int .u8 0, .int .u8 0, .int .u8 0, .int .u8 0, .int .u8 0, .int .u8 0, .int .u8 0, .int .u8 0, .int .u8 0, .string ⟨#[]⟩, .string ⟨#[]⟩, .int .i64 0, .int .u64 0, .int .u64 0, .slice none 0 0, .slice none 0 0, .slice none 0 0, .int .i64 0, .string ⟨#[]⟩], by kernel_rfl, zAgg (zCons zInt (zCons zInt (zCons zInt (zCons zInt (zCons zInt (zCons zInt (zCons zInt (zCons zInt (zCons zInt (zCons zInt (zCons zInt (zCons zInt (zCons zInt (zCons zInt (zCons zInt (zCons zInt (zCons zInt (zCons zInt (zCons zInt (zCons zInt (zCons zInt (zCons zInt (zCons zInt (zCons zInt (zCons zInt (zCons zInt (zCons zInt (zCons zInt (zCons zInt (zCons zInt (zCons zInt (zCons zInt (zCons zStr (zCons zStr (zCons zInt (zCons zInt (zCons zInt (zCons zList (zCons zList (zCons zList (zCons zInt (zCons zStr zNil))))))))))))))))))))))))))))))))))))))))))⟩, fun h => absurd rfl h⟩
theorem tt62 : TIok Tryz.prog 62 (tt 62) := ⟨⟨_, Tryz.underlying62, by kernel_rfl, by kernel_rfl⟩, ⟨Tryz.t62, by kernel_rfl, by kernel_rfl, by kernel_rfl, .agg #[.int .u8 0, .int .u8 0, .int .u8 0, .int .u8 0, .int .u8 0, .int .u8 0, .int .u8 0, .int .u8 0, .int .u8 0, .int .u8 0, .int .u8 0, .int .u8 0, .int .u8 0, .int .u8 0, .int .u8 0, .int .u8 0, .int .u8 0, .int .u8 0, .int .u8 0, .int .u8 0, .int .u8 0, .int .u8 0, .int .u8 0, .int .u8 0, .int .u8 0, .int .u8 0, .int .u8 0, .int .u8 0, .int .u8 0, .int .u8 0, .int .u8 0, .int .u8 0, .string ⟨#[]⟩, .string ⟨#[]⟩, .int .i64 0, .int .u64 0, .int .u64 0, .slice none 0 0, .slice none 0 0, .slice none 0 0, .int .i64 0, .string ⟨#[]⟩], by kernel_rfl, zAgg (zCons zInt (zCons zInt (zCons zInt (zCons zInt (zCons zInt (zCons zInt (zCons zInt (zCons zInt (zCons zInt (zCons zInt (zCons zInt (zCons zInt (zCons zInt (zCons zInt (zCons zInt (zCons zInt (zCons zInt (zCons zInt (zCons zInt (zCons zInt (zCons zInt (zCons zInt (zCons zInt (zCons zInt (zCons zInt (zCons zInt (zCons zInt (zCons zInt (zCons zInt (zCons zInt (zCons zInt (zCons zInt (zCons zStr (zCons zStr (zCons zInt (zCons zInt (zCons zInt (zCons zList (zCons zList (zCons zList (zCons zInt (zCons zStr zNil))))))))))))))))))))))))))))))))))))))))))⟩, fun h => absurd rfl h⟩
theorem tt63 : TIok Tryz.prog 63 (tt 63) := ⟨Tryz.underlying63, ⟨Tryz.t63, by kernel_rfl, by kernel_rfl, by kernel_rfl, .int .i64 0, by kernel_rfl, zInt⟩, fun h => absurd rfl h⟩
theorem tt65 : TIok Tryz.prog 65 (tt 65) := ⟨⟨_, _, _, Tryz.underlying65⟩, ⟨Tryz.t65, by kernel_rfl, by kernel_rfl, by kernel_rfl, .nilFunc, by kernel_rfl, zFunc⟩, fun h => absurd rfl h⟩
theorem tt66 : TIok Tryz.prog 66 (tt 66) := ⟨⟨_, _, _, Tryz.underlying66⟩, ⟨Tryz.t66, by kernel_rfl, by kernel_rfl, by kernel_rfl, .nilFunc, by kernel_rfl, zFunc⟩, fun h => absurd rfl h⟩
theorem tt67 : TIok Tryz.prog 67 (tt 67) := ⟨⟨_, _, _, Tryz.underlying67⟩, ⟨Tryz.t67, by kernel_rfl, by kernel_rfl, by kernel_rfl, .nilFunc, by kernel_rfl, zFunc⟩, fun h => absurd rfl h⟩
theorem tt68 : TIok Tryz.prog 68 (tt 68) := ⟨Tryz.underlying68, ⟨Tryz.t68, by kernel_rfl, by kernel_rfl, by kernel_rfl, .slice none 0 0, by kernel_rfl, zList⟩, fun h => absurd rfl h⟩
theorem tt69 : TIok Tryz.prog 69 (tt 69) := ⟨⟨_, _, _, Tryz.underlying69⟩, ⟨Tryz.t69, by kernel_rfl, by kernel_rfl, by kernel_rfl, .nilFunc, by kernel_rfl, zFunc⟩, fun h => absurd rfl h⟩
theorem tt70 : TIok Tryz.prog 70 (tt 70) := ⟨Tryz.underlying70, ⟨Tryz.t70, by kernel_rfl, by kernel_rfl, by kernel_rfl, .slice none 0 0, by kernel_rfl, zList⟩, fun h => absurd rfl h⟩
theorem tt71 : TIok Tryz.prog 71 (tt 71) := ⟨⟨_, Tryz.underlying71, by kernel_rfl, by kernel_rfl⟩, ⟨Tryz.t71, by kernel_rfl, by kernel_rfl, by kernel_rfl, .agg #[.int .u8 0, .string ⟨#[]⟩, .int .i64 0, .int .u64 0, .slice none 0 0, .slice none 0 0], by kernel_rfl, zAgg (zCons zInt (zCons zStr (zCons zInt (zCons zInt (zCons zList (zCons zList zNil))))))⟩, fun h => absurd rfl h⟩
theorem tt72 : TIok Tryz.prog 72 (tt 72) := ⟨⟨_, Tryz.underlying72, by kernel_rfl, by kernel_rfl⟩, ⟨Tryz.t72, by kernel_rfl, by kernel_rfl, by kernel_rfl, .agg #[.int .u8 0, .string ⟨#[]⟩, .int .i64 0, .int .u64 0, .slice none 0 0, .slice none 0 0], by kernel_rfl, zAgg (zCons zInt (zCons zStr (zCons zInt (zCons zInt (zCons zList (zCons zList zNil))))))⟩, fun h => absurd rfl h⟩
theorem tt73 : TIok Tryz.prog 73 (tt 73) := ⟨⟨_, Tryz.underlying73, by kernel_rfl, by kernel_rfl⟩, ⟨Tryz.t73, by kernel_rfl, by kernel_rfl, by kernel_rfl, .agg #[.string ⟨#[]⟩, .int .u8 0, .string ⟨#[]⟩, .int .i64 0, .int .u64 0, .slice none 0 0, .slice none 0 0], by kernel_rfl, zAgg (zCons zStr (zCons zInt (zCons zStr (zCons zInt (zCons zInt (zCons zList (zCons zList zNil)))))))⟩, fun h => absurd rfl h⟩
theorem tt74 : TIok Tryz.prog 74 (tt 74) := ⟨⟨_, Tryz.underlying74, by kernel_rfl, by kernel_rfl⟩, ⟨Tryz.t74, by kernel_rfl, by kernel_rfl, by kernel_rfl, .agg #[.string ⟨#[]⟩, .int .u8 0, .string ⟨#[]⟩, .int .i64 0, .int .u64 0, .slice none 0 0, .slice none 0 0], by kernel_rfl, zAgg (zCons zStr (zCons zInt (zCons zStr (zCons zInt (zCons zInt (zCons zList (zCons zList zNil)))))))⟩, fun h => absurd rfl h⟩
theorem tt75 : TIok Tryz.prog 75 (tt 75) := ⟨⟨_, _, _, Tryz.underlying75⟩, ⟨Tryz.t75, by kernel_rfl, by kernel_rfl, by kernel_rfl, .nilFunc, by kernel_rfl, zFunc⟩, fun h => absurd rfl h⟩
theorem tt76 : TIok Tryz.prog 76 (tt 76) := ⟨Tryz.underlying76, ⟨Tryz.t76, by kernel_rfl, by kernel_rfl, by kernel_rfl, .slice none 0 0, by kernel_rfl, zList⟩, fun h => absurd rfl h⟩
theorem tt77 : TIok Tryz.prog 77 (tt 77) := ⟨⟨_, _, _, Tryz.underlying77⟩, ⟨Tryz.t77, by kernel_rfl, by kernel_rfl, by kernel_rfl, .nilFunc, by kernel_rfl, zFunc⟩, fun h => absurd rfl h⟩
theorem tt79 : TIok Tryz.prog 79 (tt 79) := ⟨⟨_, _, _, Tryz.underlying79⟩, ⟨Tryz.t79, by kernel_rfl, by kernel_rfl, by kernel_rfl, .nilFunc, by kernel_rfl, zFunc⟩, fun h => absurd rfl h⟩
theorem tt80 : TIok Tryz.prog 80 (tt 80) := ⟨⟨_, _, _, Tryz.underlying80⟩, ⟨Tryz.t80, by kernel_rfl, by kernel_rfl, by kernel_rfl, .nilFunc, by kernel_rfl, zFunc⟩, fun h => absurd rfl h⟩
theorem tt81 : TIok Tryz.prog 81 (tt 81) := ⟨⟨_, Tryz.underlying81, by kernel_rfl, by kernel_rfl⟩, ⟨Tryz.t81, by kernel_rfl, by kernel_rfl, by kernel_rfl, .agg #[.int .i64 0, .int .i64 0, .int .i64 0], by kernel_rfl, zAgg (zCons zInt (zCons zInt (zCons zInt zNil)))⟩, fun h => feq_of h (by kernel_rfl) (by kernel_rfl) (by kernel_rfl) (by kernel_rfl)⟩
theorem tt82 : TIok Tryz.prog 82 (tt 82) := ⟨⟨_, Tryz.underlying82, by kernel_rfl, by kernel_rfl⟩, ⟨Tryz.t82, by kernel_rfl, by kernel_rfl, by kernel_rfl, .agg #[.int .i64 0, .int .i64 0, .int .i64 0], by kernel_rfl, zAgg (zCons zInt (zCons zInt (zCons zInt zNil)))⟩, fun h => feq_of h (by kernel_rfl) (by kernel_rfl) (by kernel_rfl) (by kernel_rfl)⟩
theorem tt83 : TIok Tryz.prog 83 (tt 83) := ⟨⟨_, Tryz.underlying83, by kernel_rfl, by kernel_rfl⟩, ⟨Tryz.t83, by kernel_rfl, by kernel_rfl, by kernel_rfl, .agg #[.int .u64 0, .string ⟨#[]⟩, .slice none 0 0], by kernel_rfl, zAgg (zCons zInt (zCons zStr (zCons zList zNil)))⟩, fun h => absurd rfl h⟩
theorem tt84 : TIok Tryz.prog 84 (tt 84) := ⟨⟨_, Tryz.underlying84, by kernel_rfl, by kernel_rfl⟩, ⟨Tryz.t84, by kernel_rfl, by kernel_rfl, by kernel_rfl, .agg #[.int .u64 0, .string ⟨#[]⟩, .slice none 0 0], by kernel_rfl, zAgg (zCons zInt (zCons zStr (zCons zList zNil)))⟩, fun h => absurd rfl h⟩
theorem tt85 : TIok Tryz.prog 85 (tt 85) := ⟨⟨_, Tryz.underlying85, by kernel_rfl, by kernel_rfl⟩, ⟨Tryz.t85, by kernel_rfl, by kernel_rfl, by kernel_rfl, .agg #[.int .u8 0, .int .u8 0, .int .u8 0, .int .u8 0, .int .u8 0, .int .u8 0, .int .u8 0, .int .u8 0, .int .u8 0, .int .u8 0, .int .u8 0, .int .u8 0, .int .u8 0, .int .u8 0, .int .u8 0, .int .u8 0, .int .u8 0, .int .u8 0, .int .u8 0, .int .u8 0, .int .u8 0, .int .u8 0, .int .u8 0, .int .u8 0, .string ⟨#[]⟩, .slice none 0 0], by kernel_rfl, zAgg (zCons zInt (zCons zInt (zCons zInt (zCons zInt (zCons zInt (zCons zInt (zCons zInt (zCons zInt (zCons zInt (zCons zInt (zCons zInt (zCons zInt (zCons zInt (zCons zInt (zCons zInt (zCons zInt (zCons zInt (zCons zInt (zCons zInt (zCons zInt (zCons zInt (zCons zInt (zCons zInt (zCons zInt (zCons zStr (zCons zList zNil))))))))))))))))))))))))))⟩, fun h => absurd rfl h⟩
theorem tt86 : TIok Tryz.prog 86 (tt 86) := ⟨⟨_, Tryz.underlying86, by kernel_rfl, by kernel_rfl⟩, ⟨Tryz.t86, by kernel_rfl, by kernel_rfl, by kernel_rfl, .agg #[.int .u8 0, .int .u8 0, .int .u8 0, .int .u8 0, .int .u8 0, .int .u8 0, .int .u8 0, .int .u8 0, .int .u8 0, .int .u8 0, .int .u8 0, .int .u8 0, .int .u8 0, .int .u8 0, .int .u8 0, .int .u8 0, .int .u8 0, .int .u8 0, .int .u8 0, .int .u8 0, .int .u8 0, .int .u8 0, .int .u8 0, .int .u8 0, .string ⟨#[]⟩, .slice none 0 0], by kernel_rfl, zAgg (zCons zInt (zCons zInt (zCons zInt (zCons zInt (zCons zInt (zCons zInt (zCons zInt (zCons zInt (zCons zInt (zCons zInt (zCons zInt (zCons zInt (zCons zInt (zCons zInt (zCons zInt (zCons zInt (zCons zInt (zCons zInt (zCons zInt (zCons zInt (zCons zInt (zCons zInt (zCons zInt (zCons zInt (zCons zStr (zCons zList zNil))))))))))))))))))))))))))⟩, fun h => absurd rfl h⟩
theorem tt87 : TIok Tryz.prog 87 (tt 87) := ⟨⟨_, _, _, Tryz.underlying87⟩, ⟨Tryz.t87, by kernel_rfl, by kernel_rfl, by kernel_rfl, .nilFunc, by kernel_rfl, zFunc⟩, fun h => absurd rfl h⟩
theorem tt88 : TIok Tryz.prog 88 (tt 88) := ⟨⟨_, _, _, Tryz.underlying88⟩, ⟨Tryz.t88, by kernel_rfl, by kernel_rfl, by kernel_rfl, .nilFunc, by kernel_rfl, zFunc⟩, fun h => absurd rfl h⟩
theorem tt89 : TIok Tryz.prog 89 (tt 89) := ⟨⟨_, _, _, Tryz.underlying89⟩, ⟨Tryz.t89, by kernel_rfl, by kernel_rfl, by kernel_rfl, .nilFunc, by kernel_rfl, zFunc⟩, fun h => absurd rfl h⟩
theorem tt90 : TIok Tryz.prog 90 (tt 90) := ⟨⟨_, _, _, Tryz.underlying90⟩, ⟨Tryz.t90, by kernel_rfl, by kernel_rfl, by kernel_rfl, .nilFunc, by kernel_rfl, zFunc⟩, fun h => absurd rfl h⟩
theorem tt91 : TIok Tryz.prog 91 (tt 91) := ⟨⟨_, _, _, Tryz.underlying91⟩, ⟨Tryz.t91, by kernel_rfl, by kernel_rfl, by kernel_rfl, .nilFunc, by kernel_rfl, zFunc⟩, fun h => absurd rfl h⟩
theorem tt92 : TIok Tryz.prog 92 (tt 92) := ⟨⟨_, _, _, Tryz.underlying92⟩, ⟨Tryz.t92, by kernel_rfl, by kernel_rfl, by kernel_rfl, .nilFunc, by kernel_rfl, zFunc⟩, fun h => absurd rfl h⟩
theorem tt93 : TIok Tryz.prog 93 (tt 93) := ⟨⟨_, _, _, Tryz.underlying93⟩, ⟨Tryz.t93, by kernel_rfl, by kernel_rfl, by kernel_rfl, .nilFunc, by kernel_rfl, zFunc⟩, fun h => absurd rfl h⟩
theorem tt94 : TIok Tryz.prog 94 (tt 94) := ⟨⟨_, Tryz.underlying94, by kernel_rfl, by kernel_rfl⟩, ⟨Tryz.t94, by kernel_rfl, by kernel_rfl, by kernel_rfl, .agg #[.int .i64 0, .int .i64 0, .int .i64 0], by kernel_rfl, zAgg (zCons zInt (zCons zInt (zCons zInt zNil)))⟩, fun h => feq_of h (by kernel_rfl) (by kernel_rfl) (by kernel_rfl) (by kernel_rfl)⟩
theorem tt95 : TIok Tryz.prog 95 (tt 95) := ⟨⟨_, _, _, Tryz.underlying95⟩, ⟨Tryz.t95, by kernel_rfl, by kernel_rfl, by kernel_rfl, .nilFunc, by kernel_rfl, zFunc⟩, fun h => absurd rfl h⟩
theorem tt96 : TIok Tryz.prog 96 (tt 96) := ⟨Tryz.underlying96, ⟨Tryz.t96, by kernel_rfl, by kernel_rfl, by kernel_rfl, .string ⟨#[]⟩, by kernel_rfl, zStr⟩, fun h => absurd rfl h⟩
theorem tt97 : TIok Tryz.prog 97 (tt 97) := ⟨Tryz.underlying97, ⟨Tryz.t97, by kernel_rfl, by kernel_rfl, by kernel_rfl, .string ⟨#[]⟩, by kernel_rfl, zStr⟩, fun h => absurd rfl h⟩
theorem tt98 : TIok Tryz.prog 98 (tt 98) := ⟨⟨_, Tryz.underlying98⟩, ⟨Tryz.t98, by kernel_rfl, by kernel_rfl, by kernel_rfl, .nilIface, by kernel_rfl, zIface⟩, fun h => absurd rfl h⟩
theorem tt99 : TIok Tryz.prog 99 (tt 99) := ⟨⟨_, Tryz.underlying99⟩, ⟨Tryz.t99, by kernel_rfl, by kernel_rfl, by kernel_rfl, .nilIface, by kernel_rfl, zIface⟩, fun h => absurd rfl h⟩
theorem tt101 : TIok Tryz.prog 101 (tt 101) := ⟨⟨_, _, _, Tryz.underlying101⟩, ⟨Tryz.t101, by kernel_rfl, by kernel_rfl, by kernel_rfl, .nilFunc, by kernel_rfl, zFunc⟩, fun h => absurd rfl h⟩
theorem tt102 : TIok Tryz.prog 102 (tt 102) := ⟨⟨_, _, _, Tryz.underlying102⟩, ⟨Tryz.t102, by kernel_rfl, by kernel_rfl, by kernel_rfl, .nilFunc, by kernel_rfl, zFunc⟩, fun h => absurd rfl h⟩
theorem tt103 : TIok Tryz.prog 103 (tt 103) := ⟨⟨_, _, _, Tryz.underlying103⟩, ⟨Tryz.t103, by kernel_rfl, by kernel_rfl, by kernel_rfl, .nilFunc, by kernel_rfl, zFunc⟩, fun h => absurd rfl h⟩
theorem tt104 : TIok Tryz.prog 104 (tt 104) := ⟨⟨_, _, _, Tryz.underlying104⟩, ⟨Tryz.t104, by kernel_rfl, by kernel_rfl, by kernel_rfl, .nilFunc, by kernel_rfl, zFunc⟩, fun h => absurd rfl h⟩
theorem tt105 : TIok Tryz.prog 105 (tt 105) := ⟨Tryz.underlying105, ⟨Tryz.t105, by kernel_rfl, by kernel_rfl, by kernel_rfl, .slice none 0 0, by kernel_rfl, zList⟩, fun h => absurd rfl h⟩
theorem tt106 : TIok Tryz.prog 106 (tt 106) := ⟨⟨_, _, _, Tryz.underlying106⟩, ⟨Tryz.t106, by kernel_rfl, by kernel_rfl, by kernel_rfl, .nilFunc, by kernel_rfl, zFunc⟩, fun h => absurd rfl h⟩
theorem tt107 : TIok Tryz.prog 107 (tt 107) := ⟨⟨_, _, _, Tryz.underlying107⟩, ⟨Tryz.t107, by kernel_rfl, by kernel_rfl, by kernel_rfl, .nilFunc, by kernel_rfl, zFunc⟩, fun h => absurd rfl h⟩
theorem tt108 : TIok Tryz.prog 108 (tt 108) := ⟨⟨_, _, _, Tryz.underlying108⟩, ⟨Tryz.t108, by kernel_rfl, by kernel_rfl, by kernel_rfl, .nilFunc, by kernel_rfl, zFunc⟩, fun h => absurd rfl h⟩
theorem tt109 : TIok Tryz.prog 109 (tt 109) := ⟨Tryz.underlying109, ⟨Tryz.t109, by kernel_rfl, by kernel_rfl, by kernel_rfl, .slice none 0 0, by kernel_rfl, zList⟩, fun h => absurd rfl h⟩
theorem tt110 : TIok Tryz.prog 110 (tt 110) := ⟨Tryz.underlying110, ⟨Tryz.t110, by kernel_rfl, by kernel_rfl, by kernel_rfl, .slice none 0 0, by kernel_rfl, zList⟩, fun h => absurd rfl h⟩
theorem tt111 : TIok Tryz.prog 111 (tt 111) := ⟨⟨_, _, _, Tryz.underlying111⟩, ⟨Tryz.t111, by kernel_rfl, by kernel_rfl, by kernel_rfl, .nilFunc, by kernel_rfl, zFunc⟩, fun h => absurd rfl h⟩
theorem tt112 : TIok Tryz.prog 112 (tt 112) := ⟨Tryz.underlying112, ⟨Tryz.t112, by kernel_rfl, by kernel_rfl, by kernel_rfl, .int .i64 0, by kernel_rfl, zInt⟩, fun h => absurd rfl h⟩
theorem tt113 : TIok Tryz.prog 113 (tt 113) := ⟨⟨_, _, _, Tryz.underlying113⟩, ⟨Tryz.t113, by kernel_rfl, by kernel_rfl, by kernel_rfl, .nilFunc, by kernel_rfl, zFunc⟩, fun h => absurd rfl h⟩
theorem tt114 : TIok Tryz.prog 114 (tt 114) := ⟨⟨_, _, _, Tryz.underlying114⟩, ⟨Tryz.t114, by kernel_rfl, by kernel_rfl, by kernel_rfl, .nilFunc, by kernel_rfl, zFunc⟩, fun h => absurd rfl h⟩
theorem tt115 : TIok Tryz.prog 115 (tt 115) := ⟨Tryz.underlying115, ⟨Tryz.t115, by kernel_rfl, by kernel_rfl, by kernel_rfl, .agg #[.string ⟨#[]⟩, .string ⟨#[]⟩, .string ⟨#[]⟩, .string ⟨#[]⟩], by kernel_rfl, zAgg (zCons zStr (zCons zStr (zCons zStr (zCons zStr zNil))))⟩, fun h => absurd rfl h⟩
theorem tt117 : TIok Tryz.prog 117 (tt 117) := ⟨⟨_, _, _, Tryz.underlying117⟩, ⟨Tryz.t117, by kernel_rfl, by kernel_rfl, by kernel_rfl, .nilFunc, by kernel_rfl, zFunc⟩, fun h => absurd rfl h⟩
theorem tt118 : TIok Tryz.prog 118 (tt 118) := ⟨⟨_, _, _, Tryz.underlying118⟩, ⟨Tryz.t118, by kernel_rfl, by kernel_rfl, by kernel_rfl, .nilFunc, by kernel_rfl, zFunc⟩, fun h => absurd rfl h⟩
theorem tt119 : TIok Tryz.prog 119 (tt 119) := ⟨Tryz.underlying119, ⟨Tryz.t119, by kernel_rfl, by kernel_rfl, by kernel_rfl, .pointer none, by kernel_rfl, zPtr⟩, fun h => absurd rfl h⟩
theorem tt120 : TIok Tryz.prog 120 (tt 120) := ⟨⟨_, _, _, Tryz.underlying120⟩, ⟨Tryz.t120, by kernel_rfl, by kernel_rfl, by kernel_rfl, .nilFunc, by kernel_rfl, zFunc⟩, fun h => absurd rfl h⟩
theorem tt121 : TIok Tryz.prog 121 (tt 121) := ⟨Tryz.underlying121, ⟨Tryz.t121, by kernel_rfl, by kernel_rfl, by kernel_rfl, .pointer none, by kernel_rfl, zPtr⟩, fun h => absurd rfl h⟩
theorem tt122 : TIok Tryz.prog 122 (tt 122) := ⟨⟨_, Tryz.underlying122, by kernel_rfl, by kernel_rfl⟩, ⟨Tryz.t122, by kernel_rfl, by kernel_rfl, by kernel_rfl, .agg #[.int .i64 0], by kernel_rfl, zAgg (zCons zInt zNil)⟩, fun h => feq_of h (by kernel_rfl) (by kernel_rfl) (by kernel_rfl) (by kernel_rfl)⟩
theorem tt123 : TIok Tryz.prog 123 (tt 123) := ⟨⟨_, Tryz.underlying123, by kernel_rfl, by kernel_rfl⟩, ⟨Tryz.t123, by kernel_rfl, by kernel_rfl, by kernel_rfl, .agg #[.int .i64 0], by kernel_rfl, zAgg (zCons zInt zNil)⟩, fun h => feq_of h (by kernel_rfl) (by kernel_rfl) (by kernel_rfl) (by kernel_rfl)⟩
theorem tt124 : TIok Tryz.prog 124 (tt 124) := ⟨⟨_, _, _, Tryz.underlying124⟩, ⟨Tryz.t124, by kernel_rfl, by kernel_rfl, by kernel_rfl, .nilFunc, by kernel_rfl, zFunc⟩, fun h => absurd rfl h⟩
theorem tt125 : TIok Tryz.prog 125 (tt 125) := ⟨⟨_, _, _, Tryz.underlying125⟩, ⟨Tryz.t125, by kernel_rfl, by kernel_rfl, by kernel_rfl, .nilFunc, by kernel_rfl, zFunc⟩, fun h => absurd rfl h⟩
theorem tt126 : TIok Tryz.prog 126 (tt 126) := ⟨⟨_, _, _, Tryz.underlying126⟩, ⟨Tryz.t126, by kernel_rfl, by kernel_rfl, by kernel_rfl, .nilFunc, by kernel_rfl, zFunc⟩, fun h => absurd rfl h⟩
theorem tt127 : TIok Tryz.prog 127 (tt 127) := ⟨⟨_, _, _, Tryz.underlying127⟩, ⟨Tryz.t127, by kernel_rfl, by kernel_rfl, by kernel_rfl, .nilFunc, by kernel_rfl, zFunc⟩, fun h => absurd rfl h⟩
theorem tt128 : TIok Tryz.prog 128 (tt 128) := ⟨Tryz.underlying128, ⟨Tryz.t128, by kernel_rfl, by kernel_rfl, by kernel_rfl, .pointer none, by kernel_rfl, zPtr⟩, fun h => absurd rfl h⟩
theorem tt129 : TIok Tryz.prog 129 (tt 129) := ⟨⟨_, Tryz.underlying129, by kernel_rfl, by kernel_rfl⟩, ⟨Tryz.t129, by kernel_rfl, by kernel_rfl, by kernel_rfl, .agg #[.string ⟨#[]⟩, .nilIface], by kernel_rfl, zAgg (zCons zStr (zCons zIface zNil))⟩, fun h => absurd rfl h⟩
theorem tt130 : TIok Tryz.prog 130 (tt 130) := ⟨⟨_, Tryz.underlying130, by kernel_rfl, by kernel_rfl⟩, ⟨Tryz.t130, by kernel_rfl, by kernel_rfl, by kernel_rfl, .agg #[.string ⟨#[]⟩, .nilIface], by kernel_rfl, zAgg (zCons zStr (zCons zIface zNil))⟩, fun h => absurd rfl h⟩
theorem tt131 : TIok Tryz.prog 131 (tt 131) := ⟨⟨_, _, _, Tryz.underlying131⟩, ⟨Tryz.t131, by kernel_rfl, by kernel_rfl, by kernel_rfl, .nilFunc, by kernel_rfl, zFunc⟩, fun h => absurd rfl h⟩
theorem tt132 : TIok Tryz.prog 132 (tt 132) := ⟨⟨_, _, _, Tryz.underlying132⟩, ⟨Tryz.t132, by kernel_rfl, by kernel_rfl, by kernel_rfl, .nilFunc, by kernel_rfl, zFunc⟩, fun h => absurd rfl h⟩
theorem tt133 : TIok Tryz.prog 133 (tt 133) := ⟨⟨_, _, _, Tryz.underlying133⟩, ⟨Tryz.t133, by kernel_rfl, by kernel_rfl, by kernel_rfl, .nilFunc, by kernel_rfl, zFunc⟩, fun h => absurd rfl h⟩
theorem tt135 : TIok Tryz.prog 135 (tt 135) := ⟨Tryz.underlying135, ⟨Tryz.t135, by kernel_rfl, by kernel_rfl, by kernel_rfl, .int .u64 0, by kernel_rfl, zInt⟩, fun h => absurd rfl h⟩
theorem tt138 : TIok Tryz.prog 138 (tt 138) := ⟨⟨_, _, _, Tryz.underlying138⟩, ⟨Tryz.t138, by kernel_rfl, by kernel_rfl, by kernel_rfl, .nilFunc, by kernel_rfl, zFunc⟩, fun h => absurd rfl h⟩
theorem tt139 : TIok Tryz.prog 139 (tt 139) := ⟨⟨_, Tryz.underlying139⟩, ⟨Tryz.t139, by kernel_rfl, by kernel_rfl, by kernel_rfl, .nilIface, by kernel_rfl, zIface⟩, fun h => absurd rfl h⟩
theorem tt140 : TIok Tryz.prog 140 (tt 140) := ⟨⟨_, Tryz.underlying140⟩, ⟨Tryz.t140, by kernel_rfl, by kernel_rfl, by kernel_rfl, .nilIface, by kernel_rfl, zIface⟩, fun h => absurd rfl h⟩
theorem tt141 : TIok Tryz.prog 141 (tt 141) := ⟨⟨_, _, _, Tryz.underlying141⟩, ⟨Tryz.t141, by kernel_rfl, by kernel_rfl, by kernel_rfl, .nilFunc, by kernel_rfl, zFunc⟩, fun h => absurd rfl h⟩
theorem tt142 : TIok Tryz.prog 142 (tt 142) := ⟨Tryz.underlying142, ⟨Tryz.t142, by kernel_rfl, by kernel_rfl, by kernel_rfl, .int .u8 0, by kernel_rfl, zInt⟩, fun h => absurd rfl h⟩
theorem tt143 : TIok Tryz.prog 143 (tt 143) := ⟨⟨_, _, _, Tryz.underlying143⟩, ⟨Tryz.t143, by kernel_rfl, by kernel_rfl, by kernel_rfl, .nilFunc, by kernel_rfl, zFunc⟩, fun h => absurd rfl h⟩
theorem tt144 : TIok Tryz.prog 144 (tt 144) := ⟨⟨_, _, _, Tryz.underlying144⟩, ⟨Tryz.t144, by kernel_rfl, by kernel_rfl, by kernel_rfl, .nilFunc, by kernel_rfl, zFunc⟩, fun h => absurd rfl h⟩
theorem tt145 : TIok Tryz.prog 145 (tt 145) := ⟨⟨_, _, _, Tryz.underlying145⟩, ⟨Tryz.t145, by kernel_rfl, by kernel_rfl, by kernel_rfl, .nilFunc, by kernel_rfl, zFunc⟩, fun h => absurd rfl h⟩
theorem tt146 : TIok Tryz.prog 146 (tt 146) := ⟨Tryz.underlying146, ⟨Tryz.t146, by kernel_rfl, by kernel_rfl, by kernel_rfl, .agg #[.int .u8 0, .int .u8 0, .int .u8 0, .int .u8 0, .int .u8 0, .int .u8 0, .int .u8 0, .int .u8 0, .int .u8 0, .int .u8 0, .int .u8 0, .int .u8 0, .int .u8 0, .int .u8 0, .int .u8 0, .int .u8 0, .int .u8 0, .int .u8 0, .int .u8 0, .int .u8 0], by kernel_rfl, zAgg (zCons zInt (zCons zInt (zCons zInt (zCons zInt (zCons zInt (zCons zInt (zCons zInt (zCons zInt (zCons zInt (zCons zInt (zCons zInt (zCons zInt (zCons zInt (zCons zInt (zCons zInt (zCons zInt (zCons zInt (zCons zInt (zCons zInt (zCons zInt zNil))))))))))))))))))))⟩, fun h => absurd rfl h⟩
theorem tt147 : TIok Tryz.prog 147 (tt 147) := ⟨Tryz.underlying147, ⟨Tryz.t147, by kernel_rfl, by kernel_rfl, by kernel_rfl, .int .u64 0, by kernel_rfl, zInt⟩, fun h => absurd rfl h⟩
theorem tt148 : TIok Tryz.prog 148 (tt 148) := ⟨⟨_, _, _, Tryz.underlying148⟩, ⟨Tryz.t148, by kernel_rfl, by kernel_rfl, by kernel_rfl, .nilFunc, by kernel_rfl, zFunc⟩, fun h => absurd rfl h⟩
theorem tt149 : TIok Tryz.prog 149 (tt 149) := ⟨⟨_, _, _, Tryz.underlying149⟩, ⟨Tryz.t149, by kernel_rfl, by kernel_rfl, by kernel_rfl, .nilFunc, by kernel_rfl, zFunc⟩, fun h => absurd rfl h⟩
theorem tt150 : TIok Tryz.prog 150 (tt 150) := ⟨Tryz.underlying150, ⟨Tryz.t150, by kernel_rfl, by kernel_rfl, by kernel_rfl, .pointer none, by kernel_rfl, zPtr⟩, fun h => absurd rfl h⟩
theorem tt152 : TIok Tryz.prog 152 (tt 152) := ⟨⟨_, _, _, Tryz.underlying152⟩, ⟨Tryz.t152, by kernel_rfl, by kernel_rfl, by kernel_rfl, .nilFunc, by kernel_rfl, zFunc⟩, fun h => absurd rfl h⟩
theorem tt154 : TIok Tryz.prog 154 (tt 154) := ⟨⟨_, _, _, Tryz.underlying154⟩, ⟨Tryz.t154, by kernel_rfl, by kernel_rfl, by kernel_rfl, .nilFunc, by kernel_rfl, zFunc⟩, fun h => absurd rfl h⟩
theorem tt155 : TIok Tryz.prog 155 (tt 155) := ⟨Tryz.underlying155, ⟨Tryz.t155, by kernel_rfl, by kernel_rfl, by kernel_rfl, .slice none 0 0, by kernel_rfl, zList⟩, fun h => absurd rfl h⟩
theorem tt156 : TIok Tryz.prog 156 (tt 156) := ⟨⟨_, _, _, Tryz.underlying156⟩, ⟨Tryz.t156, by kernel_rfl, by kernel_rfl, by kernel_rfl, .nilFunc, by kernel_rfl, zFunc⟩, fun h => absurd rfl h⟩
theorem tt157 : TIok Tryz.prog 157 (tt 157) := ⟨⟨_, _, _, Tryz.underlying157⟩, ⟨Tryz.t157, by kernel_rfl, by kernel_rfl, by kernel_rfl, .nilFunc, by kernel_rfl, zFunc⟩, fun h => absurd rfl h⟩
theorem tt158 : TIok Tryz.prog 158 (tt 158) := ⟨⟨_, _, _, Tryz.underlying158⟩, ⟨Tryz.t158, by kernel_rfl, by kernel_rfl, by kernel_rfl, .nilFunc, by kernel_rfl, zFunc⟩, fun h => absurd rfl h⟩
theorem tt160 : TIok Tryz.prog 160 (tt 160) := ⟨⟨_, _, _, Tryz.underlying160⟩, ⟨Tryz.t160, by kernel_rfl, by kernel_rfl, by kernel_rfl, .nilFunc, by kernel_rfl, zFunc⟩, fun h => absurd rfl h⟩
theorem tt161 : TIok Tryz.prog 161 (tt 161) := ⟨Tryz.underlying161, ⟨Tryz.t161, by kernel_rfl, by kernel_rfl, by kernel_rfl, .slice none 0 0, by kernel_rfl, zList⟩, fun h => absurd rfl h⟩
theorem tt163 : TIok Tryz.prog 163 (tt 163) := ⟨⟨_, _, _, Tryz.underlying163⟩, ⟨Tryz.t163, by kernel_rfl, by kernel_rfl, by kernel_rfl, .nilFunc, by kernel_rfl, zFunc⟩, fun h => absurd rfl h⟩
theorem tt164 : TIok Tryz.prog 164 (tt 164) := ⟨⟨_, Tryz.underlying164, by kernel_rfl, by kernel_rfl⟩, ⟨Tryz.t164, by kernel_rfl, by kernel_rfl, by kernel_rfl, .agg #[.int .u8 0, .string ⟨#[]⟩, .string ⟨#[]⟩, .int .i64 0], by kernel_rfl, zAgg (zCons zInt (zCons zStr (zCons zStr (zCons zInt zNil))))⟩, fun h => feq_of h (by kernel_rfl) (by kernel_rfl) (by kernel_rfl) (by kernel_rfl)⟩
theorem tt165 : TIok Tryz.prog 165 (tt 165) := ⟨⟨_, Tryz.underlying165, by kernel_rfl, by kernel_rfl⟩, ⟨Tryz.t165, by kernel_rfl, by kernel_rfl, by kernel_rfl, .agg #[.int .u8 0, .string ⟨#[]⟩, .string ⟨#[]⟩, .int .i64 0], by kernel_rfl, zAgg (zCons zInt (zCons zStr (zCons zStr (zCons zInt zNil))))⟩, fun h => feq_of h (by kernel_rfl) (by kernel_rfl) (by kernel_rfl) (by kernel_rfl)⟩
theorem tt166 : TIok Tryz.prog 166 (tt 166) := ⟨Tryz.underlying166, ⟨Tryz.t166, by kernel_rfl, by kernel_rfl, by kernel_rfl, .slice none 0 0, by kernel_rfl, zList⟩, fun h => absurd rfl h⟩
theorem tt169 : TIok Tryz.prog 169 (tt 169) := ⟨⟨_, _, _, Tryz.underlying169⟩, ⟨Tryz.t169, by kernel_rfl, by kernel_rfl, by kernel_rfl, .nilFunc, by kernel_rfl, zFunc⟩, fun h => absurd rfl h⟩
theorem tt170 : TIok Tryz.prog 170 (tt 170) := ⟨⟨_, _, _, Tryz.underlying170⟩, ⟨Tryz.t170, by kernel_rfl, by kernel_rfl, by kernel_rfl, .nilFunc, by kernel_rfl, zFunc⟩, fun h => absurd rfl h⟩
theorem tt171 : TIok Tryz.prog 171 (tt 171) := ⟨⟨_, _, _, Tryz.underlying171⟩, ⟨Tryz.t171, by kernel_rfl, by kernel_rfl, by kernel_rfl, .nilFunc, by kernel_rfl, zFunc⟩, fun h => absurd rfl h⟩
theorem tt172 : TIok Tryz.prog 172 (tt 172) := ⟨⟨_, _, _, Tryz.underlying172⟩, ⟨Tryz.t172, by kernel_rfl, by kernel_rfl, by kernel_rfl, .nilFunc, by kernel_rfl, zFunc⟩, fun h => absurd rfl h⟩
theorem tt173 : TIok Tryz.prog 173 (tt 173) := ⟨⟨_, _, _, Tryz.underlying173⟩, ⟨Tryz.t173, by kernel_rfl, by kernel_rfl, by kernel_rfl, .nilFunc, by kernel_rfl, zFunc⟩, fun h => absurd rfl h⟩
theorem tt174 : TIok Tryz.prog 174 (tt 174) := ⟨⟨_, _, _, Tryz.underlying174⟩, ⟨Tryz.t174, by kernel_rfl, by kernel_rfl, by kernel_rfl, .nilFunc, by kernel_rfl, zFunc⟩, fun h => absurd rfl h⟩
theorem tt175 : TIok Tryz.prog 175 (tt 175) := ⟨⟨_, Tryz.underlying175, by kernel_rfl, by kernel_rfl⟩, ⟨Tryz.t175, by kernel_rfl, by kernel_rfl, by kernel_rfl, .agg #[.pointer none], by kernel_rfl, zAgg (zCons zPtr zNil)⟩, fun h => absurd rfl h⟩
theorem tt176 : TIok Tryz.prog 176 (tt 176) := ⟨⟨_, Tryz.underlying176, by kernel_rfl, by kernel_rfl⟩, ⟨Tryz.t176, by kernel_rfl, by kernel_rfl, by kernel_rfl, .agg #[.pointer none], by kernel_rfl, zAgg (zCons zPtr zNil)⟩, fun h => absurd rfl h⟩
theorem tt179 : TIok Tryz.prog 179 (tt 179) := ⟨⟨_, _, _, Tryz.underlying179⟩, ⟨Tryz.t179, by kernel_rfl, by kernel_rfl, by kernel_rfl, .nilFunc, by kernel_rfl, zFunc⟩, fun h => absurd rfl h⟩
theorem tt180 : TIok Tryz.prog 180 (tt 180) := ⟨⟨_, _, _, Tryz.underlying180⟩, ⟨Tryz.t180, by kernel_rfl, by kernel_rfl, by kernel_rfl, .nilFunc, by kernel_rfl, zFunc⟩, fun h => absurd rfl h⟩
theorem tt183 : TIok Tryz.prog 183 (tt 183) := ⟨⟨_, _, _, Tryz.underlying183⟩, ⟨Tryz.t183, by kernel_rfl, by kernel_rfl, by kernel_rfl, .nilFunc, by kernel_rfl, zFunc⟩, fun h => absurd rfl h⟩
theorem tt184 : TIok Tryz.prog 184 (tt 184) := ⟨⟨_, Tryz.underlying184⟩, ⟨Tryz.t184, by kernel_rfl, by kernel_rfl, by kernel_rfl, .nilIface, by kernel_rfl, zIface⟩, fun h => absurd rfl h⟩
theorem tt185 : TIok Tryz.prog 185 (tt 185) := ⟨⟨_, _, _, Tryz.underlying185⟩, ⟨Tryz.t185, by kernel_rfl, by kernel_rfl, by kernel_rfl, .nilFunc, by kernel_rfl, zFunc⟩, fun h => absurd rfl h⟩
theorem tt186 : TIok Tryz.prog 186 (tt 186) := ⟨⟨_, Tryz.underlying186⟩, ⟨Tryz.t186, by kernel_rfl, by kernel_rfl, by kernel_rfl, .nilIface, by kernel_rfl, zIface⟩, fun h => absurd rfl h⟩
theorem tt187 : TIok Tryz.prog 187 (tt 187) := ⟨Tryz.underlying187, ⟨Tryz.t187, by kernel_rfl, by kernel_rfl, by kernel_rfl, .slice none 0 0, by kernel_rfl, zList⟩, fun h => absurd rfl h⟩
theorem tt188 : TIok Tryz.prog 188 (tt 188) := ⟨⟨_, _, _, Tryz.underlying188⟩, ⟨Tryz.t188, by kernel_rfl, by kernel_rfl, by kernel_rfl, .nilFunc, by kernel_rfl, zFunc⟩, fun h => absurd rfl h⟩
theorem tt189 : TIok Tryz.prog 189 (tt 189) := ⟨Tryz.underlying189, ⟨Tryz.t189, by kernel_rfl, by kernel_rfl, by kernel_rfl, .slice none 0 0, by kernel_rfl, zList⟩, fun h => absurd rfl h⟩
theorem tt192 : TIok Tryz.prog 192 (tt 192) := ⟨⟨_, Tryz.underlying192, by kernel_rfl, by kernel_rfl⟩, ⟨Tryz.t192, by kernel_rfl, by kernel_rfl, by kernel_rfl, .agg #[.slice none 0 0], by kernel_rfl, zAgg (zCons zList zNil)⟩, fun h => absurd rfl h⟩
theorem tt193 : TIok Tryz.prog 193 (tt 193) := ⟨⟨_, Tryz.underlying193, by kernel_rfl, by kernel_rfl⟩, ⟨Tryz.t193, by kernel_rfl, by kernel_rfl, by kernel_rfl, .agg #[.slice none 0 0], by kernel_rfl, zAgg (zCons zList zNil)⟩, fun h => absurd rfl h⟩
theorem tt200 : TIok Tryz.prog 200 (tt 200) := ⟨⟨_, Tryz.underlying200, by kernel_rfl, by kernel_rfl⟩, ⟨Tryz.t200, by kernel_rfl, by kernel_rfl, by kernel_rfl, .agg #[.int .i64 0, .int .i64 0, .int .u64 0, .string ⟨#[]⟩], by kernel_rfl, zAgg (zCons zInt (zCons zInt (zCons zInt (zCons zStr zNil))))⟩, fun h => feq_of h (by kernel_rfl) (by kernel_rfl) (by kernel_rfl) (by kernel_rfl)⟩
theorem tt201 : TIok Tryz.prog 201 (tt 201) := ⟨⟨_, _, _, Tryz.underlying201⟩, ⟨Tryz.t201, by kernel_rfl, by kernel_rfl, by kernel_rfl, .nilFunc, by kernel_rfl, zFunc⟩, fun h => absurd rfl h⟩
theorem tt211 : TIok Tryz.prog 211 (tt 211) := ⟨Tryz.underlying211, ⟨Tryz.t211, by kernel_rfl, by kernel_rfl, by kernel_rfl, .slice none 0 0, by kernel_rfl, zList⟩, fun h => absurd rfl h⟩
theorem tt215 : TIok Tryz.prog 215 (tt 215) := ⟨⟨_, Tryz.underlying215, by kernel_rfl, by kernel_rfl⟩, ⟨Tryz.t215, by kernel_rfl, by kernel_rfl, by kernel_rfl, .agg #[.int .i64 0, .int .u8 0, .int .i64 0, .int .u64 0, .string ⟨#[]⟩, .string ⟨#[]⟩], by kernel_rfl, zAgg (zCons zInt (zCons zInt (zCons zInt (zCons zInt (zCons zStr (zCons zStr zNil))))))⟩, fun h => feq_of h (by kernel_rfl) (by kernel_rfl) (by kernel_rfl) (by kernel_rfl)⟩
theorem tt220 : TIok Tryz.prog 220 (tt 220) := ⟨⟨_, _, _, Tryz.underlying220⟩, ⟨Tryz.t220, by kernel_rfl, by kernel_rfl, by kernel_rfl, .nilFunc, by kernel_rfl, zFunc⟩, fun h => absurd rfl h⟩
theorem tt222 : TIok Tryz.prog 222 (tt 222) := ⟨⟨_, _, _, Tryz.underlying222⟩, ⟨Tryz.t222, by kernel_rfl, by kernel_rfl, by kernel_rfl, .nilFunc, by kernel_rfl, zFunc⟩, fun h => absurd rfl h⟩
theorem tt224 : TIok Tryz.prog 224 (tt 224) := ⟨Tryz.underlying224, ⟨Tryz.t224, by kernel_rfl, by kernel_rfl, by kernel_rfl, .pointer none, by kernel_rfl, zPtr⟩, fun h => absurd rfl h⟩
theorem tt225 : TIok Tryz.prog 225 (tt 225) := ⟨Tryz.underlying225, ⟨Tryz.t225, by kernel_rfl, by kernel_rfl, by kernel_rfl, .pointer none, by kernel_rfl, zPtr⟩, fun h => absurd rfl h⟩
theorem tt228 : TIok Tryz.prog 228 (tt 228) := ⟨⟨_, Tryz.underlying228, by kernel_rfl, by kernel_rfl⟩, ⟨Tryz.t228, by kernel_rfl, by kernel_rfl, by kernel_rfl, .agg #[.pointer none, .slice none 0 0], by kernel_rfl, zAgg (zCons zPtr (zCons zList zNil))⟩, fun h => absurd rfl h⟩
theorem tt229 : TIok Tryz.prog 229 (tt 229) := ⟨Tryz.underlying229, ⟨Tryz.t229, by kernel_rfl, by kernel_rfl, by kernel_rfl, .int .i64 0, by kernel_rfl, zInt⟩, fun h => absurd rfl h⟩
theorem tt233 : TIok Tryz.prog 233 (tt 233) := ⟨⟨_, Tryz.underlying233, by kernel_rfl, by kernel_rfl⟩, ⟨Tryz.t233, by kernel_rfl, by kernel_rfl, by kernel_rfl, .agg #[.int .u8 0, .string ⟨#[]⟩], by kernel_rfl, zAgg (zCons zInt (zCons zStr zNil))⟩, fun h => feq_of h (by kernel_rfl) (by kernel_rfl) (by kernel_rfl) (by kernel_rfl)⟩
theorem tt235 : TIok Tryz.prog 235 (tt 235) := ⟨Tryz.underlying235, ⟨Tryz.t235, by kernel_rfl, by kernel_rfl, by kernel_rfl, .int .i64 0, by kernel_rfl, zInt⟩, fun h => absurd rfl h⟩
theorem tt240 : TIok Tryz.prog 240 (tt 240) := ⟨Tryz.underlying240, ⟨Tryz.t240, by kernel_rfl, by kernel_rfl, by kernel_rfl, .pointer none, by kernel_rfl, zPtr⟩, fun h => absurd rfl h⟩
theorem tt241 : TIok Tryz.prog 241 (tt 241) := ⟨⟨_, _, _, Tryz.underlying241⟩, ⟨Tryz.t241, by kernel_rfl, by kernel_rfl, by kernel_rfl, .nilFunc, by kernel_rfl, zFunc⟩, fun h => absurd rfl h⟩
theorem tt242 : TIok Tryz.prog 242 (tt 242) := ⟨⟨_, _, _, Tryz.underlying242⟩, ⟨Tryz.t242, by kernel_rfl, by kernel_rfl, by kernel_rfl, .nilFunc, by kernel_rfl, zFunc⟩, fun h => absurd rfl h⟩
theorem tt243 : TIok Tryz.prog 243 (tt 243) := ⟨⟨_, _, _, Tryz.underlying243⟩, ⟨Tryz.t243, by kernel_rfl, by kernel_rfl, by kernel_rfl, .nilFunc, by kernel_rfl, zFunc⟩, fun h => absurd rfl h⟩
theorem tt244 : TIok Tryz.prog 244 (tt 244) := ⟨⟨_, _, _, Tryz.underlying244⟩, ⟨Tryz.t244, by kernel_rfl, by kernel_rfl, by kernel_rfl, .nilFunc, by kernel_rfl, zFunc⟩, fun h => absurd rfl h⟩
theorem tt245 : TIok Tryz.prog 245 (tt 245) := ⟨⟨_, _, _, Tryz.underlying245⟩, ⟨Tryz.t245, by kernel_rfl, by kernel_rfl, by kernel_rfl, .nilFunc, by kernel_rfl, zFunc⟩, fun h => absurd rfl h⟩
theorem tt246 : TIok Tryz.prog 246 (tt 246) := ⟨⟨_, _, _, Tryz.underlying246⟩, ⟨Tryz.t246, by kernel_rfl, by kernel_rfl, by kernel_rfl, .nilFunc, by kernel_rfl, zFunc⟩, fun h => absurd rfl h⟩
theorem tt247 : TIok Tryz.prog 247 (tt 247) := ⟨⟨_, _, _, Tryz.underlying247⟩, ⟨Tryz.t247, by kernel_rfl, by kernel_rfl, by kernel_rfl, .nilFunc, by kernel_rfl, zFunc⟩, fun h => absurd rfl h⟩
theorem tt248 : TIok Tryz.prog 248 (tt 248) := ⟨Tryz.underlying248, ⟨Tryz.t248, by kernel_rfl, by kernel_rfl, by kernel_rfl, .pointer none, by kernel_rfl, zPtr⟩, fun h => absurd rfl h⟩
theorem tt249 : TIok Tryz.prog 249 (tt 249) := ⟨Tryz.underlying249, ⟨Tryz.t249, by kernel_rfl, by kernel_rfl, by kernel_rfl, .map none, by kernel_rfl, zMap⟩, fun _ => key_str Tryz.underlying9⟩
theorem tt251 : TIok Tryz.prog 251 (tt 251) := ⟨⟨_, Tryz.underlying251, by kernel_rfl, by kernel_rfl⟩, ⟨Tryz.t251, by kernel_rfl, by kernel_rfl, by kernel_rfl, .agg #[.map none, .slice none 0 0], by kernel_rfl, zAgg (zCons zMap (zCons zList zNil))⟩, fun h => absurd rfl h⟩
theorem tt256 : TIok Tryz.prog 256 (tt 256) := ⟨⟨_, _, _, Tryz.underlying256⟩, ⟨Tryz.t256, by kernel_rfl, by kernel_rfl, by kernel_rfl, .nilFunc, by kernel_rfl, zFunc⟩, fun h => absurd rfl h⟩
theorem tt261 : TIok Tryz.prog 261 (tt 261) := ⟨⟨_, _, _, Tryz.underlying261⟩, ⟨Tryz.t261, by kernel_rfl, by kernel_rfl, by kernel_rfl, .nilFunc, by kernel_rfl, zFunc⟩, fun h => absurd rfl h⟩
theorem tt263 : TIok Tryz.prog 263 (tt 263) := ⟨⟨_, _, _, Tryz.underlying263⟩, ⟨Tryz.t263, by kernel_rfl, by kernel_rfl, by kernel_rfl, .nilFunc, by kernel_rfl, zFunc⟩, fun h => absurd rfl h⟩
theorem tt293 : TIok Tryz.prog 293 (tt 293) := ⟨⟨_, _, _, Tryz.underlying293⟩, ⟨Tryz.t293, by kernel_rfl, by kernel_rfl, by kernel_rfl, .nilFunc, by kernel_rfl, zFunc⟩, fun h => absurd rfl h⟩
theorem tt294 : TIok Tryz.prog 294 (tt 294) := ⟨⟨_, Tryz.underlying294, by kernel_rfl, by kernel_rfl⟩, ⟨Tryz.t294, by kernel_rfl, by kernel_rfl, by kernel_rfl, .agg #[.slice none 0 0, .int .i64 0, .int .i64 0, .nilFunc], by kernel_rfl, zAgg (zCons zList (zCons zInt (zCons zInt (zCons zFunc zNil))))⟩, fun h => absurd rfl h⟩
theorem tt295 : TIok Tryz.prog 295 (tt 295) := ⟨⟨_, Tryz.underlying295, by kernel_rfl, by kernel_rfl⟩, ⟨Tryz.t295, by kernel_rfl, by kernel_rfl, by kernel_rfl, .agg #[.slice none 0 0, .int .i64 0, .int .i64 0, .nilFunc], by kernel_rfl, zAgg (zCons zList (zCons zInt (zCons zInt (zCons zFunc zNil))))⟩, fun h => absurd rfl h⟩
theorem tt296 : TIok Tryz.prog 296 (tt 296) := ⟨⟨_, Tryz.underlying296, by kernel_rfl, by kernel_rfl⟩, ⟨Tryz.t296, by kernel_rfl, by kernel_rfl, by kernel_rfl, .agg #[.int .u64 0, .int .u64 0], by kernel_rfl, zAgg (zCons zInt (zCons zInt zNil))⟩, fun h => feq_of h (by kernel_rfl) (by kernel_rfl) (by kernel_rfl) (by kernel_rfl)⟩
theorem tt305 : TIok Tryz.prog 305 (tt 305) := ⟨⟨_, Tryz.underlying305, by kernel_rfl, by kernel_rfl⟩, ⟨Tryz.t305, by kernel_rfl, by kernel_rfl, by kernel_rfl, .agg #[.string ⟨#[]⟩, .int .i64 0, .int .i64 0, .int .i64 0], by kernel_rfl, zAgg (zCons zStr (zCons zInt (zCons zInt (zCons zInt zNil))))⟩, fun h => feq_of h (by kernel_rfl) (by kernel_rfl) (by kernel_rfl) (by kernel_rfl)⟩
theorem tt306 : TIok Tryz.prog 306 (tt 306) := ⟨⟨_, _, _, Tryz.underlying306⟩, ⟨Tryz.t306, by kernel_rfl, by kernel_rfl, by kernel_rfl, .nilFunc, by kernel_rfl, zFunc⟩, fun h => absurd rfl h⟩
theorem tt307 : TIok Tryz.prog 307 (tt 307) := ⟨⟨_, _, _, Tryz.underlying307⟩, ⟨Tryz.t307, by kernel_rfl, by kernel_rfl, by kernel_rfl, .nilFunc, by kernel_rfl, zFunc⟩, fun h => absurd rfl h⟩
theorem tt308 : TIok Tryz.prog 308 (tt 308) := ⟨⟨_, _, _, Tryz.underlying308⟩, ⟨Tryz.t308, by kernel_rfl, by kernel_rfl, by kernel_rfl, .nilFunc, by kernel_rfl, zFunc⟩, fun h => absurd rfl h⟩
theorem tt317 : TIok Tryz.prog 317 (tt 317) := ⟨⟨_, Tryz.underlying317, by kernel_rfl, by kernel_rfl⟩, ⟨Tryz.t317, by kernel_rfl, by kernel_rfl, by kernel_rfl, .agg #[.int .i64 0, .bool false, .int .i64 0], by kernel_rfl, zAgg (zCons zInt (zCons zBool (zCons zInt zNil)))⟩, fun h => feq_of h (by kernel_rfl) (by kernel_rfl) (by kernel_rfl) (by kernel_rfl)⟩
theorem tt329 : TIok Tryz.prog 329 (tt 329) := ⟨Tryz.underlying329, ⟨Tryz.t329, by kernel_rfl, by kernel_rfl, by kernel_rfl, .pointer none, by kernel_rfl, zPtr⟩, fun h => absurd rfl h⟩
theorem tt331 : TIok Tryz.prog 331 (tt 331) := ⟨⟨_, _, _, Tryz.underlying331⟩, ⟨Tryz.t331, by kernel_rfl, by kernel_rfl, by kernel_rfl, .nilFunc, by kernel_rfl, zFunc⟩, fun h => absurd rfl h⟩
theorem tt336 : TIok Tryz.prog 336 (tt 336) := ⟨⟨_, _, _, Tryz.underlying336⟩, ⟨Tryz.t336, by kernel_rfl, by kernel_rfl, by kernel_rfl, .nilFunc, by kernel_rfl, zFunc⟩, fun h => absurd rfl h⟩
theorem tt338 : TIok Tryz.prog 338 (tt 338) := ⟨⟨_, _, _, Tryz.underlying338⟩, ⟨Tryz.t338, by kernel_rfl, by kernel_rfl, by kernel_rfl, .nilFunc, by kernel_rfl, zFunc⟩, fun h => absurd rfl h⟩
theorem tt339 : TIok Tryz.prog 339 (tt 339) := ⟨⟨_, _, _, Tryz.underlying339⟩, ⟨Tryz.t339, by kernel_rfl, by kernel_rfl, by kernel_rfl, .nilFunc, by kernel_rfl, zFunc⟩, fun h => absurd rfl h⟩
theorem tt340 : TIok Tryz.prog 340 (tt 340) := ⟨⟨_, _, _, Tryz.underlying340⟩, ⟨Tryz.t340, by kernel_rfl, by kernel_rfl, by kernel_rfl, .nilFunc, by kernel_rfl, zFunc⟩, fun h => absurd rfl h⟩
theorem tt348 : TIok Tryz.prog 348 (tt 348) := ⟨⟨_, _, _, Tryz.underlying348⟩, ⟨Tryz.t348, by kernel_rfl, by kernel_rfl, by kernel_rfl, .nilFunc, by kernel_rfl, zFunc⟩, fun h => absurd rfl h⟩
theorem tt349 : TIok Tryz.prog 349 (tt 349) := ⟨⟨_, _, _, Tryz.underlying349⟩, ⟨Tryz.t349, by kernel_rfl, by kernel_rfl, by kernel_rfl, .nilFunc, by kernel_rfl, zFunc⟩, fun h => absurd rfl h⟩
theorem tt350 : TIok Tryz.prog 350 (tt 350) := ⟨⟨_, _, _, Tryz.underlying350⟩, ⟨Tryz.t350, by kernel_rfl, by kernel_rfl, by kernel_rfl, .nilFunc, by kernel_rfl, zFunc⟩, fun h => absurd rfl h⟩
theorem tt358 : TIok Tryz.prog 358 (tt 358) := ⟨⟨_, _, _, Tryz.underlying358⟩, ⟨Tryz.t358, by kernel_rfl, by kernel_rfl, by kernel_rfl, .nilFunc, by kernel_rfl, zFunc⟩, fun h => absurd rfl h⟩
theorem tt359 : TIok Tryz.prog 359 (tt 359) := ⟨⟨_, _, _, Tryz.underlying359⟩, ⟨Tryz.t359, by kernel_rfl, by kernel_rfl, by kernel_rfl, .nilFunc, by kernel_rfl, zFunc⟩, fun h => absurd rfl h⟩
theorem tt360 : TIok Tryz.prog 360 (tt 360) := ⟨⟨_, _, _, Tryz.underlying360⟩, ⟨Tryz.t360, by kernel_rfl, by kernel_rfl, by kernel_rfl, .nilFunc, by kernel_rfl, zFunc⟩, fun h => absurd rfl h⟩
theorem tt370 : TIok Tryz.prog 370 (tt 370) := ⟨⟨_, _, _, Tryz.underlying370⟩, ⟨Tryz.t370, by kernel_rfl, by kernel_rfl, by kernel_rfl, .nilFunc, by kernel_rfl, zFunc⟩, fun h => absurd rfl h⟩
theorem tt406 : TIok Tryz.prog 406 (tt 406) := ⟨⟨_, _, _, Tryz.underlying406⟩, ⟨Tryz.t406, by kernel_rfl, by kernel_rfl, by kernel_rfl, .nilFunc, by kernel_rfl, zFunc⟩, fun h => absurd rfl h⟩
theorem tt408 : TIok Tryz.prog 408 (tt 408) := ⟨⟨_, _, _, Tryz.underlying408⟩, ⟨Tryz.t408, by kernel_rfl, by kernel_rfl, by kernel_rfl, .nilFunc, by kernel_rfl, zFunc⟩, fun h => absurd rfl h⟩
theorem tt411 : TIok Tryz.prog 411 (tt 411) := ⟨Tryz.underlying411, ⟨Tryz.t411, by kernel_rfl, by kernel_rfl, by kernel_rfl, .int .u32 0, by kernel_rfl, zInt⟩, fun h => absurd rfl h⟩
theorem tt423 : TIok Tryz.prog 423 (tt 423) := ⟨Tryz.underlying423, ⟨Tryz.t423, by kernel_rfl, by kernel_rfl, by kernel_rfl, .int .i64 0, by kernel_rfl, zInt⟩, fun h => absurd rfl h⟩
theorem tt432 : TIok Tryz.prog 432 (tt 432) := ⟨⟨_, _, _, Tryz.underlying432⟩, ⟨Tryz.t432, by kernel_rfl, by kernel_rfl, by kernel_rfl, .nilFunc, by kernel_rfl, zFunc⟩, fun h => absurd rfl h⟩
theorem tt439 : TIok Tryz.prog 439 (tt 439) := ⟨Tryz.underlying439, ⟨Tryz.t439, by kernel_rfl, by kernel_rfl, by kernel_rfl, .pointer none, by kernel_rfl, zPtr⟩, fun h => absurd rfl h⟩
theorem tt441 : TIok Tryz.prog 441 (tt 441) := ⟨⟨_, Tryz.underlying441, by kernel_rfl, by kernel_rfl⟩, ⟨Tryz.t441, by kernel_rfl, by kernel_rfl, by kernel_rfl, .agg #[.pointer none, .slice none 0 0], by kernel_rfl, zAgg (zCons zPtr (zCons zList zNil))⟩, fun h => absurd rfl h⟩
theorem tt455 : TIok Tryz.prog 455 (tt 455) := ⟨Tryz.underlying455, ⟨Tryz.t455, by kernel_rfl, by kernel_rfl, by kernel_rfl, .int .u64 0, by kernel_rfl, zInt⟩, fun h => absurd rfl h⟩
theorem tt491 : TIok Tryz.prog 491 (tt 491) := ⟨⟨_, Tryz.underlying491, by kernel_rfl, by kernel_rfl⟩, ⟨Tryz.t491, by kernel_rfl, by kernel_rfl, by kernel_rfl, .agg #[.pointer none, .pointer none, .pointer none, .string ⟨#[]⟩], by kernel_rfl, zAgg (zCons zPtr (zCons zPtr (zCons zPtr (zCons zStr zNil))))⟩, fun h => absurd rfl h⟩
theorem tt496 : TIok Tryz.prog 496 (tt 496) := ⟨Tryz.underlying496, ⟨Tryz.t496, by kernel_rfl, by kernel_rfl, by kernel_rfl, .int .u8 0, by kernel_rfl, zInt⟩, fun h => absurd rfl h⟩
theorem tt497 : TIok Tryz.prog 497 (tt 497) := ⟨⟨_, _, _, Tryz.underlying497⟩, ⟨Tryz.t497, by kernel_rfl, by kernel_rfl, by kernel_rfl, .nilFunc, by kernel_rfl, zFunc⟩, fun h => absurd rfl h⟩
theorem tt498 : TIok Tryz.prog 498 (tt 498) := ⟨Tryz.underlying498, ⟨Tryz.t498, by kernel_rfl, by kernel_rfl, by kernel_rfl, .pointer none, by kernel_rfl, zPtr⟩, fun h => absurd rfl h⟩
theorem tt499 : TIok Tryz.prog 499 (tt 499) := ⟨Tryz.underlying499, ⟨Tryz.t499, by kernel_rfl, by kernel_rfl, by kernel_rfl, .int .i32 0, by kernel_rfl, zInt⟩, fun h => absurd rfl h⟩
theorem tt500 : TIok Tryz.prog 500 (tt 500) := ⟨Tryz.underlying500, ⟨Tryz.t500, by kernel_rfl, by kernel_rfl, by kernel_rfl, .int .i32 0, by kernel_rfl, zInt⟩, fun h => absurd rfl h⟩
theorem tt502 : TIok Tryz.prog 502 (tt 502) := ⟨⟨_, Tryz.underlying502, by kernel_rfl, by kernel_rfl⟩, ⟨Tryz.t502, by kernel_rfl, by kernel_rfl, by kernel_rfl, .agg #[.int .u64 0, .int .u64 0, .int .u32 0, .int .u8 0, .int .u8 0, .int .u8 0, .int .u8 0, .nilFunc, .pointer none, .int .i32 0, .int .i32 0], by kernel_rfl, zAgg (zCons zInt (zCons zInt (zCons zInt (zCons zInt (zCons zInt (zCons zInt (zCons zInt (zCons zFunc (zCons zPtr (zCons zInt (zCons zInt zNil)))))))))))⟩, fun h => absurd rfl h⟩
theorem tt509 : TIok Tryz.prog 509 (tt 509) := ⟨Tryz.underlying509, ⟨Tryz.t509, by kernel_rfl, by kernel_rfl, by kernel_rfl, .int .u16 0, by kernel_rfl, zInt⟩, fun h => absurd rfl h⟩
theorem tt513 : TIok Tryz.prog 513 (tt 513) := ⟨Tryz.underlying513, ⟨Tryz.t513, by kernel_rfl, by kernel_rfl, by kernel_rfl, .int .i32 0, by kernel_rfl, zInt⟩, fun h => absurd rfl h⟩
theorem tt_ok : ∀ t, TIok Tryz.prog t (tt t) := fun t => by
  unfold tt
  split
  · exact tt1
  · exact tt2
  · exact tt3
  · exact tt4
  · exact tt5
  · exact tt6
  · exact tt7
  · exact tt8
  · exact tt9
  · exact tt10
  · exact tt11
  · exact tt12
  · exact tt13
  · exact tt14
  · exact tt15
  · exact tt16
  · exact tt17
  · exact tt18
  · exact tt19
  · exact tt20
  · exact tt21
  · exact tt22
  · exact tt23
  · exact tt24
  · exact tt25
  · exact tt26
  · exact tt27
  · exact tt28
  · exact tt29
  · exact tt30
  · exact tt31
  · exact tt32
  · exact tt33
  · exact tt34
  · exact tt35
  · exact tt36
  · exact tt37
  · exact tt38
  · exact tt39
  · exact tt40
  · exact tt41
  · exact tt42
  · exact tt43
  · exact tt44
  · exact tt45
  · exact tt46
  · exact tt47
  · exact tt48
  · exact tt49
  · exact tt50
  · exact tt51
  · exact tt52
  · exact tt53
  · exact tt54
  · exact tt55
  · exact tt56
  · exact tt57
  · exact tt58
  · exact tt59
  · exact tt60
  · exact tt61
  · exact tt62
  · exact tt63
  · exact tt65
  · exact tt66
  · exact tt67
  · exact tt68
  · exact tt69
  · exact tt70
  · exact tt71
  · exact tt72
  · exact tt73
  · exact tt74
  · exact tt75
  · exact tt76
  · exact tt77
  · exact tt79
  · exact tt80
  · exact tt81
  · exact tt82
  · exact tt83
  · exact tt84
  · exact tt85
  · exact tt86
  · exact tt87
  · exact tt88
  · exact tt89
  · exact tt90
  · exact tt91
  · exact tt92
  · exact tt93
  · exact tt94
  · exact tt95
  · exact tt96
  · exact tt97
  · exact tt98
  · exact tt99
  · exact tt101
  · exact tt102
  · exact tt103
  · exact tt104
  · exact tt105
  · exact tt106
  · exact tt107
  · exact tt108
  · exact tt109
  · exact tt110
  · exact tt111
  · exact tt112
  · exact tt113
  · exact tt114
  · exact tt115
  · exact tt117
  · exact tt118
  · exact tt119
  · exact tt120
  · exact tt121
  · exact tt122
  · exact tt123
  · exact tt124
  · exact tt125
  · exact tt126
  · exact tt127
  · exact tt128
  · exact tt129
  · exact tt130
  · exact tt131
  · exact tt132
  · exact tt133
  · exact tt135
  · exact tt138
  · exact tt139
  · exact tt140
  · exact tt141
  · exact tt142
  · exact tt143
  · exact tt144
  · exact tt145
  · exact tt146
  · exact tt147
  · exact tt148
  · exact tt149
  · exact tt150
  · exact tt152
  · exact tt154
  · exact tt155
  · exact tt156
  · exact tt157
  · exact tt158
  · exact tt160
  · exact tt161
  · exact tt163
  · exact tt164
  · exact tt165
  · exact tt166
  · exact tt169
  · exact tt170
  · exact tt171
  · exact tt172
  · exact tt173
  · exact tt174
  · exact tt175
  · exact tt176
  · exact tt179
  · exact tt180
  · exact tt183
  · exact tt184
  · exact tt185
  · exact tt186
  · exact tt187
  · exact tt188
  · exact tt189
  · exact tt192
  · exact tt193
  · exact tt200
  · exact tt201
  · exact tt211
  · exact tt215
  · exact tt220
  · exact tt222
  · exact tt224
  · exact tt225
  · exact tt228
  · exact tt229
  · exact tt233
  · exact tt235
  · exact tt240
  · exact tt241
  · exact tt242
  · exact tt243
  · exact tt244
  · exact tt245
  · exact tt246
  · exact tt247
  · exact tt248
  · exact tt249
  · exact tt251
  · exact tt256
  · exact tt261
  · exact tt263
  · exact tt293
  · exact tt294
  · exact tt295
  · exact tt296
  · exact tt305
  · exact tt306
  · exact tt307
  · exact tt308
  · exact tt317
  · exact tt329
  · exact tt331
  · exact tt336
  · exact tt338
  · exact tt339
  · exact tt340
  · exact tt348
  · exact tt349
  · exact tt350
  · exact tt358
  · exact tt359
  · exact tt360
  · exact tt370
  · exact tt406
  · exact tt408
  · exact tt411
  · exact tt423
  · exact tt432
  · exact tt439
  · exact tt441
  · exact tt455
  · exact tt491
  · exact tt496
  · exact tt497
  · exact tt498
  · exact tt499
  · exact tt500
  · exact tt502
  · exact tt509
  · exact tt513
  · trivial
def dataTy : TypeId → Bool := fun t => match t with
  | 2 => true
  | 3 => true
  | 4 => true
  | 5 => true
  | 6 => true
  | 7 => true
  | 8 => true
  | 9 => true
  | 10 => true
  | 11 => true
  | 12 => true
  | 13 => true
  | 14 => true
  | 21 => true
  | 22 => true
  | 23 => true
  | 24 => true
  | 25 => true
  | 26 => true
  | 29 => true
  | 30 => true
  | 31 => true
  | 32 => true
  | 33 => true
  | 34 => true
  | 35 => true
  | 43 => true
  | 44 => true
  | 45 => true
  | 46 => true
  | 48 => true
  | 49 => true
  | 50 => true
  | 52 => true
  | 53 => true
  | 54 => true
  | 55 => true
  | 56 => true
  | 57 => true
  | 58 => true
  | 59 => true
  | 60 => true
  | 61 => true
  | 62 => true
  | 63 => true
  | 68 => true
  | 70 => true
  | 71 => true
  | 72 => true
  | 73 => true
  | 74 => true
  | 76 => true
  | 81 => true
  | 82 => true
  | 83 => true
  | 84 => true
  | 85 => true
  | 86 => true
  | 94 => true
  | 96 => true
  | 97 => true
  | 105 => true
  | 109 => true
  | 110 => true
  | 112 => true
  | 115 => true
  | 122 => true
  | 123 => true
  | 135 => true
  | 142 => true
  | 146 => true
  | 147 => true
  | 155 => true
  | 161 => true
  | 164 => true
  | 165 => true
  | 166 => true
  | 189 => true
  | 192 => true
  | 193 => true
  | 200 => true
  | 211 => true
  | 215 => true
  | 229 => true
  | 233 => true
  | 235 => true
  | 296 => true
  | 305 => true
  | 317 => true
  | 411 => true
  | 423 => true
  | 455 => true
  | 496 => true
  | 499 => true
  | 500 => true
  | 509 => true
  | 513 => true
  | _ => false
theorem dataOK : DataOK Tryz.prog tt dataTy where
  tys := tt_ok
  kids := fun t h => by
    unfold dataTy at h; split at h <;> first | (cases h; done) | rfl
  pos := fun t h => by
    unfold dataTy at h; split at h <;> first
      | (cases h; done)
      | exact .inl ⟨_, rfl, by decide⟩
      | (refine .inr (.inr (And.intro ?_ ?_)) <;> (intro e hh; cases hh))
  fields := fun t fs h k => by
    unfold dataTy at h; split at h <;> first
      | (cases h; done)
      | (cases k; rfl)
      | (cases k; done)
  array := fun t m e h k => by
    unfold dataTy at h; split at h <;> first
      | (cases h; done)
      | (cases k; rfl)
      | (cases k; done)
end Go.Proofs.YtafgmmfbhpbogaaGreatDoor
