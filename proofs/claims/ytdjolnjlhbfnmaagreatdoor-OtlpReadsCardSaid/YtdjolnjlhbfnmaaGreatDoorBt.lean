/-
  A part of the proof.
-/
import Derived.Test.YtdjolnjlhbfnmaaGreatDoorVal
set_option linter.unusedSimpArgs false
set_option linter.unusedVariables false
set_option maxHeartbeats 4000000
namespace Go.Proofs.YtdjolnjlhbfnmaaGreatDoor
open Go Go.VG
structure Ev where
 time : Int
 name : List UInt8
 attrs : List aG
deriving Inhabited
structure Lk where
 (b0 b1 b2 b3 b4 b5 b6 b7 b8 b9 b10 b11 b12 b13 b14 b15 b16 b17 b18 b19 b20 b21 b22 b23 : Int)
 state : List UInt8
 attrs : List aG
deriving Inhabited
structure Sp where
 (a0 a1 a2 a3 a4 a5 a6 a7 a8 a9 a10 a11 a12 a13 a14 a15 a16 a17 a18 a19 a20 a21 a22 a23 a24 a25 a26 a27 a28 a29 a30 a31 : Int)
 (state name : List UInt8)
 (kind start fin : Int)
 attrs : List aG
 aX : List Ev
 lks : List Lk
 code : Int
 note : List UInt8
deriving Inhabited
structure Sc where
 (name version : List UInt8)
 spans : List Sp
deriving Inhabited
structure Rs where
 attrs : List aG
 scopes : List Sc
deriving Inhabited
abbrev eEvc (e : Ev) : List V := [.int .u64 e.time, .str e.name, .list false 7 (aV e.attrs)]
abbrev er (e : Ev) : V := .agg (eEvc e)
abbrev eLkc (e : Lk) : List V := [.int .u8 e.b0, .int .u8 e.b1, .int .u8 e.b2, .int .u8 e.b3, .int .u8 e.b4, .int .u8 e.b5, .int .u8 e.b6, .int .u8 e.b7, .int .u8 e.b8, .int .u8 e.b9, .int .u8 e.b10, .int .u8 e.b11, .int .u8 e.b12, .int .u8 e.b13, .int .u8 e.b14, .int .u8 e.b15, .int .u8 e.b16, .int .u8 e.b17, .int .u8 e.b18, .int .u8 e.b19, .int .u8 e.b20, .int .u8 e.b21, .int .u8 e.b22, .int .u8 e.b23, .str e.state, .list false 7 (aV e.attrs)]
abbrev eZ (e : Lk) : V := .agg (eLkc e)
abbrev nX (s : Sp) : List V := [.int .u8 s.a0, .int .u8 s.a1, .int .u8 s.a2, .int .u8 s.a3, .int .u8 s.a4, .int .u8 s.a5, .int .u8 s.a6, .int .u8 s.a7, .int .u8 s.a8, .int .u8 s.a9, .int .u8 s.a10, .int .u8 s.a11, .int .u8 s.a12, .int .u8 s.a13, .int .u8 s.a14, .int .u8 s.a15, .int .u8 s.a16, .int .u8 s.a17, .int .u8 s.a18, .int .u8 s.a19, .int .u8 s.a20, .int .u8 s.a21, .int .u8 s.a22, .int .u8 s.a23, .int .u8 s.a24, .int .u8 s.a25, .int .u8 s.a26, .int .u8 s.a27, .int .u8 s.a28, .int .u8 s.a29, .int .u8 s.a30, .int .u8 s.a31, .str s.state, .str s.name, .int .i64 s.kind, .int .u64 s.start, .int .u64 s.fin, .list false 7 (aV s.attrs), .list false 3 (s.aX.map er), .list false 26 (s.lks.map eZ), .int .i64 s.code, .str s.note]
abbrev dk (s : Sp) : V := .agg (nX s)
abbrev cw (s : Sc) : V := .agg [.str s.name, .str s.version, .list false 42 (s.spans.map dk)]
abbrev dd (r : Rs) : V := .agg [.list false 7 (aV r.attrs), .list false 3 (r.scopes.map cw)]
abbrev dV (b : List Rs) : V := .agg [.list false 2 (b.map dd)]
end Go.Proofs.YtdjolnjlhbfnmaaGreatDoor
