/-
  A part of the proof.
-/
import Derived.Test.YtipejldppicijaaGreatDoorCWu
import Derived.Test.YtipejldppicijaaGreatDoorGF
set_option linter.unusedSimpArgs false
set_option linter.unusedVariables false
set_option maxHeartbeats 4000000
namespace Go.Proofs.YtipejldppicijaaGreatDoor
open Go Go.VG
set_option maxRecDepth 100000
def tyN (k : Int) : Int := if k = 4 then 1 else if k = 2 then 2 else if k = 3 then 3 else if k = 5 then 4 else 0
def s8 (v : aK) (tx : List UInt8) : iD :=
 if v.kind = 4 then ⟨100, 4, 0, 0, v.bits, []⟩ else if v.kind = 2 ∧ v.num = 0 then ⟨102, 5, 0, 0, 0, []⟩ else if v.kind = 2 then ⟨102, 5, 1, 0, 0, []⟩
 else if v.kind = 3 then ⟨110, 6, v.num, 6, 0, []⟩ else if v.kind = 5 then ⟨115, 7, 0, 0, 0, v.text⟩ else ⟨115, 3, 0, 0, 0, tx⟩
def qZ (id : Int) (key : List UInt8) (v : aK) (tx : List UInt8) : List iD := [⟨123, id, 0, 0, 0, []⟩, ⟨115, 1, 0, 0, 0, key⟩, ⟨110, 2, tyN v.kind, 5, 0, []⟩, s8 v tx, ⟨101, 0, 0, 0, 0, []⟩]
def CS.ops (w : CS) (l : List iD) : CS := l.foldl CS.op w
def Wb (w : CS) (n m : Nat) : Prop := w.out.length ≤ n ∧ w.l.length ≤ m
theorem Wb.op {w : CS} {n m : Nat} (h : Wb w n m) (o : iD) (ht : o.text.length ≤ 90000000) (hn : -9223372036854775808 ≤ o.n ∧ o.n ≤ 9223372036854775807) : Wb (w.op o) (n + o.text.length + 40) (m + 1) := by
 have := G4 w o ht hn
 obtain ⟨h1, h2⟩ := h
 exact ⟨by omega, by omega⟩
def mtJ (t : Nat) (n : String) (f : Nat) : Prop := (t, n, f) ∈ [(124, "truchman/jtag.kind", 193), (125, "truchman/jtag.kind", 194), (127, "truchman/jtag.kind", 195), (129, "truchman/jtag.kind", 196), (130, "truchman/jtag.kind", 197)]
theorem FV (v : Value) (w : World) : (method (Tryz.prog.types.size + Made.depth) 124 v "truchman/jtag.kind").run Tryz.prog w = .ok (193, v) w := by kernel_rfl
theorem FR (v : Value) (w : World) : (method (Tryz.prog.types.size + Made.depth) 125 v "truchman/jtag.kind").run Tryz.prog w = .ok (194, v) w := by kernel_rfl
theorem FT (v : Value) (w : World) : (method (Tryz.prog.types.size + Made.depth) 127 v "truchman/jtag.kind").run Tryz.prog w = .ok (195, v) w := by kernel_rfl
theorem FU (v : Value) (w : World) : (method (Tryz.prog.types.size + Made.depth) 129 v "truchman/jtag.kind").run Tryz.prog w = .ok (196, v) w := by kernel_rfl
theorem FQ (v : Value) (w : World) : (method (Tryz.prog.types.size + Made.depth) 130 v "truchman/jtag.kind").run Tryz.prog w = .ok (197, v) w := by kernel_rfl
noncomputable def cxm (l : List (Nat × Sm)) : Ctx := ⟨Tryz.prog, tt, iU, fun f => lkS l f, mtJ, fun r => lkH [] r, fun _ => false, fun _ _ _ _ => none, fun _ _ _ => none, fun _ => false⟩
theorem goodm {l : List (Nat × Sm)} (h : OKs l) : bW (cxm l) where
 ti := uw
 mt := fun t m f hm v w => by
  have hm : (t, m, f) ∈ _ := hm
  simp only [List.mem_cons, Prod.mk.injEq, List.not_mem_nil, or_false] at hm
  rcases hm with ⟨rfl, rfl, rfl⟩ | ⟨rfl, rfl, rfl⟩ | ⟨rfl, rfl, rfl⟩ | ⟨rfl, rfl, rfl⟩ | ⟨rfl, rfl, rfl⟩
  . exact FV v w
  . exact FR v w
  . exact FT v w
  . exact FU v w
  . exact FQ v w
 hm := xZ
 gam := fun f args sg pre x r h' hp => sD h args sg pre x r h' hp
 del := fun _ _ _ _ _ _ _ _ _ h' => by cases (y7 h')
theorem Ct (b : Bool) (hp : True) : OK 195 ([.bool b]) ([]) (.int .i64 2) (none) := by
 refine ah (C := cx []) (ai trivial) (fn := Tryz.f195) rfl rfl rfl rfl fun hw hs => ?_
 all_goals try conv => whnf
 all_goals try (refine a7.mk ?_; try dsimp only)
 all_goals try refine stay ?_
 refine a6.mk [] ?_ <;> (repeat' first | trivial)
def tR : Sm := fun args σ => match args, σ with
 | [.bool b], [] => some (True, .int .i64 2, none)
 | _, _ => none
theorem EF : a9 195 tR := by
 intro args sg pre x r he hp
 unfold tR at he
 split at he <;> cases he
 . exact Ct (hp := hp) ..
theorem Cn (n : Int) (hp : True) : OK 57 ([.agg [.int .u8 2, .str [], .int .i64 n, .int .u64 0, .list true 0 [], .list true 0 []]]) ([]) (.iface 127 (.bool (n != 0))) (none) := by
 refine ah (C := cx []) (ai trivial) (fn := Tryz.f57) rfl rfl rfl rfl fun hw hs => ?_
 all_goals try conv => whnf
 all_goals try (refine a7.mk ?_; try dsimp only)
 all_goals try refine stay ?_
 refine a6.mk [] ?_ <;> (repeat' first | trivial)
def tP : Sm := fun args σ => match args, σ with
 | [.agg [.int .u8 2, .str [], .int .i64 n, .int .u64 0, .list true 0 [], .list true 0 []]], [] => some (True, .iface 127 (.bool (n != 0)), none)
 | _, _ => none
theorem ED : a9 57 tP := by
 intro args sg pre x r he hp
 unfold tP at he
 split at he <;> cases he
 . exact Cn (hp := hp) ..
theorem okC_w {w : CS} {n m : Nat} (h : Wb w n m) (hn : n ≤ 1800000000) (hm : m ≤ 800) : du (bl w.out) (w.l.map eP) ∧ (aX (bl w.out) (w.l.map eP) w.code).out.length ≤ 1800000000 ∧ (aX (bl w.out) (w.l.map eP) w.code).l.length ≤ 800 :=
 okC_d ⟨by have := h.1; omega, by have := h.2; omega⟩
theorem Cs (w : CS) (id n : Int) (key : List UInt8) (hb : Wb w 1000000 100) (hk : key.length ≤ 1000) : OK 26 [.ptr 0 0, .int .i64 id, .agg [.str key, .int .u8 2, .str [], .int .i64 n, .int .u64 0, .list true 0 [], .list true 0 []]] (b6 w) (.tuple [])
   (some (b6 (w.ops (qZ id key (.mk 2 [] n 0 [] []) [])))) := by
 refine ah (C := cxm [(57, tP), (47, qo), (58, tL), (59, tM), (61, tJ), (49, oq), (195, tR)]) (goodm ⟨ED, xa, Ez, EA, Ew, sk, EF, trivial⟩) (fn := Tryz.f26) rfl rfl rfl rfl fun hw _ => ?_
 have i0 : ((-9223372036854775808 : Int) ≤ 0 ∧ (0 : Int) ≤ 9223372036854775807) := by decide
 have b1 := hb.op ⟨123, id, 0, 0, 0, []⟩ (Nat.zero_le _) i0
 have b2 := b1.op ⟨115, 1, 0, 0, 0, key⟩ (by show key.length ≤ _; omega) i0
 have b3 := b2.op ⟨110, 2, 2, 5, 0, []⟩ (Nat.zero_le _) (by decide : (-9223372036854775808 : Int) ≤ 2 ∧ (2 : Int) ≤ 9223372036854775807)
 have e1 : w.op ⟨123, id, 0, 0, 0, []⟩ = w.struct id := rfl
 rw [e1] at b1 b2 b3
 have e2 : (w.struct id).op ⟨115, 1, 0, 0, 0, key⟩ = (w.struct id).put 1 8 (cg key.length ++ key) := rfl
 rw [e2] at b2 b3
 have e3 : ((w.struct id).put 1 8 (cg key.length ++ key)).op ⟨110, 2, 2, 5, 0, []⟩ = ((w.struct id).put 1 8 (cg key.length ++ key)).whole 2 5 2 := rfl
 rw [e3] at b3
 have b4 := b3.op ⟨102, 5, if n = 0 then 0 else 1, 0, 0, []⟩ (Nat.zero_le _) (by show _ ≤ (if n = 0 then (0 : Int) else 1) ∧ (if n = 0 then (0 : Int) else 1) ≤ _; split <;> decide)
 have e4 : ∀ s : CS, s.op ⟨102, 5, if n = 0 then 0 else 1, 0, 0, []⟩ = s.flag 5 (n != 0) := fun s => by
  by_cases q : n = 0
  . subst q; rfl
  . rw [if_neg q, bne_iff_ne.2 q]; rfl
 rw [e4] at b4
 have e5 : s8 (.mk 2 [] n 0 [] []) [] = ⟨102, 5, if n = 0 then 0 else 1, 0, 0, []⟩ := by
  unfold s8
  simp only [aK.kind, aK.num]
  by_cases q : n = 0
  . rw [if_neg (by decide), if_pos ⟨trivial, q⟩, if_pos q]
  . rw [if_neg (by decide), if_neg (fun z => q z.2), if_pos trivial, if_neg q]
 have he : w.ops (qZ id key (.mk 2 [] n 0 [] []) []) = ((((w.struct id).put 1 8 (cg key.length ++ key)).whole 2 5 2).flag 5 (n != 0)).fin := by
  unfold qZ
  rw [e5]
  simp only [CS.ops, List.foldl_cons, List.foldl_nil]
  rw [e4, e1, e2]
  rfl
 rw [he]
 clear he e1 e2 e3 e4 e5
 obtain ⟨c1, d1⟩ := b1
 obtain ⟨c2, d2⟩ := b2
 obtain ⟨c3, d3⟩ := b3
 obtain ⟨c4, d4⟩ := b4
 simp only [List.length_nil] at c1 c2 c3 c4
 have hb1 := hb.1
 have hb2 := hb.2
 repeat' ((conv => whnf); apply ab)
 all_goals try conv => whnf
 all_goals try (refine a7.mk ?_; try dsimp only)
 . exact okC_w hb (by omega) (by omega)
 . simp only [ep]
   exact ⟨bU (by omega) (by omega), ⟨by omega, by omega⟩, by omega⟩
 refine ⟨195, by show mtJ _ _ _; unfold mtJ; simp, ?_⟩
 repeat' ((conv => whnf); apply ab)
 all_goals try conv => whnf
 all_goals try (refine a7.mk ?_; try dsimp only)
 all_goals (try simp only [ep] at *)
 all_goals first
  | exact ⟨bU (by omega) (by omega), by omega, by omega⟩
  | skip
 refine a6.mk [] ?_ <;> (repeat' first | trivial)
end Go.Proofs.YtipejldppicijaaGreatDoor
