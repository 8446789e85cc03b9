/-
  A part of the proof.
-/
import Derived.Test.YtipejldppicijaaGreatDoorCWu
import Derived.Test.YtipejldppicijaaGreatDoorGF
set_option linter.unusedSimpArgs false
set_option linter.unusedVariables false
set_option maxHeartbeats 4000000
namespace Go.Proofs.YtipejldppicijaaGreatDoor
open Go Go.VG
set_option maxRecDepth 100000
def cz (k : Int) : Int := if k = 4 then 1 else if k = 2 then 2 else if k = 3 then 3 else if k = 5 then 4 else 0
def du (v : ae) (tx : List UInt8) : aU :=
 if v.kind = 4 then ⟨100, 4, 0, 0, v.bits, []⟩ else if v.kind = 2 ∧ v.num = 0 then ⟨102, 5, 0, 0, 0, []⟩ else if v.kind = 2 then ⟨102, 5, 1, 0, 0, []⟩
 else if v.kind = 3 then ⟨110, 6, v.num, 6, 0, []⟩ else if v.kind = 5 then ⟨115, 7, 0, 0, 0, v.text⟩ else ⟨115, 3, 0, 0, 0, tx⟩
def cL (id : Int) (key : List UInt8) (v : ae) (tx : List UInt8) : List aU := [⟨123, id, 0, 0, 0, []⟩, ⟨115, 1, 0, 0, 0, key⟩, ⟨110, 2, cz v.kind, 5, 0, []⟩, du v tx, ⟨101, 0, 0, 0, 0, []⟩]
def CS.ops (w : CS) (l : List aU) : CS := l.foldl CS.op w
def Wb (w : CS) (n m : Nat) : Prop := w.out.length ≤ n ∧ w.l.length ≤ m
theorem Wb.op {w : CS} {n m : Nat} (h : Wb w n m) (o : aU) (ht : o.text.length ≤ 90000000) (hn : -9223372036854775808 ≤ o.n ∧ o.n ≤ 9223372036854775807) : Wb (w.op o) (n + o.text.length + 40) (m + 1) := by
 have := BP w o ht hn
 obtain ⟨h1, h2⟩ := h
 exact ⟨by omega, by omega⟩
def gL (t : Nat) (n : String) (f : Nat) : Prop := (t, n, f) ∈ [(124, "truchman/jtag.kind", 193), (125, "truchman/jtag.kind", 194), (127, "truchman/jtag.kind", 195), (129, "truchman/jtag.kind", 196), (130, "truchman/jtag.kind", 197)]
theorem KM (v : Value) (w : World) : (method (Tryz.prog.types.size + Made.depth) 124 v "truchman/jtag.kind").run Tryz.prog w = .ok (193, v) w := by kernel_rfl
theorem KJ (v : Value) (w : World) : (method (Tryz.prog.types.size + Made.depth) 125 v "truchman/jtag.kind").run Tryz.prog w = .ok (194, v) w := by kernel_rfl
theorem KK (v : Value) (w : World) : (method (Tryz.prog.types.size + Made.depth) 127 v "truchman/jtag.kind").run Tryz.prog w = .ok (195, v) w := by kernel_rfl
theorem KL (v : Value) (w : World) : (method (Tryz.prog.types.size + Made.depth) 129 v "truchman/jtag.kind").run Tryz.prog w = .ok (196, v) w := by kernel_rfl
theorem KI (v : Value) (w : World) : (method (Tryz.prog.types.size + Made.depth) 130 v "truchman/jtag.kind").run Tryz.prog w = .ok (197, v) w := by kernel_rfl
noncomputable def m8 (l : List (Nat × Sm)) : Ctx := ⟨Tryz.prog, tt, jG, fun f => lkS l f, gL, fun r => lkH [] r, fun _ => false, fun _ _ _ _ => none, fun _ _ _ => none, fun _ => false⟩
theorem nO {l : List (Nat × Sm)} (h : OKs l) : cj (m8 l) where
 ti := xY
 mt := fun t m f hm v w => by
  have hm : (t, m, f) ∈ _ := hm
  simp only [List.mem_cons, Prod.mk.injEq, List.not_mem_nil, or_false] at hm
  rcases hm with ⟨rfl, rfl, rfl⟩ | ⟨rfl, rfl, rfl⟩ | ⟨rfl, rfl, rfl⟩ | ⟨rfl, rfl, rfl⟩ | ⟨rfl, rfl, rfl⟩
  . exact KM v w
  . exact KJ v w
  . exact KK v w
  . exact KL v w
  . exact KI v w
 hm := Bs
 gam := fun f args sg pre x r h' hp => vG h args sg pre x r h' hp
 del := fun _ _ _ _ _ _ _ _ _ h' => by cases (Bz h')
theorem GP (b : Bool) (hp : True) : OK 195 ([.bool b]) ([]) (.int .i64 2) (none) := by
 refine af (C := cx []) (ah trivial) (fn := Tryz.f195) rfl rfl rfl rfl fun hw hs => ?_
 all_goals try conv => whnf
 all_goals try (refine a8.mk ?_; try dsimp only)
 all_goals try refine stay ?_
 refine a7.mk [] ?_ <;> (repeat' first | trivial)
def lG : Sm := fun args σ => match args, σ with
 | [.bool b], [] => some (True, .int .i64 2, none)
 | _, _ => none
theorem nX : aa 195 lG := by
 intro args sg pre x r he hp
 unfold lG at he
 split at he <;> cases he
 . exact GP (hp := hp) ..
theorem GF (n : Int) (hp : True) : OK 57 ([.agg [.int .u8 2, .str [], .int .i64 n, .int .u64 0, .list true 0 [], .list true 0 []]]) ([]) (.iface 127 (.bool (n != 0))) (none) := by
 refine af (C := cx []) (ah trivial) (fn := Tryz.f57) rfl rfl rfl rfl fun hw hs => ?_
 all_goals try conv => whnf
 all_goals try (refine a8.mk ?_; try dsimp only)
 all_goals try refine stay ?_
 refine a7.mk [] ?_ <;> (repeat' first | trivial)
def wU : Sm := fun args σ => match args, σ with
 | [.agg [.int .u8 2, .str [], .int .i64 n, .int .u64 0, .list true 0 [], .list true 0 []]], [] => some (True, .iface 127 (.bool (n != 0)), none)
 | _, _ => none
theorem J7 : aa 57 wU := by
 intro args sg pre x r he hp
 unfold wU at he
 split at he <;> cases he
 . exact GF (hp := hp) ..
theorem okC_w {w : CS} {n m : Nat} (h : Wb w n m) (hn : n ≤ 1800000000) (hm : m ≤ 800) : dk (bl w.out) (w.l.map eP) ∧ (b9 (bl w.out) (w.l.map eP) w.code).out.length ≤ 1800000000 ∧ (b9 (bl w.out) (w.l.map eP) w.code).l.length ≤ 800 :=
 okC_d ⟨by have := h.1; omega, by have := h.2; omega⟩
theorem GL (w : CS) (id n : Int) (key : List UInt8) (hb : Wb w 1000000 100) (hk : key.length ≤ 1000) : OK 26 [.ptr 0 0, .int .i64 id, .agg [.str key, .int .u8 2, .str [], .int .i64 n, .int .u64 0, .list true 0 [], .list true 0 []]] (aN w) (.tuple [])
   (some (aN (w.ops (cL id key (.mk 2 [] n 0 [] []) [])))) := by
 refine af (C := m8 [(57, wU), (47, jq), (58, lE), (59, lF), (61, lC), (49, im), (195, lG)]) (nO ⟨J7, l6, nV, nW, nT, jh, nX, trivial⟩) (fn := Tryz.f26) rfl rfl rfl rfl fun hw _ => ?_
 have i0 : ((-9223372036854775808 : Int) ≤ 0 ∧ (0 : Int) ≤ 9223372036854775807) := by decide
 have b1 := hb.op ⟨123, id, 0, 0, 0, []⟩ (Nat.zero_le _) i0
 have b2 := b1.op ⟨115, 1, 0, 0, 0, key⟩ (by show key.length ≤ _; omega) i0
 have b3 := b2.op ⟨110, 2, 2, 5, 0, []⟩ (Nat.zero_le _) (by decide : (-9223372036854775808 : Int) ≤ 2 ∧ (2 : Int) ≤ 9223372036854775807)
 have e1 : w.op ⟨123, id, 0, 0, 0, []⟩ = w.struct id := rfl
 rw [e1] at b1 b2 b3
 have e2 : (w.struct id).op ⟨115, 1, 0, 0, 0, key⟩ = (w.struct id).put 1 8 (aF key.length ++ key) := rfl
 rw [e2] at b2 b3
 have e3 : ((w.struct id).put 1 8 (aF key.length ++ key)).op ⟨110, 2, 2, 5, 0, []⟩ = ((w.struct id).put 1 8 (aF key.length ++ key)).whole 2 5 2 := rfl
 rw [e3] at b3
 have b4 := b3.op ⟨102, 5, if n = 0 then 0 else 1, 0, 0, []⟩ (Nat.zero_le _) (by show _ ≤ (if n = 0 then (0 : Int) else 1) ∧ (if n = 0 then (0 : Int) else 1) ≤ _; split <;> decide)
 have e4 : ∀ s : CS, s.op ⟨102, 5, if n = 0 then 0 else 1, 0, 0, []⟩ = s.flag 5 (n != 0) := fun s => by
  by_cases q : n = 0
  . subst q; rfl
  . rw [if_neg q, bne_iff_ne.2 q]; rfl
 rw [e4] at b4
 have e5 : du (.mk 2 [] n 0 [] []) [] = ⟨102, 5, if n = 0 then 0 else 1, 0, 0, []⟩ := by
  unfold du
  simp only [ae.kind, ae.num]
  by_cases q : n = 0
  . rw [if_neg (by decide), if_pos ⟨trivial, q⟩, if_pos q]
  . rw [if_neg (by decide), if_neg (fun z => q z.2), if_pos trivial, if_neg q]
 have he : w.ops (cL id key (.mk 2 [] n 0 [] []) []) = ((((w.struct id).put 1 8 (aF key.length ++ key)).whole 2 5 2).flag 5 (n != 0)).fin := by
  unfold cL
  rw [e5]
  simp only [CS.ops, List.foldl_cons, List.foldl_nil]
  rw [e4, e1, e2]
  rfl
 rw [he]
 clear he e1 e2 e3 e4 e5
 obtain ⟨c1, d1⟩ := b1
 obtain ⟨c2, d2⟩ := b2
 obtain ⟨c3, d3⟩ := b3
 obtain ⟨c4, d4⟩ := b4
 simp only [List.length_nil] at c1 c2 c3 c4
 have hb1 := hb.1
 have hb2 := hb.2
 repeat' ((conv => whnf); apply a9)
 all_goals try conv => whnf
 all_goals try (refine a8.mk ?_; try dsimp only)
 . exact okC_w hb (by omega) (by omega)
 . simp only [bD]
   exact ⟨aR (by omega) (by omega), ⟨by omega, by omega⟩, by omega⟩
 refine ⟨195, by show gL _ _ _; unfold gL; simp, ?_⟩
 repeat' ((conv => whnf); apply a9)
 all_goals try conv => whnf
 all_goals try (refine a8.mk ?_; try dsimp only)
 all_goals (try simp only [bD] at *)
 all_goals first
  | exact ⟨aR (by omega) (by omega), by omega, by omega⟩
  | skip
 refine a7.mk [] ?_ <;> (repeat' first | trivial)
end Go.Proofs.YtipejldppicijaaGreatDoor
