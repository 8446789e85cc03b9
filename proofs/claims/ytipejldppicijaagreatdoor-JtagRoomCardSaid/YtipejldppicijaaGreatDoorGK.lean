/-
  A part of the proof.
-/
import Derived.Test.YtipejldppicijaaGreatDoorCWw
import Derived.Test.YtipejldppicijaaGreatDoorGF
set_option linter.unusedSimpArgs false
set_option linter.unusedVariables false
set_option maxHeartbeats 4000000
namespace Go.Proofs.YtipejldppicijaaGreatDoor
open Go Go.VG
set_option maxRecDepth 100000
end Go.Proofs.YtipejldppicijaaGreatDoor
namespace Go.Proofs.YtipejldppicijaaGreatDoor
open Go Go.VG
set_option maxRecDepth 100000
end Go.Proofs.YtipejldppicijaaGreatDoor
namespace Go.Proofs.YtipejldppicijaaGreatDoor
open Go Go.VG
set_option maxRecDepth 100000
theorem qX (w : CS) (id k : Int) (b : List UInt8) : (w.put id k b).out.length ≤ w.out.length + 11 + b.length ∧ (w.put id k b).l.length = w.l.length := by
 have := fZ w id k
 unfold CS.put
 split
 . simp only [List.length_append]; omega
 . omega
theorem GN (w : CS) (o : iG) (ht : o.text.length ≤ 90000000) (hn : -9223372036854775808 ≤ o.n ∧ o.n ≤ 9223372036854775807) :
   (w.op o).out.length ≤ w.out.length + o.text.length + 40 ∧ (w.op o).l.length ≤ w.l.length + 1 := by
 have h1 := @yU o.n (byte o.what)
 have h2 := fh (nA hn)
 have h3 := fh (u := o.text.length) (by omega)
 have p7 := qX w o.id 7 (low 8 o.bits.toNat)
 have p8 := qX w o.id 8 (aY o.text.length ++ o.text)
 have p3 := qX w o.id o.what [byte (ib o.n 8)]
 have p4 := qX w o.id o.what (aY (fj o.n))
 have m12 := fZ w o.id 12
 have m9 := fZ w o.id 9
 have m1 := fZ w o.id 1
 have m2 := fZ w o.id 2
 rw [gU] at p7
 simp only [List.length_append, List.length_singleton] at p8 p3
 unfold CS.op CS.struct CS.list CS.fin CS.flag CS.mB CS.whole CS.begin
 repeat' split
 all_goals (constructor <;> (try simp only [List.length_append, List.length_cons, List.length_nil, List.length_take]) <;> omega)
theorem okC_d {w : CS} (h : w.out.length ≤ 1800000000 ∧ w.l.length ≤ 800) : d7 (bl w.out) (w.l.map eP) ∧ (aU (bl w.out) (w.l.map eP) w.code).out.length ≤ 1800000000 ∧ (aU (bl w.out) (w.l.map eP) w.code).l.length ≤ 800 := by
 rw [bu]; exact ⟨aP (by omega) (by omega), h⟩
end Go.Proofs.YtipejldppicijaaGreatDoor
namespace Go.Proofs.YtipejldppicijaaGreatDoor
open Go Go.VG
set_option maxRecDepth 100000
def dA (k : Int) : Int := if k = 4 then 1 else if k = 2 then 2 else if k = 3 then 3 else if k = 5 then 4 else 0
def ew (v : af) (tx : List UInt8) : iG :=
 if v.kind = 4 then ⟨100, 4, 0, 0, v.bits, []⟩ else if v.kind = 2 ∧ v.num = 0 then ⟨102, 5, 0, 0, 0, []⟩ else if v.kind = 2 then ⟨102, 5, 1, 0, 0, []⟩
 else if v.kind = 3 then ⟨110, 6, v.num, 6, 0, []⟩ else if v.kind = 5 then ⟨115, 7, 0, 0, 0, v.text⟩ else ⟨115, 3, 0, 0, 0, tx⟩
def dQ (id : Int) (key : List UInt8) (v : af) (tx : List UInt8) : List iG := [⟨123, id, 0, 0, 0, []⟩, ⟨115, 1, 0, 0, 0, key⟩, ⟨110, 2, dA v.kind, 5, 0, []⟩, ew v tx, ⟨101, 0, 0, 0, 0, []⟩]
def CS.ops (w : CS) (l : List iG) : CS := l.foldl CS.op w
def Wb (w : CS) (n m : Nat) : Prop := w.out.length ≤ n ∧ w.l.length ≤ m
theorem Wb.op {w : CS} {n m : Nat} (h : Wb w n m) (o : iG) (ht : o.text.length ≤ 90000000) (hn : -9223372036854775808 ≤ o.n ∧ o.n ≤ 9223372036854775807) : Wb (w.op o) (n + o.text.length + 40) (m + 1) := by
 have := GN w o ht hn
 obtain ⟨h1, h2⟩ := h
 exact ⟨by omega, by omega⟩
def g4 (t : Nat) (n : String) (f : Nat) : Prop := (t, n, f) ∈ [(124, "truchman/jtag.kind", 193), (125, "truchman/jtag.kind", 194), (127, "truchman/jtag.kind", 195), (129, "truchman/jtag.kind", 196), (130, "truchman/jtag.kind", 197)]
theorem Gy (v : Value) (w : World) : (method (Tryz.prog.types.size + Made.depth) 124 v "truchman/jtag.kind").run Tryz.prog w = .ok (193, v) w := by kernel_rfl
theorem Gv (v : Value) (w : World) : (method (Tryz.prog.types.size + Made.depth) 125 v "truchman/jtag.kind").run Tryz.prog w = .ok (194, v) w := by kernel_rfl
theorem Gw (v : Value) (w : World) : (method (Tryz.prog.types.size + Made.depth) 127 v "truchman/jtag.kind").run Tryz.prog w = .ok (195, v) w := by kernel_rfl
theorem Gx (v : Value) (w : World) : (method (Tryz.prog.types.size + Made.depth) 129 v "truchman/jtag.kind").run Tryz.prog w = .ok (196, v) w := by kernel_rfl
theorem Gu (v : Value) (w : World) : (method (Tryz.prog.types.size + Made.depth) 130 v "truchman/jtag.kind").run Tryz.prog w = .ok (197, v) w := by kernel_rfl
noncomputable def kT (l : List (Nat × Sm)) : Ctx := ⟨Tryz.prog, tt, iU, fun f => lkS l f, g4, fun r => lkH [] r, fun _ => false, fun _ _ _ _ => none, fun _ _ _ => none, fun _ => false⟩
theorem mK {l : List (Nat × Sm)} (h : OKs l) : bN (kT l) where
 ti := vo
 mt := fun t m f hm v w => by
  have hm : (t, m, f) ∈ _ := hm
  simp only [List.mem_cons, Prod.mk.injEq, List.not_mem_nil, or_false] at hm
  rcases hm with ⟨rfl, rfl, rfl⟩ | ⟨rfl, rfl, rfl⟩ | ⟨rfl, rfl, rfl⟩ | ⟨rfl, rfl, rfl⟩ | ⟨rfl, rfl, rfl⟩
  . exact Gy v w
  . exact Gv v w
  . exact Gw v w
  . exact Gx v w
  . exact Gu v w
 hm := yx
 gam := fun f args sg pre x r h' hp => tq h args sg pre x r h' hp
 del := fun _ _ _ _ _ _ _ _ _ h' => by cases (yD h')
theorem D9 (b : Bool) (hp : True) : OK 195 ([.bool b]) ([]) (.int .i64 2) (none) := by
 refine ai (C := cx []) (aj trivial) (fn := Tryz.f195) rfl rfl rfl rfl fun hw hs => ?_
 all_goals try conv => whnf
 all_goals try (refine a8.mk ?_; try dsimp only)
 all_goals try refine stay ?_
 refine a7.mk [] ?_ <;> (repeat' first | trivial)
def kz : Sm := fun args σ => match args, σ with
 | [.bool b], [] => some (True, .int .i64 2, none)
 | _, _ => none
theorem mS : aa 195 kz := by
 intro args sg pre x r he hp
 unfold kz at he
 split at he <;> cases he
 . exact D9 (hp := hp) ..
theorem D0 (n : Int) (hp : True) : OK 57 ([.agg [.int .u8 2, .str [], .int .i64 n, .int .u64 0, .list true 0 [], .list true 0 []]]) ([]) (.iface 127 (.bool (n != 0))) (none) := by
 refine ai (C := cx []) (aj trivial) (fn := Tryz.f57) rfl rfl rfl rfl fun hw hs => ?_
 all_goals try conv => whnf
 all_goals try (refine a8.mk ?_; try dsimp only)
 all_goals try refine stay ?_
 refine a7.mk [] ?_ <;> (repeat' first | trivial)
def uD : Sm := fun args σ => match args, σ with
 | [.agg [.int .u8 2, .str [], .int .i64 n, .int .u64 0, .list true 0 [], .list true 0 []]], [] => some (True, .iface 127 (.bool (n != 0)), none)
 | _, _ => none
theorem F5 : aa 57 uD := by
 intro args sg pre x r he hp
 unfold uD at he
 split at he <;> cases he
 . exact D0 (hp := hp) ..
theorem okC_w {w : CS} {n m : Nat} (h : Wb w n m) (hn : n ≤ 1800000000) (hm : m ≤ 800) : d7 (bl w.out) (w.l.map eP) ∧ (aU (bl w.out) (w.l.map eP) w.code).out.length ≤ 1800000000 ∧ (aU (bl w.out) (w.l.map eP) w.code).l.length ≤ 800 :=
 okC_d ⟨by have := h.1; omega, by have := h.2; omega⟩
theorem D5 (w : CS) (id n : Int) (key : List UInt8) (hb : Wb w 1000000 100) (hk : key.length ≤ 1000) : OK 26 [.ptr 0 0, .int .i64 id, .agg [.str key, .int .u8 2, .str [], .int .i64 n, .int .u64 0, .list true 0 [], .list true 0 []]] (aM w) (.tuple [])
   (some (aM (w.ops (dQ id key (.mk 2 [] n 0 [] []) [])))) := by
 refine ai (C := kT [(57, uD), (47, jd), (58, kx), (59, ky), (61, kt), (49, iz), (195, kz)]) (mK ⟨F5, ln, mQ, mR, mO, jU, mS, trivial⟩) (fn := Tryz.f26) rfl rfl rfl rfl fun hw _ => ?_
 have i0 : ((-9223372036854775808 : Int) ≤ 0 ∧ (0 : Int) ≤ 9223372036854775807) := by decide
 have b1 := hb.op ⟨123, id, 0, 0, 0, []⟩ (Nat.zero_le _) i0
 have b2 := b1.op ⟨115, 1, 0, 0, 0, key⟩ (by show key.length ≤ _; omega) i0
 have b3 := b2.op ⟨110, 2, 2, 5, 0, []⟩ (Nat.zero_le _) (by decide : (-9223372036854775808 : Int) ≤ 2 ∧ (2 : Int) ≤ 9223372036854775807)
 have e1 : w.op ⟨123, id, 0, 0, 0, []⟩ = w.struct id := rfl
 rw [e1] at b1 b2 b3
 have e2 : (w.struct id).op ⟨115, 1, 0, 0, 0, key⟩ = (w.struct id).put 1 8 (aY key.length ++ key) := rfl
 rw [e2] at b2 b3
 have e3 : ((w.struct id).put 1 8 (aY key.length ++ key)).op ⟨110, 2, 2, 5, 0, []⟩ = ((w.struct id).put 1 8 (aY key.length ++ key)).whole 2 5 2 := rfl
 rw [e3] at b3
 have b4 := b3.op ⟨102, 5, if n = 0 then 0 else 1, 0, 0, []⟩ (Nat.zero_le _) (by show _ ≤ (if n = 0 then (0 : Int) else 1) ∧ (if n = 0 then (0 : Int) else 1) ≤ _; split <;> decide)
 have e4 : ∀ s : CS, s.op ⟨102, 5, if n = 0 then 0 else 1, 0, 0, []⟩ = s.flag 5 (n != 0) := fun s => by
  by_cases q : n = 0
  . subst q; rfl
  . rw [if_neg q, bne_iff_ne.2 q]; rfl
 rw [e4] at b4
 have e5 : ew (.mk 2 [] n 0 [] []) [] = ⟨102, 5, if n = 0 then 0 else 1, 0, 0, []⟩ := by
  unfold ew
  simp only [af.kind, af.num]
  by_cases q : n = 0
  . rw [if_neg (by decide), if_pos ⟨trivial, q⟩, if_pos q]
  . rw [if_neg (by decide), if_neg (fun z => q z.2), if_pos trivial, if_neg q]
 have he : w.ops (dQ id key (.mk 2 [] n 0 [] []) []) = ((((w.struct id).put 1 8 (aY key.length ++ key)).whole 2 5 2).flag 5 (n != 0)).fin := by
  unfold dQ
  rw [e5]
  simp only [CS.ops, List.foldl_cons, List.foldl_nil]
  rw [e4, e1, e2]
  rfl
 rw [he]
 clear he e1 e2 e3 e4 e5
 obtain ⟨c1, d1⟩ := b1
 obtain ⟨c2, d2⟩ := b2
 obtain ⟨c3, d3⟩ := b3
 obtain ⟨c4, d4⟩ := b4
 simp only [List.length_nil] at c1 c2 c3 c4
 have hb1 := hb.1
 have hb2 := hb.2
 repeat' ((conv => whnf); apply a9)
 all_goals try conv => whnf
 all_goals try (refine a8.mk ?_; try dsimp only)
 . exact okC_w hb (by omega) (by omega)
 . simp only [bu]
   exact ⟨aP (by omega) (by omega), ⟨by omega, by omega⟩, by omega⟩
 refine ⟨195, by show g4 _ _ _; unfold g4; simp, ?_⟩
 repeat' ((conv => whnf); apply a9)
 all_goals try conv => whnf
 all_goals try (refine a8.mk ?_; try dsimp only)
 all_goals (try simp only [bu] at *)
 all_goals first
  | exact ⟨aP (by omega) (by omega), by omega, by omega⟩
  | skip
 refine a7.mk [] ?_ <;> (repeat' first | trivial)
end Go.Proofs.YtipejldppicijaaGreatDoor
