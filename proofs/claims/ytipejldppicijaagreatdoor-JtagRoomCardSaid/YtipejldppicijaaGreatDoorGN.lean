/-
  A part of the proof.
-/
import Derived.Test.YtipejldppicijaaGreatDoorGK
import Derived.Test.YtipejldppicijaaGreatDoorPText2
set_option linter.unusedSimpArgs false
set_option linter.unusedVariables false
set_option maxHeartbeats 4000000
namespace Go.Proofs.YtipejldppicijaaGreatDoor
open Go Go.VG
set_option maxRecDepth 100000
theorem Db (b : List UInt8) (hp : True) : OK 193 ([.str b]) ([]) (.int .i64 0) (none) := by
 refine ai (C := cx []) (aj trivial) (fn := Tryz.f193) rfl rfl rfl rfl fun hw hs => ?_
 all_goals try conv => whnf
 all_goals try (refine a8.mk ?_; try dsimp only)
 all_goals try refine stay ?_
 refine a7.mk [] ?_ <;> (repeat' first | trivial)
def lR : Sm := fun args σ => match args, σ with
 | [.str b], [] => some (True, .int .i64 0, none)
 | _, _ => none
theorem ot : aa 193 lR := by
 intro args sg pre x r he hp
 unfold lR at he
 split at he <;> cases he
 . exact Db (hp := hp) ..
theorem D8 (b : Int) (hp : True) : OK 194 ([.int .u64 b]) ([]) (.int .i64 1) (none) := by
 refine ai (C := cx []) (aj trivial) (fn := Tryz.f194) rfl rfl rfl rfl fun hw hs => ?_
 all_goals try conv => whnf
 all_goals try (refine a8.mk ?_; try dsimp only)
 all_goals try refine stay ?_
 refine a7.mk [] ?_ <;> (repeat' first | trivial)
def lP : Sm := fun args σ => match args, σ with
 | [.int .u64 b], [] => some (True, .int .i64 1, none)
 | _, _ => none
theorem om : aa 194 lP := by
 intro args sg pre x r he hp
 unfold lP at he
 split at he <;> cases he
 . exact D8 (hp := hp) ..
theorem Da (b : Int) (hp : True) : OK 196 ([.int .i64 b]) ([]) (.int .i64 3) (none) := by
 refine ai (C := cx []) (aj trivial) (fn := Tryz.f196) rfl rfl rfl rfl fun hw hs => ?_
 all_goals try conv => whnf
 all_goals try (refine a8.mk ?_; try dsimp only)
 all_goals try refine stay ?_
 refine a7.mk [] ?_ <;> (repeat' first | trivial)
def lQ : Sm := fun args σ => match args, σ with
 | [.int .i64 b], [] => some (True, .int .i64 3, none)
 | _, _ => none
theorem oq : aa 196 lQ := by
 intro args sg pre x r he hp
 unfold lQ at he
 split at he <;> cases he
 . exact Da (hp := hp) ..
theorem D7 (b : List UInt8) (hp : True) : OK 197 ([.str b]) ([]) (.int .i64 4) (none) := by
 refine ai (C := cx []) (aj trivial) (fn := Tryz.f197) rfl rfl rfl rfl fun hw hs => ?_
 all_goals try conv => whnf
 all_goals try (refine a8.mk ?_; try dsimp only)
 all_goals try refine stay ?_
 refine a7.mk [] ?_ <;> (repeat' first | trivial)
def lO : Sm := fun args σ => match args, σ with
 | [.str b], [] => some (True, .int .i64 4, none)
 | _, _ => none
theorem oh : aa 197 lO := by
 intro args sg pre x r he hp
 unfold lO at he
 split at he <;> cases he
 . exact D7 (hp := hp) ..
def lI (P : af → Prop) (R : af → V) : Sm := fun args σ => match args, σ with
 | [x], [] => some (eQ x ∧ P (b8 x), R (b8 x), none)
 | _, _ => none
theorem pj {P : af → Prop} {R : af → V} (h : ∀ v, P v → OK 57 [ev v] [] (R v) none) : aa 57 (lI P R) := by
 intro args sg pre x r he hp
 unfold lI at he
 split at he <;> cases he
 exact (h _ hp.2).args (aC.cons hp.1 aC.nil)
theorem f_of2 (v : af) (h : v.kind = 2) : OK 57 [ev v] [] (.iface 127 (.bool (v.num != 0))) none := by
 refine ai (C := cx []) (aj trivial) (fn := Tryz.f57) rfl rfl rfl rfl fun hw _ => ?_
 repeat' ((conv => whnf); first | apply a9 | (apply ao <;> intro h))
 all_goals try conv => whnf
 all_goals try (refine a8.mk ?_; try dsimp only)
 all_goals (try simp only [aD] at *)
 all_goals first
  | (exfalso; omega)
  | (show a7 _ _ _ _ _ _
     refine a7.mk [] ?_ <;> (repeat' first | trivial)
     done)
  | exact ⟨bk _, by assumption⟩
  | skip
theorem f_of3 (v : af) (h : v.kind = 3) : OK 57 [ev v] [] (.iface 129 (.int .i64 v.num)) none := by
 refine ai (C := cx []) (aj trivial) (fn := Tryz.f57) rfl rfl rfl rfl fun hw _ => ?_
 repeat' ((conv => whnf); first | apply a9 | (apply ao <;> intro h))
 all_goals try conv => whnf
 all_goals try (refine a8.mk ?_; try dsimp only)
 all_goals (try simp only [aD] at *)
 all_goals first
  | (exfalso; omega)
  | (show a7 _ _ _ _ _ _
     refine a7.mk [] ?_ <;> (repeat' first | trivial)
     done)
  | exact ⟨bk _, by assumption⟩
  | skip
theorem f_of4 (v : af) (h : v.kind = 4) : OK 57 [ev v] [] (.iface 125 (.int .u64 v.bits)) none := by
 refine ai (C := cx []) (aj trivial) (fn := Tryz.f57) rfl rfl rfl rfl fun hw _ => ?_
 repeat' ((conv => whnf); first | apply a9 | (apply ao <;> intro h))
 all_goals try conv => whnf
 all_goals try (refine a8.mk ?_; try dsimp only)
 all_goals (try simp only [aD] at *)
 all_goals first
  | (exfalso; omega)
  | (show a7 _ _ _ _ _ _
     refine a7.mk [] ?_ <;> (repeat' first | trivial)
     done)
  | exact ⟨bk _, by assumption⟩
  | skip
theorem f_of5 (v : af) (h : v.kind = 5) : OK 57 [ev v] [] (.iface 130 (.str v.text)) none := by
 refine ai (C := cx []) (aj trivial) (fn := Tryz.f57) rfl rfl rfl rfl fun hw _ => ?_
 repeat' ((conv => whnf); first | apply a9 | (apply ao <;> intro h))
 all_goals try conv => whnf
 all_goals try (refine a8.mk ?_; try dsimp only)
 all_goals (try simp only [aD] at *)
 all_goals first
  | (exfalso; omega)
  | (show a7 _ _ _ _ _ _
     refine a7.mk [] ?_ <;> (repeat' first | trivial)
     done)
  | exact ⟨bk _, by assumption⟩
  | skip
theorem f_ofT (v : af) (h : (v.kind ≠ 2 ∧ v.kind ≠ 3 ∧ v.kind ≠ 4 ∧ v.kind ≠ 5) ∧ v.ok ∧ v.size ≤ 300000) : OK 57 [ev v] [] (.iface 124 (.str (text v))) none := by
 refine ai (C := cx [(115, uh)]) (aj ⟨ER, trivial⟩) (fn := Tryz.f57) rfl rfl rfl rfl fun hw _ => ?_
 obtain ⟨h, hv⟩ := h
 repeat' ((conv => whnf); first | apply a9 | (apply ao <;> intro h))
 all_goals try conv => whnf
 all_goals try (refine a8.mk ?_; try dsimp only)
 all_goals (try simp only [aD] at *)
 all_goals first
  | (exfalso; omega)
  | (show a7 _ _ _ _ _ _
     refine a7.mk [] ?_ <;> (repeat' first | trivial)
     done)
  | exact ⟨bk _, by assumption⟩
  | skip
def dV (v : af) (tx : List UInt8) (s : CS) : CS := s.op (ew v tx)
theorem EB {v : af} {tx : List UInt8} {n : Nat} (h1 : v.text.length ≤ n) (h2 : tx.length ≤ n) : (ew v tx).text.length ≤ n := by
 unfold ew
 repeat' split
 all_goals first
  | exact Nat.zero_le _
  | assumption
theorem EC {v : af} {tx : List UInt8} (h : -9223372036854775808 ≤ v.num ∧ v.num ≤ 9223372036854775807) : -9223372036854775808 ≤ (ew v tx).n ∧ (ew v tx).n ≤ 9223372036854775807 := by
 have i0 : ((-9223372036854775808 : Int) ≤ 0 ∧ (0 : Int) ≤ 9223372036854775807) := by decide
 have i1 : ((-9223372036854775808 : Int) ≤ 1 ∧ (1 : Int) ≤ 9223372036854775807) := by decide
 unfold ew
 repeat' split
 all_goals first
  | exact h
  | exact i0
  | exact i1
theorem Ab (k : Int) : 0 ≤ dA k ∧ dA k ≤ 4 := by
 unfold dA
 repeat' split
 all_goals decide
structure WT (w : CS) (id : Int) (key : List UInt8) (v : af) (tx : List UInt8) : Prop where
 b0 : Wb w 1700000000 700
 k : key.length ≤ 30000000
 t : v.text.length ≤ 30000000
 x : tx.length ≤ 40000000
 n : -9223372036854775808 ≤ v.num ∧ v.num ≤ 9223372036854775807
theorem WT.b {w : CS} {id : Int} {key : List UInt8} {v : af} {tx : List UInt8} (h : WT w id key v tx) :
   Wb (w.struct id) 1700000040 701 ∧ Wb ((w.struct id).put 1 8 (aY key.length ++ key)) 1730000080 702 ∧ Wb (((w.struct id).put 1 8 (aY key.length ++ key)).whole 2 5 (dA v.kind)) 1730000120 703 ∧
    Wb (dV v tx (((w.struct id).put 1 8 (aY key.length ++ key)).whole 2 5 (dA v.kind))) 1770000160 704 := by
 have i0 : ((-9223372036854775808 : Int) ≤ 0 ∧ (0 : Int) ≤ 9223372036854775807) := by decide
 have hk := h.k
 have b1 : Wb (w.struct id) _ _ := h.b0.op ⟨123, id, 0, 0, 0, []⟩ (Nat.zero_le _) i0
 have b2 : Wb ((w.struct id).put 1 8 (aY key.length ++ key)) _ _ := b1.op ⟨115, 1, 0, 0, 0, key⟩ (by show key.length ≤ _; omega) i0
 have ht := Ab v.kind
 have b3 : Wb (((w.struct id).put 1 8 (aY key.length ++ key)).whole 2 5 (dA v.kind)) _ _ := b2.op ⟨110, 2, dA v.kind, 5, 0, []⟩ (Nat.zero_le _) (by show _ ≤ dA v.kind ∧ dA v.kind ≤ _; omega)
 have hl := EB (v := v) (tx := tx) (n := 40000000) (by have := h.t; omega) h.x
 have b4 : Wb (dV v tx _) _ _ := b3.op (ew v tx) (by omega) (EC h.n)
 simp only [List.length_nil] at b1 b2 b3 b4
 refine ⟨⟨by have := b1.1; omega, by have := b1.2; omega⟩, ⟨by have := b2.1; omega, by have := b2.2; omega⟩, ⟨by have := b3.1; omega, by have := b3.2; omega⟩, ⟨by have := b4.1; omega, by have := b4.2; omega⟩⟩
theorem kb (w : CS) (id : Int) (key : List UInt8) (v : af) (tx : List UInt8) : w.ops (dQ id key v tx) = (dV v tx (((w.struct id).put 1 8 (aY key.length ++ key)).whole 2 5 (dA v.kind))).fin := by
 unfold dQ
 simp only [CS.ops, List.foldl_cons, List.foldl_nil]
 rfl
theorem f_wr2 (w : CS) (id : Int) (a : aw) (h : WT w id a.key a.value (text a.value)) (hkind : a.value.kind = 2) : OK 26 [.ptr 0 0, .int .i64 id, ea a] (aM w) (.tuple []) (some (aM (w.ops (dQ id a.key a.value (text a.value))))) := by
 refine ai (C := kT [(57, (lI (fun v => v.kind = 2) (fun v => .iface 127 (.bool (v.num != 0))))), (47, jd), (58, kx), (59, ky), (60, lN), (61, kt), (49, iz), (195, kz), (193, lR), (194, lP), (196, lQ), (197, lO)]) (mK ⟨pj f_of2, ln, mQ, mR, og, mO, jU, mS, ot, om, oq, oh, trivial⟩) (fn := Tryz.f26) rfl rfl rfl rfl fun hw _ => ?_
 have hty : dA a.value.kind = 2 := by rw [hkind]; rfl
 have hl : ∀ s, dV a.value (text a.value) s = s.flag 5 (a.value.num != 0) := fun s => by 
  unfold dV ew
  simp only [hkind]
  by_cases q : a.value.num = 0
  . rw [if_neg (by decide), if_pos ⟨trivial, q⟩, q]; rfl
  . rw [if_neg (by decide), if_neg (fun z => q z.2), if_pos trivial, bne_iff_ne.2 q]; rfl
 have hb := h.b
 obtain ⟨⟨c1, d1⟩, ⟨c2, d2⟩, ⟨c3, d3⟩, c4, d4⟩ := hb
 have hw0 := h.b0.1
 have hw1 := h.b0.2
 have hk := h.k
 have hx := h.x
 have ht := h.t
 rw [kb, hty] at *
 rw [hl] at *
 repeat' ((conv => whnf); apply a9)
 all_goals try conv => whnf
 all_goals try (refine a8.mk ?_; try dsimp only)
 . exact ⟨bk _, by rw [aD]; first | exact hkind | exact ⟨hkind, hv, hs⟩⟩
 . exact ⟨aP (by omega) (by omega), by rw [bu]; omega, by rw [bu]; omega⟩
 . simp only [bu]
   exact ⟨aP (by omega) (by omega), ⟨by omega, by omega⟩, by omega⟩
 refine ⟨195, by show g4 _ _ _; unfold g4; simp, ?_⟩
 repeat' ((conv => whnf); apply a9)
 all_goals try conv => whnf
 all_goals try (refine a8.mk ?_; try dsimp only)
 all_goals (try simp only [bu, aD] at *)
 all_goals first
  | exact ⟨aP (by omega) (by omega), by omega, by omega⟩
  | exact ⟨aP (by omega) (by omega), ⟨by omega, by omega⟩, by omega⟩
  | skip
 refine a7.mk [] ?_ <;> (repeat' first | trivial)
theorem f_wr3 (w : CS) (id : Int) (a : aw) (h : WT w id a.key a.value (text a.value)) (hkind : a.value.kind = 3) : OK 26 [.ptr 0 0, .int .i64 id, ea a] (aM w) (.tuple []) (some (aM (w.ops (dQ id a.key a.value (text a.value))))) := by
 refine ai (C := kT [(57, (lI (fun v => v.kind = 3) (fun v => .iface 129 (.int .i64 v.num)))), (47, jd), (58, kx), (59, ky), (60, lN), (61, kt), (49, iz), (195, kz), (193, lR), (194, lP), (196, lQ), (197, lO)]) (mK ⟨pj f_of3, ln, mQ, mR, og, mO, jU, mS, ot, om, oq, oh, trivial⟩) (fn := Tryz.f26) rfl rfl rfl rfl fun hw _ => ?_
 have hty : dA a.value.kind = 3 := by rw [hkind]; rfl
 have hl : ∀ s, dV a.value (text a.value) s = s.whole 6 6 a.value.num := fun s => by unfold dV ew; simp only [hkind]; rfl
 have hb := h.b
 obtain ⟨⟨c1, d1⟩, ⟨c2, d2⟩, ⟨c3, d3⟩, c4, d4⟩ := hb
 have hw0 := h.b0.1
 have hw1 := h.b0.2
 have hk := h.k
 have hx := h.x
 have ht := h.t
 rw [kb, hty] at *
 rw [hl] at *
 repeat' ((conv => whnf); apply a9)
 all_goals try conv => whnf
 all_goals try (refine a8.mk ?_; try dsimp only)
 . exact ⟨bk _, by rw [aD]; first | exact hkind | exact ⟨hkind, hv, hs⟩⟩
 . exact ⟨aP (by omega) (by omega), by rw [bu]; omega, by rw [bu]; omega⟩
 . simp only [bu]
   exact ⟨aP (by omega) (by omega), ⟨by omega, by omega⟩, by omega⟩
 refine ⟨196, by show g4 _ _ _; unfold g4; simp, ?_⟩
 repeat' ((conv => whnf); apply a9)
 all_goals try conv => whnf
 all_goals try (refine a8.mk ?_; try dsimp only)
 all_goals (try simp only [bu, aD] at *)
 all_goals first
  | exact ⟨aP (by omega) (by omega), by omega, by omega⟩
  | exact ⟨aP (by omega) (by omega), ⟨by omega, by omega⟩, by omega⟩
  | skip
 refine a7.mk [] ?_ <;> (repeat' first | trivial)
theorem f_wr4 (w : CS) (id : Int) (a : aw) (h : WT w id a.key a.value (text a.value)) (hkind : a.value.kind = 4) : OK 26 [.ptr 0 0, .int .i64 id, ea a] (aM w) (.tuple []) (some (aM (w.ops (dQ id a.key a.value (text a.value))))) := by
 refine ai (C := kT [(57, (lI (fun v => v.kind = 4) (fun v => .iface 125 (.int .u64 v.bits)))), (47, jd), (58, kx), (59, ky), (60, lN), (61, kt), (49, iz), (195, kz), (193, lR), (194, lP), (196, lQ), (197, lO)]) (mK ⟨pj f_of4, ln, mQ, mR, og, mO, jU, mS, ot, om, oq, oh, trivial⟩) (fn := Tryz.f26) rfl rfl rfl rfl fun hw _ => ?_
 have hty : dA a.value.kind = 1 := by rw [hkind]; rfl
 have hl : ∀ s, dV a.value (text a.value) s = s.put 4 7 (low 8 a.value.bits.toNat) := fun s => by unfold dV ew; simp only [hkind]; rfl
 have hb := h.b
 obtain ⟨⟨c1, d1⟩, ⟨c2, d2⟩, ⟨c3, d3⟩, c4, d4⟩ := hb
 have hw0 := h.b0.1
 have hw1 := h.b0.2
 have hk := h.k
 have hx := h.x
 have ht := h.t
 rw [kb, hty] at *
 rw [hl] at *
 repeat' ((conv => whnf); apply a9)
 all_goals try conv => whnf
 all_goals try (refine a8.mk ?_; try dsimp only)
 . exact ⟨bk _, by rw [aD]; first | exact hkind | exact ⟨hkind, hv, hs⟩⟩
 . exact ⟨aP (by omega) (by omega), by rw [bu]; omega, by rw [bu]; omega⟩
 . simp only [bu]
   exact ⟨aP (by omega) (by omega), ⟨by omega, by omega⟩, by omega⟩
 refine ⟨194, by show g4 _ _ _; unfold g4; simp, ?_⟩
 repeat' ((conv => whnf); apply a9)
 all_goals try conv => whnf
 all_goals try (refine a8.mk ?_; try dsimp only)
 all_goals (try simp only [bu, aD] at *)
 all_goals first
  | exact ⟨aP (by omega) (by omega), by omega, by omega⟩
  | exact ⟨aP (by omega) (by omega), ⟨by omega, by omega⟩, by omega⟩
  | skip
 refine a7.mk [] ?_ <;> (repeat' first | trivial)
theorem f_wr5 (w : CS) (id : Int) (a : aw) (h : WT w id a.key a.value (text a.value)) (hkind : a.value.kind = 5) : OK 26 [.ptr 0 0, .int .i64 id, ea a] (aM w) (.tuple []) (some (aM (w.ops (dQ id a.key a.value (text a.value))))) := by
 refine ai (C := kT [(57, (lI (fun v => v.kind = 5) (fun v => .iface 130 (.str v.text)))), (47, jd), (58, kx), (59, ky), (60, lN), (61, kt), (49, iz), (195, kz), (193, lR), (194, lP), (196, lQ), (197, lO)]) (mK ⟨pj f_of5, ln, mQ, mR, og, mO, jU, mS, ot, om, oq, oh, trivial⟩) (fn := Tryz.f26) rfl rfl rfl rfl fun hw _ => ?_
 have hty : dA a.value.kind = 4 := by rw [hkind]; rfl
 have hl : ∀ s, dV a.value (text a.value) s = s.put 7 8 (aY a.value.text.length ++ a.value.text) := fun s => by unfold dV ew; simp only [hkind]; rfl
 have hb := h.b
 obtain ⟨⟨c1, d1⟩, ⟨c2, d2⟩, ⟨c3, d3⟩, c4, d4⟩ := hb
 have hw0 := h.b0.1
 have hw1 := h.b0.2
 have hk := h.k
 have hx := h.x
 have ht := h.t
 rw [kb, hty] at *
 rw [hl] at *
 repeat' ((conv => whnf); apply a9)
 all_goals try conv => whnf
 all_goals try (refine a8.mk ?_; try dsimp only)
 . exact ⟨bk _, by rw [aD]; first | exact hkind | exact ⟨hkind, hv, hs⟩⟩
 . exact ⟨aP (by omega) (by omega), by rw [bu]; omega, by rw [bu]; omega⟩
 . simp only [bu]
   exact ⟨aP (by omega) (by omega), ⟨by omega, by omega⟩, by omega⟩
 refine ⟨197, by show g4 _ _ _; unfold g4; simp, ?_⟩
 repeat' ((conv => whnf); apply a9)
 all_goals try conv => whnf
 all_goals try (refine a8.mk ?_; try dsimp only)
 all_goals (try simp only [bu, aD] at *)
 all_goals first
  | exact ⟨aP (by omega) (by omega), by omega, by omega⟩
  | exact ⟨aP (by omega) (by omega), ⟨by omega, by omega⟩, by omega⟩
  | skip
 refine a7.mk [] ?_ <;> (repeat' first | trivial)
theorem f_wrT (w : CS) (id : Int) (a : aw) (h : WT w id a.key a.value (text a.value)) (hkind : a.value.kind ≠ 2 ∧ a.value.kind ≠ 3 ∧ a.value.kind ≠ 4 ∧ a.value.kind ≠ 5) (hv : a.value.ok) (hs : a.value.size ≤ 300000) : OK 26 [.ptr 0 0, .int .i64 id, ea a] (aM w) (.tuple []) (some (aM (w.ops (dQ id a.key a.value (text a.value))))) := by
 refine ai (C := kT [(57, (lI (fun v => (v.kind ≠ 2 ∧ v.kind ≠ 3 ∧ v.kind ≠ 4 ∧ v.kind ≠ 5) ∧ v.ok ∧ v.size ≤ 300000) (fun v => .iface 124 (.str (text v))))), (47, jd), (58, kx), (59, ky), (60, lN), (61, kt), (49, iz), (195, kz), (193, lR), (194, lP), (196, lQ), (197, lO)]) (mK ⟨pj f_ofT, ln, mQ, mR, og, mO, jU, mS, ot, om, oq, oh, trivial⟩) (fn := Tryz.f26) rfl rfl rfl rfl fun hw _ => ?_
 have hty : dA a.value.kind = 0 := by unfold dA; rw [if_neg (by omega), if_neg (by omega), if_neg (by omega), if_neg (by omega)]
 have hl : ∀ s, dV a.value (text a.value) s = s.put 3 8 (aY (text a.value).length ++ text a.value) := fun s => by unfold dV ew; rw [if_neg (by omega), if_neg (by omega), if_neg (by omega), if_neg (by omega), if_neg (by omega)]; rfl
 have hb := h.b
 obtain ⟨⟨c1, d1⟩, ⟨c2, d2⟩, ⟨c3, d3⟩, c4, d4⟩ := hb
 have hw0 := h.b0.1
 have hw1 := h.b0.2
 have hk := h.k
 have hx := h.x
 have ht := h.t
 rw [kb, hty] at *
 rw [hl] at *
 repeat' ((conv => whnf); apply a9)
 all_goals try conv => whnf
 all_goals try (refine a8.mk ?_; try dsimp only)
 . exact ⟨bk _, by rw [aD]; first | exact hkind | exact ⟨hkind, hv, hs⟩⟩
 . exact ⟨aP (by omega) (by omega), by rw [bu]; omega, by rw [bu]; omega⟩
 . simp only [bu]
   exact ⟨aP (by omega) (by omega), ⟨by omega, by omega⟩, by omega⟩
 refine ⟨193, by show g4 _ _ _; unfold g4; simp, ?_⟩
 repeat' ((conv => whnf); apply a9)
 all_goals try conv => whnf
 all_goals try (refine a8.mk ?_; try dsimp only)
 all_goals (try simp only [bu, aD] at *)
 all_goals first
  | exact ⟨aP (by omega) (by omega), by omega, by omega⟩
  | exact ⟨aP (by omega) (by omega), ⟨by omega, by omega⟩, by omega⟩
  | skip
 refine a7.mk [] ?_ <;> (repeat' first | trivial)
theorem vk {v : af} (hv : v.ok) (hs : v.size ≤ 300000) : (text v).length ≤ 40000000 ∧ v.text.length ≤ 30000000 := by
 have hz := size_eq v
 refine ⟨?_, by omega⟩
 have hb := ok_eq hv
 have a1 := vn v.num
 have a2 := qd hb.2.1.1 hb.2.1.2
 have a3 := qc v.bits
 have a4 := fX v.text
 unfold text
 split
 . have := jT v hv; omega
 . unfold simple
   repeat' split
   all_goals (try simp only [List.length_nil])
   all_goals omega
theorem D6 (w : CS) (id : Int) (y : V) (hp : (Wk y (ea (cK y)) ∧ (cK y).value.ok ∧ (cK y).value.size ≤ 300000 ∧ (cK y).key.length ≤ 30000000) ∧ Wb w 1700000000 700) : OK 26 ([.ptr 0 0, .int .i64 id, y]) (aM w) (.tuple []) (some (aM (w.ops (dQ id (cK y).key (cK y).value (text (cK y).value))))) := by
 obtain ⟨⟨hy, hv, hs, hk⟩, hb⟩ := hp
 generalize cK y = a at *
 have ht := vk hv hs
 have h : WT w id a.key a.value (text a.value) := ⟨hb, hk, ht.2, ht.1, (ok_eq hv).2.1⟩
 have hw := aC.cons (Wk.refl (.ptr 0 0)) (aC.cons (Wk.refl (.int .i64 id)) (aC.cons hy aC.nil))
 by_cases h2 : a.value.kind = 2
 . exact (f_wr2 w id a h h2).args hw
 by_cases h3 : a.value.kind = 3
 . exact (f_wr3 w id a h h3).args hw
 by_cases h4 : a.value.kind = 4
 . exact (f_wr4 w id a h h4).args hw
 by_cases h5 : a.value.kind = 5
 . exact (f_wr5 w id a h h5).args hw
 exact (f_wrT w id a h ⟨h2, h3, h4, h5⟩ hv hs).args hw
def uG : Sm := fun args σ => match args, σ with
 | [.ptr 0 0, .int .i64 id, y], [.cells [.buf 1, .buf 2, .int .i64 c_w], .buf 1 0 o_w, .buf 4 0 l_w] => some (d7 o_w l_w ∧ ((Wk y (ea (cK y)) ∧ (cK y).value.ok ∧ (cK y).value.size ≤ 300000 ∧ (cK y).key.length ≤ 30000000) ∧ Wb (aU o_w l_w c_w) 1700000000 700), .tuple [], some (aM ((aU o_w l_w c_w).ops (dQ id (cK y).key (cK y).value (text (cK y).value)))))
 | _, _ => none
theorem F8 : aa 26 uG := by
 intro args sg pre x r he hp
 unfold uG at he
 split at he <;> cases he
 . rw [ee (hp).1]; exact D6 (hp := hp.2) ..
end Go.Proofs.YtipejldppicijaaGreatDoor
