/-
  A part of the proof.
-/
import Derived.Test.YtipejldppicijaaGreatDoorGK
import Derived.Test.YtipejldppicijaaGreatDoorPText2
set_option linter.unusedSimpArgs false
set_option linter.unusedVariables false
set_option maxHeartbeats 4000000
namespace Go.Proofs.YtipejldppicijaaGreatDoor
open Go Go.VG
set_option maxRecDepth 100000
theorem GR (b : List UInt8) (hp : True) : OK 193 ([.str b]) ([]) (.int .i64 0) (none) := by
 refine af (C := cx []) (ah trivial) (fn := Tryz.f193) rfl rfl rfl rfl fun hw hs => ?_
 all_goals try conv => whnf
 all_goals try (refine a8.mk ?_; try dsimp only)
 all_goals try refine stay ?_
 refine a7.mk [] ?_ <;> (repeat' first | trivial)
def mW : Sm := fun args σ => match args, σ with
 | [.str b], [] => some (True, .int .i64 0, none)
 | _, _ => none
theorem pQ : aa 193 mW := by
 intro args sg pre x r he hp
 unfold mW at he
 split at he <;> cases he
 . exact GR (hp := hp) ..
theorem GO (b : Int) (hp : True) : OK 194 ([.int .u64 b]) ([]) (.int .i64 1) (none) := by
 refine af (C := cx []) (ah trivial) (fn := Tryz.f194) rfl rfl rfl rfl fun hw hs => ?_
 all_goals try conv => whnf
 all_goals try (refine a8.mk ?_; try dsimp only)
 all_goals try refine stay ?_
 refine a7.mk [] ?_ <;> (repeat' first | trivial)
def mU : Sm := fun args σ => match args, σ with
 | [.int .u64 b], [] => some (True, .int .i64 1, none)
 | _, _ => none
theorem pO : aa 194 mU := by
 intro args sg pre x r he hp
 unfold mU at he
 split at he <;> cases he
 . exact GO (hp := hp) ..
theorem GQ (b : Int) (hp : True) : OK 196 ([.int .i64 b]) ([]) (.int .i64 3) (none) := by
 refine af (C := cx []) (ah trivial) (fn := Tryz.f196) rfl rfl rfl rfl fun hw hs => ?_
 all_goals try conv => whnf
 all_goals try (refine a8.mk ?_; try dsimp only)
 all_goals try refine stay ?_
 refine a7.mk [] ?_ <;> (repeat' first | trivial)
def mV : Sm := fun args σ => match args, σ with
 | [.int .i64 b], [] => some (True, .int .i64 3, none)
 | _, _ => none
theorem pP : aa 196 mV := by
 intro args sg pre x r he hp
 unfold mV at he
 split at he <;> cases he
 . exact GQ (hp := hp) ..
theorem GN (b : List UInt8) (hp : True) : OK 197 ([.str b]) ([]) (.int .i64 4) (none) := by
 refine af (C := cx []) (ah trivial) (fn := Tryz.f197) rfl rfl rfl rfl fun hw hs => ?_
 all_goals try conv => whnf
 all_goals try (refine a8.mk ?_; try dsimp only)
 all_goals try refine stay ?_
 refine a7.mk [] ?_ <;> (repeat' first | trivial)
def mT : Sm := fun args σ => match args, σ with
 | [.str b], [] => some (True, .int .i64 4, none)
 | _, _ => none
theorem pN : aa 197 mT := by
 intro args sg pre x r he hp
 unfold mT at he
 split at he <;> cases he
 . exact GN (hp := hp) ..
def mM (P : ae → Prop) (R : ae → V) : Sm := fun args σ => match args, σ with
 | [x], [] => some (dV x ∧ P (aY x), R (aY x), none)
 | _, _ => none
theorem qI {P : ae → Prop} {R : ae → V} (h : ∀ v, P v → OK 57 [ev v] [] (R v) none) : aa 57 (mM P R) := by
 intro args sg pre x r he hp
 unfold mM at he
 split at he <;> cases he
 exact (h _ hp.2).args (aq.cons hp.1 aq.nil)
theorem f_of2 (v : ae) (h : v.kind = 2) : OK 57 [ev v] [] (.iface 127 (.bool (v.num != 0))) none := by
 refine af (C := cx []) (ah trivial) (fn := Tryz.f57) rfl rfl rfl rfl fun hw _ => ?_
 repeat' ((conv => whnf); first | apply a9 | (apply al <;> intro h))
 all_goals try conv => whnf
 all_goals try (refine a8.mk ?_; try dsimp only)
 all_goals (try simp only [az] at *)
 all_goals first
  | (exfalso; omega)
  | (show a7 _ _ _ _ _ _
     refine a7.mk [] ?_ <;> (repeat' first | trivial)
     done)
  | exact ⟨ba _, by assumption⟩
  | skip
theorem f_of3 (v : ae) (h : v.kind = 3) : OK 57 [ev v] [] (.iface 129 (.int .i64 v.num)) none := by
 refine af (C := cx []) (ah trivial) (fn := Tryz.f57) rfl rfl rfl rfl fun hw _ => ?_
 repeat' ((conv => whnf); first | apply a9 | (apply al <;> intro h))
 all_goals try conv => whnf
 all_goals try (refine a8.mk ?_; try dsimp only)
 all_goals (try simp only [az] at *)
 all_goals first
  | (exfalso; omega)
  | (show a7 _ _ _ _ _ _
     refine a7.mk [] ?_ <;> (repeat' first | trivial)
     done)
  | exact ⟨ba _, by assumption⟩
  | skip
theorem f_of4 (v : ae) (h : v.kind = 4) : OK 57 [ev v] [] (.iface 125 (.int .u64 v.bits)) none := by
 refine af (C := cx []) (ah trivial) (fn := Tryz.f57) rfl rfl rfl rfl fun hw _ => ?_
 repeat' ((conv => whnf); first | apply a9 | (apply al <;> intro h))
 all_goals try conv => whnf
 all_goals try (refine a8.mk ?_; try dsimp only)
 all_goals (try simp only [az] at *)
 all_goals first
  | (exfalso; omega)
  | (show a7 _ _ _ _ _ _
     refine a7.mk [] ?_ <;> (repeat' first | trivial)
     done)
  | exact ⟨ba _, by assumption⟩
  | skip
theorem f_of5 (v : ae) (h : v.kind = 5) : OK 57 [ev v] [] (.iface 130 (.str v.text)) none := by
 refine af (C := cx []) (ah trivial) (fn := Tryz.f57) rfl rfl rfl rfl fun hw _ => ?_
 repeat' ((conv => whnf); first | apply a9 | (apply al <;> intro h))
 all_goals try conv => whnf
 all_goals try (refine a8.mk ?_; try dsimp only)
 all_goals (try simp only [az] at *)
 all_goals first
  | (exfalso; omega)
  | (show a7 _ _ _ _ _ _
     refine a7.mk [] ?_ <;> (repeat' first | trivial)
     done)
  | exact ⟨ba _, by assumption⟩
  | skip
theorem f_ofT (v : ae) (h : (v.kind ≠ 2 ∧ v.kind ≠ 3 ∧ v.kind ≠ 4 ∧ v.kind ≠ 5) ∧ v.ok ∧ v.size ≤ 300000) : OK 57 [ev v] [] (.iface 124 (.str (text v))) none := by
 refine af (C := cx [(115, wE)]) (ah ⟨IU, trivial⟩) (fn := Tryz.f57) rfl rfl rfl rfl fun hw _ => ?_
 obtain ⟨h, hv⟩ := h
 repeat' ((conv => whnf); first | apply a9 | (apply al <;> intro h))
 all_goals try conv => whnf
 all_goals try (refine a8.mk ?_; try dsimp only)
 all_goals (try simp only [az] at *)
 all_goals first
  | (exfalso; omega)
  | (show a7 _ _ _ _ _ _
     refine a7.mk [] ?_ <;> (repeat' first | trivial)
     done)
  | exact ⟨ba _, by assumption⟩
  | skip
def eF (v : ae) (tx : List UInt8) (s : CS) : CS := s.op (du v tx)
theorem vb {v : ae} {tx : List UInt8} {n : Nat} (h1 : v.text.length ≤ n) (h2 : tx.length ≤ n) : (du v tx).text.length ≤ n := by
 unfold du
 repeat' split
 all_goals first
  | exact Nat.zero_le _
  | assumption
theorem zS {v : ae} {tx : List UInt8} (h : -9223372036854775808 ≤ v.num ∧ v.num ≤ 9223372036854775807) : -9223372036854775808 ≤ (du v tx).n ∧ (du v tx).n ≤ 9223372036854775807 := by
 have i0 : ((-9223372036854775808 : Int) ≤ 0 ∧ (0 : Int) ≤ 9223372036854775807) := by decide
 have i1 : ((-9223372036854775808 : Int) ≤ 1 ∧ (1 : Int) ≤ 9223372036854775807) := by decide
 unfold du
 repeat' split
 all_goals first
  | exact h
  | exact i0
  | exact i1
theorem oH (k : Int) : 0 ≤ cz k ∧ cz k ≤ 4 := by
 unfold cz
 repeat' split
 all_goals decide
structure WT (w : CS) (id : Int) (key : List UInt8) (v : ae) (tx : List UInt8) : Prop where
 b0 : Wb w 1700000000 700
 k : key.length ≤ 30000000
 t : v.text.length ≤ 30000000
 x : tx.length ≤ 40000000
 n : -9223372036854775808 ≤ v.num ∧ v.num ≤ 9223372036854775807
theorem WT.b {w : CS} {id : Int} {key : List UInt8} {v : ae} {tx : List UInt8} (h : WT w id key v tx) :
   Wb (w.struct id) 1700000040 701 ∧ Wb ((w.struct id).put 1 8 (aF key.length ++ key)) 1730000080 702 ∧ Wb (((w.struct id).put 1 8 (aF key.length ++ key)).whole 2 5 (cz v.kind)) 1730000120 703 ∧
    Wb (eF v tx (((w.struct id).put 1 8 (aF key.length ++ key)).whole 2 5 (cz v.kind))) 1770000160 704 := by
 have i0 : ((-9223372036854775808 : Int) ≤ 0 ∧ (0 : Int) ≤ 9223372036854775807) := by decide
 have hk := h.k
 have b1 : Wb (w.struct id) _ _ := h.b0.op ⟨123, id, 0, 0, 0, []⟩ (Nat.zero_le _) i0
 have b2 : Wb ((w.struct id).put 1 8 (aF key.length ++ key)) _ _ := b1.op ⟨115, 1, 0, 0, 0, key⟩ (by show key.length ≤ _; omega) i0
 have ht := oH v.kind
 have b3 : Wb (((w.struct id).put 1 8 (aF key.length ++ key)).whole 2 5 (cz v.kind)) _ _ := b2.op ⟨110, 2, cz v.kind, 5, 0, []⟩ (Nat.zero_le _) (by show _ ≤ cz v.kind ∧ cz v.kind ≤ _; omega)
 have hl := vb (v := v) (tx := tx) (n := 40000000) (by have := h.t; omega) h.x
 have b4 : Wb (eF v tx _) _ _ := b3.op (du v tx) (by omega) (zS h.n)
 simp only [List.length_nil] at b1 b2 b3 b4
 refine ⟨⟨by have := b1.1; omega, by have := b1.2; omega⟩, ⟨by have := b2.1; omega, by have := b2.2; omega⟩, ⟨by have := b3.1; omega, by have := b3.2; omega⟩, ⟨by have := b4.1; omega, by have := b4.2; omega⟩⟩
theorem lj (w : CS) (id : Int) (key : List UInt8) (v : ae) (tx : List UInt8) : w.ops (cL id key v tx) = (eF v tx (((w.struct id).put 1 8 (aF key.length ++ key)).whole 2 5 (cz v.kind))).fin := by
 unfold cL
 simp only [CS.ops, List.foldl_cons, List.foldl_nil]
 rfl
theorem f_wr2 (w : CS) (id : Int) (a : ak) (h : WT w id a.key a.value (text a.value)) (hkind : a.value.kind = 2) : OK 26 [.ptr 0 0, .int .i64 id, ea a] (aN w) (.tuple []) (some (aN (w.ops (cL id a.key a.value (text a.value))))) := by
 refine af (C := m8 [(57, (mM (fun v => v.kind = 2) (fun v => .iface 127 (.bool (v.num != 0))))), (47, jq), (58, lE), (59, lF), (60, mS), (61, lC), (49, im), (195, lG), (193, mW), (194, mU), (196, mV), (197, mT)]) (nO ⟨qI f_of2, l6, nV, nW, pM, nT, jh, nX, pQ, pO, pP, pN, trivial⟩) (fn := Tryz.f26) rfl rfl rfl rfl fun hw _ => ?_
 have hty : cz a.value.kind = 2 := by rw [hkind]; rfl
 have hl : ∀ s, eF a.value (text a.value) s = s.flag 5 (a.value.num != 0) := fun s => by 
  unfold eF du
  simp only [hkind]
  by_cases q : a.value.num = 0
  . rw [if_neg (by decide), if_pos ⟨trivial, q⟩, q]; rfl
  . rw [if_neg (by decide), if_neg (fun z => q z.2), if_pos trivial, bne_iff_ne.2 q]; rfl
 have hb := h.b
 obtain ⟨⟨c1, d1⟩, ⟨c2, d2⟩, ⟨c3, d3⟩, c4, d4⟩ := hb
 have hw0 := h.b0.1
 have hw1 := h.b0.2
 have hk := h.k
 have hx := h.x
 have ht := h.t
 rw [lj, hty] at *
 rw [hl] at *
 repeat' ((conv => whnf); apply a9)
 all_goals try conv => whnf
 all_goals try (refine a8.mk ?_; try dsimp only)
 . exact ⟨ba _, by rw [az]; first | exact hkind | exact ⟨hkind, hv, hs⟩⟩
 . exact ⟨aR (by omega) (by omega), by rw [bD]; omega, by rw [bD]; omega⟩
 . simp only [bD]
   exact ⟨aR (by omega) (by omega), ⟨by omega, by omega⟩, by omega⟩
 refine ⟨195, by show gL _ _ _; unfold gL; simp, ?_⟩
 repeat' ((conv => whnf); apply a9)
 all_goals try conv => whnf
 all_goals try (refine a8.mk ?_; try dsimp only)
 all_goals (try simp only [bD, az] at *)
 all_goals first
  | exact ⟨aR (by omega) (by omega), by omega, by omega⟩
  | exact ⟨aR (by omega) (by omega), ⟨by omega, by omega⟩, by omega⟩
  | skip
 refine a7.mk [] ?_ <;> (repeat' first | trivial)
theorem f_wr3 (w : CS) (id : Int) (a : ak) (h : WT w id a.key a.value (text a.value)) (hkind : a.value.kind = 3) : OK 26 [.ptr 0 0, .int .i64 id, ea a] (aN w) (.tuple []) (some (aN (w.ops (cL id a.key a.value (text a.value))))) := by
 refine af (C := m8 [(57, (mM (fun v => v.kind = 3) (fun v => .iface 129 (.int .i64 v.num)))), (47, jq), (58, lE), (59, lF), (60, mS), (61, lC), (49, im), (195, lG), (193, mW), (194, mU), (196, mV), (197, mT)]) (nO ⟨qI f_of3, l6, nV, nW, pM, nT, jh, nX, pQ, pO, pP, pN, trivial⟩) (fn := Tryz.f26) rfl rfl rfl rfl fun hw _ => ?_
 have hty : cz a.value.kind = 3 := by rw [hkind]; rfl
 have hl : ∀ s, eF a.value (text a.value) s = s.whole 6 6 a.value.num := fun s => by unfold eF du; simp only [hkind]; rfl
 have hb := h.b
 obtain ⟨⟨c1, d1⟩, ⟨c2, d2⟩, ⟨c3, d3⟩, c4, d4⟩ := hb
 have hw0 := h.b0.1
 have hw1 := h.b0.2
 have hk := h.k
 have hx := h.x
 have ht := h.t
 rw [lj, hty] at *
 rw [hl] at *
 repeat' ((conv => whnf); apply a9)
 all_goals try conv => whnf
 all_goals try (refine a8.mk ?_; try dsimp only)
 . exact ⟨ba _, by rw [az]; first | exact hkind | exact ⟨hkind, hv, hs⟩⟩
 . exact ⟨aR (by omega) (by omega), by rw [bD]; omega, by rw [bD]; omega⟩
 . simp only [bD]
   exact ⟨aR (by omega) (by omega), ⟨by omega, by omega⟩, by omega⟩
 refine ⟨196, by show gL _ _ _; unfold gL; simp, ?_⟩
 repeat' ((conv => whnf); apply a9)
 all_goals try conv => whnf
 all_goals try (refine a8.mk ?_; try dsimp only)
 all_goals (try simp only [bD, az] at *)
 all_goals first
  | exact ⟨aR (by omega) (by omega), by omega, by omega⟩
  | exact ⟨aR (by omega) (by omega), ⟨by omega, by omega⟩, by omega⟩
  | skip
 refine a7.mk [] ?_ <;> (repeat' first | trivial)
theorem f_wr4 (w : CS) (id : Int) (a : ak) (h : WT w id a.key a.value (text a.value)) (hkind : a.value.kind = 4) : OK 26 [.ptr 0 0, .int .i64 id, ea a] (aN w) (.tuple []) (some (aN (w.ops (cL id a.key a.value (text a.value))))) := by
 refine af (C := m8 [(57, (mM (fun v => v.kind = 4) (fun v => .iface 125 (.int .u64 v.bits)))), (47, jq), (58, lE), (59, lF), (60, mS), (61, lC), (49, im), (195, lG), (193, mW), (194, mU), (196, mV), (197, mT)]) (nO ⟨qI f_of4, l6, nV, nW, pM, nT, jh, nX, pQ, pO, pP, pN, trivial⟩) (fn := Tryz.f26) rfl rfl rfl rfl fun hw _ => ?_
 have hty : cz a.value.kind = 1 := by rw [hkind]; rfl
 have hl : ∀ s, eF a.value (text a.value) s = s.put 4 7 (low 8 a.value.bits.toNat) := fun s => by unfold eF du; simp only [hkind]; rfl
 have hb := h.b
 obtain ⟨⟨c1, d1⟩, ⟨c2, d2⟩, ⟨c3, d3⟩, c4, d4⟩ := hb
 have hw0 := h.b0.1
 have hw1 := h.b0.2
 have hk := h.k
 have hx := h.x
 have ht := h.t
 rw [lj, hty] at *
 rw [hl] at *
 repeat' ((conv => whnf); apply a9)
 all_goals try conv => whnf
 all_goals try (refine a8.mk ?_; try dsimp only)
 . exact ⟨ba _, by rw [az]; first | exact hkind | exact ⟨hkind, hv, hs⟩⟩
 . exact ⟨aR (by omega) (by omega), by rw [bD]; omega, by rw [bD]; omega⟩
 . simp only [bD]
   exact ⟨aR (by omega) (by omega), ⟨by omega, by omega⟩, by omega⟩
 refine ⟨194, by show gL _ _ _; unfold gL; simp, ?_⟩
 repeat' ((conv => whnf); apply a9)
 all_goals try conv => whnf
 all_goals try (refine a8.mk ?_; try dsimp only)
 all_goals (try simp only [bD, az] at *)
 all_goals first
  | exact ⟨aR (by omega) (by omega), by omega, by omega⟩
  | exact ⟨aR (by omega) (by omega), ⟨by omega, by omega⟩, by omega⟩
  | skip
 refine a7.mk [] ?_ <;> (repeat' first | trivial)
theorem f_wr5 (w : CS) (id : Int) (a : ak) (h : WT w id a.key a.value (text a.value)) (hkind : a.value.kind = 5) : OK 26 [.ptr 0 0, .int .i64 id, ea a] (aN w) (.tuple []) (some (aN (w.ops (cL id a.key a.value (text a.value))))) := by
 refine af (C := m8 [(57, (mM (fun v => v.kind = 5) (fun v => .iface 130 (.str v.text)))), (47, jq), (58, lE), (59, lF), (60, mS), (61, lC), (49, im), (195, lG), (193, mW), (194, mU), (196, mV), (197, mT)]) (nO ⟨qI f_of5, l6, nV, nW, pM, nT, jh, nX, pQ, pO, pP, pN, trivial⟩) (fn := Tryz.f26) rfl rfl rfl rfl fun hw _ => ?_
 have hty : cz a.value.kind = 4 := by rw [hkind]; rfl
 have hl : ∀ s, eF a.value (text a.value) s = s.put 7 8 (aF a.value.text.length ++ a.value.text) := fun s => by unfold eF du; simp only [hkind]; rfl
 have hb := h.b
 obtain ⟨⟨c1, d1⟩, ⟨c2, d2⟩, ⟨c3, d3⟩, c4, d4⟩ := hb
 have hw0 := h.b0.1
 have hw1 := h.b0.2
 have hk := h.k
 have hx := h.x
 have ht := h.t
 rw [lj, hty] at *
 rw [hl] at *
 repeat' ((conv => whnf); apply a9)
 all_goals try conv => whnf
 all_goals try (refine a8.mk ?_; try dsimp only)
 . exact ⟨ba _, by rw [az]; first | exact hkind | exact ⟨hkind, hv, hs⟩⟩
 . exact ⟨aR (by omega) (by omega), by rw [bD]; omega, by rw [bD]; omega⟩
 . simp only [bD]
   exact ⟨aR (by omega) (by omega), ⟨by omega, by omega⟩, by omega⟩
 refine ⟨197, by show gL _ _ _; unfold gL; simp, ?_⟩
 repeat' ((conv => whnf); apply a9)
 all_goals try conv => whnf
 all_goals try (refine a8.mk ?_; try dsimp only)
 all_goals (try simp only [bD, az] at *)
 all_goals first
  | exact ⟨aR (by omega) (by omega), by omega, by omega⟩
  | exact ⟨aR (by omega) (by omega), ⟨by omega, by omega⟩, by omega⟩
  | skip
 refine a7.mk [] ?_ <;> (repeat' first | trivial)
theorem f_wrT (w : CS) (id : Int) (a : ak) (h : WT w id a.key a.value (text a.value)) (hkind : a.value.kind ≠ 2 ∧ a.value.kind ≠ 3 ∧ a.value.kind ≠ 4 ∧ a.value.kind ≠ 5) (hv : a.value.ok) (hs : a.value.size ≤ 300000) : OK 26 [.ptr 0 0, .int .i64 id, ea a] (aN w) (.tuple []) (some (aN (w.ops (cL id a.key a.value (text a.value))))) := by
 refine af (C := m8 [(57, (mM (fun v => (v.kind ≠ 2 ∧ v.kind ≠ 3 ∧ v.kind ≠ 4 ∧ v.kind ≠ 5) ∧ v.ok ∧ v.size ≤ 300000) (fun v => .iface 124 (.str (text v))))), (47, jq), (58, lE), (59, lF), (60, mS), (61, lC), (49, im), (195, lG), (193, mW), (194, mU), (196, mV), (197, mT)]) (nO ⟨qI f_ofT, l6, nV, nW, pM, nT, jh, nX, pQ, pO, pP, pN, trivial⟩) (fn := Tryz.f26) rfl rfl rfl rfl fun hw _ => ?_
 have hty : cz a.value.kind = 0 := by unfold cz; rw [if_neg (by omega), if_neg (by omega), if_neg (by omega), if_neg (by omega)]
 have hl : ∀ s, eF a.value (text a.value) s = s.put 3 8 (aF (text a.value).length ++ text a.value) := fun s => by unfold eF du; rw [if_neg (by omega), if_neg (by omega), if_neg (by omega), if_neg (by omega), if_neg (by omega)]; rfl
 have hb := h.b
 obtain ⟨⟨c1, d1⟩, ⟨c2, d2⟩, ⟨c3, d3⟩, c4, d4⟩ := hb
 have hw0 := h.b0.1
 have hw1 := h.b0.2
 have hk := h.k
 have hx := h.x
 have ht := h.t
 rw [lj, hty] at *
 rw [hl] at *
 repeat' ((conv => whnf); apply a9)
 all_goals try conv => whnf
 all_goals try (refine a8.mk ?_; try dsimp only)
 . exact ⟨ba _, by rw [az]; first | exact hkind | exact ⟨hkind, hv, hs⟩⟩
 . exact ⟨aR (by omega) (by omega), by rw [bD]; omega, by rw [bD]; omega⟩
 . simp only [bD]
   exact ⟨aR (by omega) (by omega), ⟨by omega, by omega⟩, by omega⟩
 refine ⟨193, by show gL _ _ _; unfold gL; simp, ?_⟩
 repeat' ((conv => whnf); apply a9)
 all_goals try conv => whnf
 all_goals try (refine a8.mk ?_; try dsimp only)
 all_goals (try simp only [bD, az] at *)
 all_goals first
  | exact ⟨aR (by omega) (by omega), by omega, by omega⟩
  | exact ⟨aR (by omega) (by omega), ⟨by omega, by omega⟩, by omega⟩
  | skip
 refine a7.mk [] ?_ <;> (repeat' first | trivial)
theorem MO {v : ae} (hv : v.ok) (hs : v.size ≤ 300000) : (text v).length ≤ 40000000 ∧ v.text.length ≤ 30000000 := by
 have hz := size_eq v
 refine ⟨?_, by omega⟩
 have hb := ok_eq hv
 have a1 := u9 v.num
 have a2 := pg hb.2.1.1 hb.2.1.2
 have a3 := pf v.bits
 have a4 := gm v.text
 unfold text
 split
 . have := jJ v hv; omega
 . unfold simple
   repeat' split
   all_goals (try simp only [List.length_nil])
   all_goals omega
theorem GM (w : CS) (id : Int) (y : V) (hp : (Wk y (ea (cD y)) ∧ (cD y).value.ok ∧ (cD y).value.size ≤ 300000 ∧ (cD y).key.length ≤ 30000000) ∧ Wb w 1700000000 700) : OK 26 ([.ptr 0 0, .int .i64 id, y]) (aN w) (.tuple []) (some (aN (w.ops (cL id (cD y).key (cD y).value (text (cD y).value))))) := by
 obtain ⟨⟨hy, hv, hs, hk⟩, hb⟩ := hp
 generalize cD y = a at *
 have ht := MO hv hs
 have h : WT w id a.key a.value (text a.value) := ⟨hb, hk, ht.2, ht.1, (ok_eq hv).2.1⟩
 have hw := aq.cons (Wk.refl (.ptr 0 0)) (aq.cons (Wk.refl (.int .i64 id)) (aq.cons hy aq.nil))
 by_cases h2 : a.value.kind = 2
 . exact (f_wr2 w id a h h2).args hw
 by_cases h3 : a.value.kind = 3
 . exact (f_wr3 w id a h h3).args hw
 by_cases h4 : a.value.kind = 4
 . exact (f_wr4 w id a h h4).args hw
 by_cases h5 : a.value.kind = 5
 . exact (f_wr5 w id a h h5).args hw
 exact (f_wrT w id a h ⟨h2, h3, h4, h5⟩ hv hs).args hw
def wY : Sm := fun args σ => match args, σ with
 | [.ptr 0 0, .int .i64 id, y], [.cells [.buf 1, .buf 2, .int .i64 c_w], .buf 1 0 o_w, .buf 4 0 l_w] => some (dk o_w l_w ∧ ((Wk y (ea (cD y)) ∧ (cD y).value.ok ∧ (cD y).value.size ≤ 300000 ∧ (cD y).key.length ≤ 30000000) ∧ Wb (b9 o_w l_w c_w) 1700000000 700), .tuple [], some (aN ((b9 o_w l_w c_w).ops (cL id (cD y).key (cD y).value (text (cD y).value)))))
 | _, _ => none
theorem Jb : aa 26 wY := by
 intro args sg pre x r he hp
 unfold wY at he
 split at he <;> cases he
 . rw [eL (hp).1]; exact GM (hp := hp.2) ..
end Go.Proofs.YtipejldppicijaaGreatDoor
