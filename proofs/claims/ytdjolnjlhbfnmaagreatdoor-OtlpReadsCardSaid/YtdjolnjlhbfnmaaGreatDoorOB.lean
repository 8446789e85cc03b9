/-
  A part of the proof.
-/
import Derived.Test.YtdjolnjlhbfnmaaGreatDoorOA
set_option linter.unusedSimpArgs false
set_option linter.unusedVariables false
set_option maxHeartbeats 4000000
namespace Go.Proofs.YtdjolnjlhbfnmaaGreatDoor
open Go Go.VG
set_option maxRecDepth 100000
def evX (v : aK) : V := .agg [.int .u8 v.kind, .str v.text, .int .i64 v.num, .int .u64 v.bits, if v.kind = 6 then .list false 6 (dK v.list) else .list true 0 [], if v.kind = 7 then .list false 7 (aV v.map) else .list true 0 []]
def gj (f : RV) (k : Nat) : Sm := fun args σ => match args, σ with
 | [.str s, .int .i64 d], [] => some (s.length ≤ 9000 ∧ 0 ≤ d ∧ d ≤ 1000 ∧ k = (32 - d).toNat, .tuple [ev (f s).2, .int .i64 (f s).1], none)
 | _, _ => none
def oy (r : Int × List aK) : V := if r.1 = 0 then .tuple [.list false 6 (dK r.2), .int .i64 0] else .tuple [.list true 0 [], .int .i64 r.1]
theorem MQ {r : Int × List aK} (h : r.1 ≠ 0 → r.2 = []) : Wk (oy r) (.tuple [.list false 6 (dK r.2), .int .i64 r.1]) := by
 unfold oy
 by_cases q : r.1 = 0
 . rw [if_pos q, q]; exact Wk.refl _
 . rw [if_neg q, h q]; exact Wk.tuple (aE.cons (Wk.nil (.inl rfl)) (aE.refl _))
structure kn (s : List UInt8) (d : Int) (k : Nat) : Prop where
 s : s.length ≤ 9000
 d0 : 0 ≤ d
 d1 : d ≤ 1000
 k : k = (32 - d).toNat
theorem rdL_n {v : RV} {s : List UInt8} (h : ao s ≠ 0) : fq v s = (ao s, []) := if_pos h
theorem rdL_y {v : RV} {s : List UInt8} (h : ao s = 0) : fq v s = fA v (dx s) [] := if_neg fun q => q h
theorem tz (s : List UInt8) : cu (ar (aD 1 2) (aF s)) = (dx s).map V.str := by unfold dx; rw [List.map_map]; rfl
theorem tA (s : List UInt8) : (dx s).length ≤ s.length ∧ ∀ i, i < (dx s).length → ((dx s).getD i default).length ≤ s.length := by
 constructor
 . unfold dx
   rw [List.length_map]
   exact Nat.le_trans (List.length_filter_le ..) (fits s).l
 . intro i h
   have hm : (dx s).getD i default ∈ dx s := by
    rw [List.getD_eq_getElem?_getD, List.getElem?_eq_getElem h]; exact List.getElem_mem h
   obtain ⟨f, hf, e⟩ := List.mem_map.1 hm
   rw [← e]
   exact (fits s).t _ f hf
theorem cD {s : List UInt8} (h : s.length ≤ 9000) : (∃ a : List Pf, (aF s).map av = a.map av ∧ bZ a) ∧ ((aF s).map av).length ≤ 10000 :=
 ⟨⟨aF s, rfl, fun f hf => Nat.le_trans ((fits s).s f hf) (by omega)⟩, by rw [List.length_map]; have := (fits s).l; omega⟩
theorem IU (v : RV) (s : List UInt8) (d : Int) (k : Nat) (hp : kn s d k) (h0 : ao s ≠ 0) : OK 120 [.str s, .int .i64 d] [] (oy (fq v s)) none := by
 refine al (C := cx [(9, kW)]) (aq ⟨lL, trivial⟩) (fn := Tryz.f120) rfl rfl rfl rfl fun hw _ => ?_
 rw [rdL_n h0, show oy (ao s, []) = .tuple [.list true 0 [], .int .i64 (ao s)] from if_neg h0]
 repeat' ((conv => whnf); first | apply aj | apply aO | (apply aw <;> intro h))
 all_goals try conv => whnf
 all_goals try (refine ae.mk ?_; try dsimp only)
 . exact ⟨by have := hp.s; omega, h0⟩
 . exact absurd (by assumption) h0
 . exact absurd (by assumption) h0
 . refine af.mk [] ?_ <;> (repeat' first | trivial)
theorem IV (v : RV) (k : Nat) (hv : au 77 (gj v k)) (s : List UInt8) (d : Int) (hp : kn s d k) (h0 : ao s = 0) : OK 120 [.str s, .int .i64 d] [] (oy (fq v s)) none := by
 refine al (C := cx [(9, kX), (11, kY), (77, gj v k)]) (aq ⟨lM, mR, hv, trivial⟩) (fn := Tryz.f120) rfl rfl rfl rfl fun hw _ => ?_
 rw [rdL_y h0]
 have hos := cD hp.s
 have hd0 := hp.d0
 have hd1 := hp.d1
 have hk := hp.k
 have hs := hp.s
 repeat' ((conv => whnf); apply aj)
 all_goals try conv => whnf
 all_goals try (refine ae.mk ?_; try dsimp only)
 all_goals (try simp only [bW, tz] at *)
 . exact ⟨by omega, h0⟩
 . exact hos
 have hb := tA s
 generalize dx s = L at *
 refine aT.mk (Nat × List aK) (fun (i, acc) => i ≤ L.length ∧ acc.length = i ∧ fA v (L.drop i) acc = fA v L []) (fun (i, acc) => ⟨43, [(1, .int .i64 d), (22, .buf 0), (23, .int .i64 L.length), (24, .int .i64 i), (8, .buf 1)], [.buf 1 0 (L.map V.str), .buf 6 0 (acc.map ev)], [0, 1, 2, 4]⟩) (fun x => L.length - x.1) [.tm 8 6, .swap 0 2, .swap 1 4] (0, []) ⟨Nat.zero_le _, rfl, by rw [List.drop_zero]⟩ ?_ (fun ⟨i, acc⟩ ⟨h1, h2, h3⟩ _ _ => ?_)
 . refine Go.VG.Sub.mk rfl ?_ ?_ ?_ ?_ <;> (repeat' first | trivial | apply ax | apply aH)
   all_goals first
    | rfl
    | (simp; done)
 have hst := fun h => DL (v := v) (L := L) (acc := acc) (i := i) h
 rw [h3] at hst
 have hz : i = L.length → fA v L [] = (0, acc) := fun q => by rw [← h3, q, List.drop_length]; rfl
 have hbi := hb.2 i
 repeat' ((conv => whnf); first | apply aj | apply aO | (apply aw <;> intro h) | with_reducible apply c9)
 all_goals try conv => whnf
 all_goals try (refine ae.mk ?_; try dsimp only)
 all_goals (try simp only [List.length_map] at *)
 all_goals first | refine stay ?_ | omega | (simp only [cL]; omega) | skip
 all_goals try
  (show af _ _ _ _ _ _
   first
   | (rw [hst (by omega), if_pos (by assumption)]
      unfold oy
      rw [if_neg (by assumption)]
      refine af.mk [] ?_ <;> (repeat' first | trivial)
      done)
   | (rw [hz (by omega)]
      unfold oy
      rw [if_pos rfl, pg]
      refine af.mk [.bk 1] ?_ <;> (repeat' first | trivial)
      done))
 have h9 := hst (by omega)
 rw [if_neg (show ¬ (v (L.getD i default)).1 ≠ 0 from fun z => z (by assumption))] at h9
 refine ⟨[], (i + 1, acc ++ [(v (L.getD i default)).2]), ⟨by show i + 1 ≤ L.length; omega, by show (acc ++ [(v (L.getD i default)).2]).length = i + 1; rw [List.length_append, List.length_singleton, h2], h9.symm⟩, ?_, by show L.length - (i + 1) < L.length - i; omega⟩
 refine Go.VG.Sub.mk rfl ?_ ?_ ?_ ?_ <;> (repeat' first | trivial | apply ax | apply aH | apply bo)
 all_goals first
  | (rw [bc]; omega)
  | (simp; done)
def yJ (v : RV) (k : Nat) : Sm := fun args σ => match args, σ with
 | [.str s, .int .i64 d], [] => some (kn s d k, .tuple [.list false 6 (dK (fq v s).2), .int .i64 (fq v s).1], none)
 | _, _ => none
theorem rdL_z {v : RV} {s : List UInt8} (h : (fq v s).1 ≠ 0) : (fq v s).2 = [] := by
 unfold fq at h ⊢
 split
 . rfl
 . rename_i q
   rw [if_neg q] at h
   exact DM h
-- #name ovL ovalue.list
theorem k_ovL (v : RV) (k : Nat) (hv : au 77 (gj v k)) : au 120 (yJ v k) := by
 intro args sg pre x r he hp
 unfold yJ at he
 split at he <;> cases he
 rename_i s d
 refine ey.res ?_ (MQ rdL_z)
 by_cases h : ao s = 0
 . exact IV v k hv s d hp h
 . exact IU v s d k hp h
def nL (r : Int × aG) : V := if r.1 = 0 then .tuple [ea r.2, .int .i64 0] else .tuple [.agg [.str [], .int .u8 0, .str [], .int .i64 0, .int .u64 0, .list true 0 [], .list true 0 []], .int .i64 r.1]
theorem Ft {r : Int × aG} (h : r.1 ≠ 0 → r.2 = az) : Wk (nL r) (.tuple [ea r.2, .int .i64 r.1]) := by
 unfold nL
 by_cases q : r.1 = 0
 . rw [if_pos q, q]; exact Wk.refl _
 . rw [if_neg q, h q]
   refine Wk.tuple (aE.cons (Wk.agg ?_) (aE.refl _))
   exact aE.cons (Wk.refl _) (aE.cons (Wk.refl _) (aE.cons (Wk.refl _) (aE.cons (Wk.refl _) (aE.cons (Wk.refl _) (aE.cons (Wk.nil (.inl rfl)) (aE.cons (Wk.nil (.inl rfl)) aE.nil))))))
theorem rdA_z {v : RV} {s : List UInt8} (h : (cO v s).1 ≠ 0) : (cO v s).2 = az := by
 unfold cO at h ⊢
 repeat' split
 . rfl
 . rfl
 . rename_i q1 q2
   rw [if_neg q1, if_neg q2] at h
   exact absurd rfl h
theorem IJ (v : RV) (s : List UInt8) (d : Int) (k : Nat) (hp : kn s d k) (h0 : ao s ≠ 0) : OK 54 [.str s, .int .i64 d] [] (nL (cO v s)) none := by
 refine al (C := cx [(9, kW)]) (aq ⟨lL, trivial⟩) (fn := Tryz.f54) rfl rfl rfl rfl fun hw _ => ?_
 rw [show cO v s = (ao s, az) from if_pos h0, show nL (ao s, az) = _ from if_neg h0]
 repeat' ((conv => whnf); first | apply aj | apply aO | (apply aw <;> intro h))
 all_goals try conv => whnf
 all_goals try (refine ae.mk ?_; try dsimp only)
 . exact ⟨by have := hp.s; omega, h0⟩
 . exact absurd (by assumption) h0
 . exact absurd (by assumption) h0
 . refine af.mk [] ?_ <;> (repeat' first | trivial)
theorem IK (v : RV) (k : Nat) (hv : au 77 (gj v k)) (s : List UInt8) (d : Int) (hp : kn s d k) (h0 : ao s = 0) : OK 54 [.str s, .int .i64 d] [] (nL (cO v s)) none := by
 refine al (C := cx [(9, kX), (55, i9), (28, np), (77, gj v k)]) (aq ⟨lM, iQ, pV, hv, trivial⟩) (fn := Tryz.f54) rfl rfl rfl rfl fun hw _ => ?_
 have hos := cD hp.s
 have hd0 := hp.d0
 have hd1 := hp.d1
 have hk := hp.k
 have hs := hp.s
 have hj := (fits s).j (aD 2 2)
 have hr : cO v s = if (v (bX (ar (aD 2 2) (aF s)))).1 ≠ 0 then ((v (bX (ar (aD 2 2) (aF s)))).1, az) else (0, .mk (aQ (ar (aD 1 2) (aF s))).text (v (bX (ar (aD 2 2) (aF s)))).2) := if_neg fun q => q h0
 repeat' ((conv => whnf); first | apply aj | apply aO | (apply aw <;> intro h))
 all_goals try conv => whnf
 all_goals try (refine ae.mk ?_; try dsimp only)
 all_goals (try simp only [bW] at *)
 . exact ⟨by omega, h0⟩
 . exact hos
 . exact hos
 . exact ⟨by omega, hd0, hd1, hk⟩
 . rw [hr, if_neg (fun z => z (by assumption))]
   unfold nL
   rw [if_pos rfl]
   refine af.mk [] ?_ <;> (repeat' first | trivial)
 . rw [hr, if_pos (by assumption)]
   unfold nL
   rw [if_neg (by assumption)]
   refine af.mk [] ?_ <;> (repeat' first | trivial)
def uU (v : RV) (k : Nat) : Sm := fun args σ => match args, σ with
 | [.str s, .int .i64 d], [] => some (kn s d k, .tuple [ea (cO v s).2, .int .i64 (cO v s).1], none)
 | _, _ => none
-- #name ovA ovalue.entry
theorem Ck (v : RV) (k : Nat) (hv : au 77 (gj v k)) : au 54 (uU v k) := by
 intro args sg pre x r he hp
 unfold uU at he
 split at he <;> cases he
 rename_i s d
 refine ey.res ?_ (Ft rdA_z)
 by_cases h : ao s = 0
 . exact IK v k hv s d hp h
 . exact IJ v s d k hp h
def fL (r : Int × List aG) : V := if r.1 = 0 then .tuple [.list false 7 (aV r.2), .int .i64 0] else .tuple [.list true 0 [], .int .i64 r.1]
theorem tF {r : Int × List aG} (h : r.1 ≠ 0 → r.2 = []) : Wk (fL r) (.tuple [.list false 7 (aV r.2), .int .i64 r.1]) := by
 unfold fL
 by_cases q : r.1 = 0
 . rw [if_pos q, q]; exact Wk.refl _
 . rw [if_neg q, h q]; exact Wk.tuple (aE.cons (Wk.nil (.inl rfl)) (aE.refl _))
structure km (L : List (List UInt8)) (d : Int) (k : Nat) : Prop where
 s : ∀ i, i < L.length → (L.getD i default).length ≤ 9000
 d0 : 0 ≤ d
 d1 : d ≤ 1000
 k : k = (32 - d).toNat
 l : L.length ≤ 9000
theorem IS (v : RV) (k : Nat) (hv : au 77 (gj v k)) (c : Bool) (L : List (List UInt8)) (d : Int) (hp : km L d k) : OK 29 [.list c 1 (L.map V.str), .int .i64 d] [] (fL (bO v L [])) none := by
 refine al (C := cx [(54, uU v k)]) (aq ⟨Ck v k hv, trivial⟩) (fn := Tryz.f29) rfl rfl rfl rfl fun hw _ => ?_
 have hd0 := hp.d0
 have hd1 := hp.d1
 have hk := hp.k
 have hl := hp.l
 have hbx := hp.s
 all_goals try conv => whnf
 all_goals try (refine ae.mk ?_; try dsimp only)
 refine aT.mk (Nat × List aG) (fun (i, acc) => i ≤ L.length ∧ acc.length = i ∧ bO v (L.drop i) acc = bO v L []) (fun (i, acc) => ⟨32, [(1, .int .i64 d), (11, .list c 1 (L.map V.str)), (12, .int .i64 L.length), (13, .int .i64 i), (6, .buf 0)], [.buf 7 0 (acc.map ea)], [0]⟩) (fun x => L.length - x.1) [.tm 6 7] (0, []) ⟨Nat.zero_le _, rfl, by rw [List.drop_zero]⟩ ?_ (fun ⟨i, acc⟩ ⟨h1, h2, h3⟩ _ _ => ?_)
 . refine Go.VG.Sub.mk rfl ?_ ?_ ?_ ?_ <;> (repeat' first | trivial | apply ax | apply aH)
   all_goals first
    | rfl
    | (simp; done)
 have hst := fun h => uv (v := v) (L := L) (acc := acc) (i := i) h
 rw [h3] at hst
 have hz : i = L.length → bO v L [] = (0, acc) := fun q => by rw [← h3, q, List.drop_length]; rfl
 have hbi := hbx i
 repeat' ((conv => whnf); first | apply aj | apply aO | (apply aw <;> intro h) | with_reducible apply c9)
 all_goals try conv => whnf
 all_goals try (refine ae.mk ?_; try dsimp only)
 all_goals (try simp only [List.length_map] at *)
 all_goals first | refine stay ?_ | omega | (simp only [cL]; omega) | skip
 all_goals try (exact ⟨hbi (by omega), hd0, hd1, hk⟩)
 all_goals try
  (show af _ _ _ _ _ _
   first
   | (rw [hst (by omega), if_pos (by assumption)]
      unfold fL
      rw [if_neg (by assumption)]
      refine af.mk [] ?_ <;> (repeat' first | trivial)
      done)
   | (rw [hz (by omega)]
      unfold fL
      rw [if_pos rfl, gP]
      refine af.mk [.bk 0] ?_ <;> (repeat' first | trivial)
      done)
   | (rw [hz (by omega)]
      unfold fL
      rw [if_pos rfl, gP]
      refine af.mk [.bk 1] ?_
      done))
 have h9 := hst (by omega)
 rw [if_neg (show ¬ (cO v (L.getD i default)).1 ≠ 0 from fun z => z (by assumption))] at h9
 refine ⟨[], (i + 1, acc ++ [(cO v (L.getD i default)).2]), ⟨by show i + 1 ≤ L.length; omega, by show (acc ++ [(cO v (L.getD i default)).2]).length = i + 1; rw [List.length_append, List.length_singleton, h2], h9.symm⟩, ?_, by show L.length - (i + 1) < L.length - i; omega⟩
 refine Go.VG.Sub.mk rfl ?_ ?_ ?_ ?_ <;> (repeat' first | trivial | apply ax | apply aH | apply bo)
 all_goals first
  | (rw [bc]; omega)
  | (simp; done)
theorem IT (v : RV) (k : Nat) (hv : au 77 (gj v k)) (q : Nat) (L : List (List UInt8)) (d : Int) (hp : km L d k) : OK 29 [.buf 0, .int .i64 d] [.buf 1 q (L.map V.str)] (fL (bO v L [])) none := by
 refine al (C := cx [(54, uU v k)]) (aq ⟨Ck v k hv, trivial⟩) (fn := Tryz.f29) rfl rfl rfl rfl fun hw _ => ?_
 have hd0 := hp.d0
 have hd1 := hp.d1
 have hk := hp.k
 have hl := hp.l
 have hbx := hp.s
 all_goals try conv => whnf
 all_goals try (refine ae.mk ?_; try dsimp only)
 refine aT.mk (Nat × List aG) (fun (i, acc) => i ≤ L.length ∧ acc.length = i ∧ bO v (L.drop i) acc = bO v L []) (fun (i, acc) => ⟨32, [(1, .int .i64 d), (11, .buf 0), (12, .int .i64 L.length), (13, .int .i64 i), (6, .buf 1)], [.buf 1 q (L.map V.str), .buf 7 0 (acc.map ea)], [1]⟩) (fun x => L.length - x.1) [.tm 6 7] (0, []) ⟨Nat.zero_le _, rfl, by rw [List.drop_zero]⟩ ?_ (fun ⟨i, acc⟩ ⟨h1, h2, h3⟩ _ _ => ?_)
 . refine Go.VG.Sub.mk rfl ?_ ?_ ?_ ?_ <;> (repeat' first | trivial | apply ax | apply aH)
   all_goals first
    | rfl
    | (simp; done)
 have hst := fun h => uv (v := v) (L := L) (acc := acc) (i := i) h
 rw [h3] at hst
 have hz : i = L.length → bO v L [] = (0, acc) := fun q => by rw [← h3, q, List.drop_length]; rfl
 have hbi := hbx i
 repeat' ((conv => whnf); first | apply aj | apply aO | (apply aw <;> intro h) | with_reducible apply c9)
 all_goals try conv => whnf
 all_goals try (refine ae.mk ?_; try dsimp only)
 all_goals (try simp only [List.length_map] at *)
 all_goals first | refine stay ?_ | omega | (simp only [cL]; omega) | skip
 all_goals try (exact ⟨hbi (by omega), hd0, hd1, hk⟩)
 all_goals try
  (show af _ _ _ _ _ _
   first
   | (rw [hst (by omega), if_pos (by assumption)]
      unfold fL
      rw [if_neg (by assumption)]
      refine af.mk [] ?_ <;> (repeat' first | trivial)
      done)
   | (rw [hz (by omega)]
      unfold fL
      rw [if_pos rfl, gP]
      refine af.mk [.bk 0] ?_ <;> (repeat' first | trivial | apply ax | apply cJ | apply bE)
      done)
   | (rw [hz (by omega)]
      unfold fL
      rw [if_pos rfl, gP]
      refine af.mk [.bk 1] ?_ <;> (repeat' first | trivial)
      done))
 have h9 := hst (by omega)
 rw [if_neg (show ¬ (cO v (L.getD i default)).1 ≠ 0 from fun z => z (by assumption))] at h9
 refine ⟨[], (i + 1, acc ++ [(cO v (L.getD i default)).2]), ⟨by show i + 1 ≤ L.length; omega, by show (acc ++ [(cO v (L.getD i default)).2]).length = i + 1; rw [List.length_append, List.length_singleton, h2], h9.symm⟩, ?_, by show L.length - (i + 1) < L.length - i; omega⟩
 refine Go.VG.Sub.mk rfl ?_ ?_ ?_ ?_ <;> (repeat' first | trivial | apply ax | apply aH | apply bo)
 all_goals first
  | (rw [bc]; omega)
  | (simp; done)
end Go.Proofs.YtdjolnjlhbfnmaaGreatDoor
