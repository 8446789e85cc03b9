/-
  A part of the proof.
-/
import Derived.Test.YtipejldppicijaaGreatDoorGH
set_option linter.unusedSimpArgs false
set_option linter.unusedVariables false
set_option maxHeartbeats 4000000
namespace Go.Proofs.YtipejldppicijaaGreatDoor
open Go Go.VG
set_option maxRecDepth 100000
def Au : V → List UInt8
 | .str s => s
 | _ => []
theorem decSl (l : List (List UInt8)) : (l.map V.str).map Au = l := by
 induction l with
 | nil => rfl
 | cons f l ih => rw [List.map_cons, List.map_cons, ih]; rfl
abbrev hC (l : List (List UInt8)) : V := .list false 1 (l.map V.str)
abbrev iL (l : List Tg) : V := .list false 7 (l.map eL)
theorem zy {l : List Fd} {i : Nat} (h : i < l.length) : l.take (i + 1) = l.take i ++ [l.getD i default] := by
 rw [List.take_add_one, List.getD_eq_getElem?_getD, List.getElem?_eq_getElem h]; rfl
def gv (l : List Fd) : V := if iG l = true then .tuple [hC (l.map Fd.raw), .int .i64 0] else .tuple [.list true 0 [], .int .i64 7]
theorem yI {l : List Fd} {id d : Int} {k : List Fd} {f : Fd} (h : aP k id 9 = some f) (e : (bB d f.raw).1 = 0) (hl : l = (bB d f.raw).2) : Wk (gv l) (.tuple [hC (strs k id d).1, .int .i64 (strs k id d).2]) := by
 subst hl
 unfold gv
 cases g : iG (bB d f.raw).2 with
 | true => rw [if_pos rfl, Hs h e g]; exact Wk.refl _
 | false => rw [if_neg (by decide), Hr h e g]; exact Wk.tuple (aN.cons (Wk.nil (.inl rfl)) (aN.refl _))
theorem sc (d : Int) (s : List UInt8) : (bB d s).2.length ≤ 2147483647 := by
 unfold bB
 split
 . exact Nat.zero_le _
 . have h := s9 (d := (31 - d).toNat) (k := (Cu.new s).aJ.1.2) (Cu.new s).aJ.1.1.toNat 0 (Cu.new s).aJ.2 []
   have hb := mh (.new s)
   unfold dt
   split
   . exact Nat.zero_le _
   . rw [List.length_nil] at h
     dsimp only
     omega
theorem Co (l : List Fd) (id d : Int) (hp : 0 ≤ d ∧ ∀ f ∈ l, f.raw.length ≤ 1000000000) (f : Fd) (hL : aP l id 9 = some f) (hc : (bB d f.raw).1 = 0) : OK 14 [c6 l, .int .i64 id, .int .i64 d] [] (gv (bB d f.raw).2) none := by
 refine ah (C := cx [(29, ld), (42, qj)]) (ai ⟨nz, wY, trivial⟩) (fn := Tryz.f14) rfl rfl rfl rfl fun hw _ => ?_
 have hfl : f.raw.length ≤ 1000000000 := hp.2 f (kU (Nat.le_refl _) hL).1
 have hrl := sc d f.raw
 repeat' ((conv => whnf); first | apply ab | apply ax | ((first | apply ae | apply aV) <;> intro h))
 all_goals try conv => whnf
 all_goals try (refine a7.mk ?_; try dsimp only)
 all_goals (try simp only [bn, hL, hc, bk, Option.getD_some, Option.isSome_some] at *)
 all_goals first
  | exact ⟨trivial, trivial⟩
  | exact ⟨bz _, trivial⟩
  | exact ⟨hp.1, hfl⟩
  | (exfalso; simp_all; done)
  | skip
 generalize (bB d f.raw).2 = L at *
 refine c5.mk Nat (fun i => i ≤ L.length ∧ ∀ j, j < i → (L.getD j default).k = 12) (fun i => ⟨49, [(33, .list false 6 (L.map bE)), (34, .int .i64 L.length), (35, .int .i64 i), (12, .buf 1)], [.cells (eK f), .buf 1 0 (((L.take i).map Fd.raw).map V.str)], [1]⟩) (fun i => L.length - i) [.tm 12 1] 0 ⟨Nat.zero_le _, fun j hj => absurd hj (Nat.not_lt_zero _)⟩ ?_ (fun i ⟨hi, hI⟩ hT _ => ?_)
 . refine Go.VG.Sub.mk rfl ?_ ?_ ?_ ?_ <;> (repeat' first | trivial | apply ak | apply az)
   all_goals first
    | rfl
    | (simp; done)
 have hT : (V.list false 6 (L.map bE)).wf := hT.1
 have hLl : L.length ≤ 9223372036854775807 := by have := hT.1; rw [List.length_map] at this; exact this
 have hst := fun h => zy (l := L) (i := i) h
 repeat' ((conv => whnf); first | apply ab | apply ax | (apply ae <;> intro h) | with_reducible apply m5)
 all_goals try conv => whnf
 all_goals try (refine a7.mk ?_; try dsimp only)
 all_goals (try simp only [List.length_map] at *)
 all_goals first | refine stay ?_ | omega | (simp only [fX]; omega) | skip
 . refine ⟨[], i + 1, ⟨by omega, fun j hj => by
     rcases Nat.lt_or_ge j i with q | q
     . exact hI j q
     . rw [show j = i by omega]; assumption⟩, ?_, by omega⟩
   refine Go.VG.Sub.mk rfl ?_ ?_ ?_ ?_ <;> (repeat' first | trivial | apply ak | apply az | apply bI)
   . (simp (discharger := omega) only [wR]; omega)
   . rw [hst (by omega)]; simp
 . have e : gv L = .tuple [.list true 0 [], .int .i64 7] := by
     unfold gv
     rw [uP (i := i) (by omega) (by assumption), if_neg (by decide)]
   rw [e]
   refine a6.mk [] ?_ <;> (repeat' first | trivial)
 . have e : gv L = .tuple [hC (L.map Fd.raw), .int .i64 0] := by
     unfold gv
     rw [uQ (fun j hj => hI j (by omega)), if_pos rfl]
   rw [e]
   refine a6.mk [.bu 1] ?_ <;> (repeat' first | trivial | apply ak | apply er | apply bT | apply bo)
   rw [show i = L.length by omega, List.take_length]
theorem Dh (l : List Fd) (id d : Int) (hp : 0 ≤ d ∧ ∀ f ∈ l, f.raw.length ≤ 1000000000) (f : Fd) (hL : aP l id 9 = some f) (hc : (bB d f.raw).1 = 0) : OK 15 [c6 l, .int .i64 id, .int .i64 d] [] (gv (bB d f.raw).2) none := by
 refine ah (C := cx [(31, mG), (43, qp)]) (ai ⟨pJ, xb, trivial⟩) (fn := Tryz.f15) rfl rfl rfl rfl fun hw _ => ?_
 have hfl : f.raw.length ≤ 1000000000 := hp.2 f (kU (Nat.le_refl _) hL).1
 have hrl := sc d f.raw
 repeat' ((conv => whnf); first | apply ab | apply ax | ((first | apply ae | apply aV) <;> intro h))
 all_goals try conv => whnf
 all_goals try (refine a7.mk ?_; try dsimp only)
 all_goals (try simp only [bn, hL, hc, bk, Option.getD_some, Option.isSome_some] at *)
 all_goals first
  | exact ⟨trivial, trivial⟩
  | exact ⟨bz _, trivial⟩
  | exact ⟨hp.1, hfl⟩
  | (exfalso; simp_all; done)
  | skip
 generalize (bB d f.raw).2 = L at *
 refine c5.mk Nat (fun i => i ≤ L.length ∧ ∀ j, j < i → (L.getD j default).k = 12) (fun i => ⟨53, [(10, .list false 6 (L.map bE)), (13, .int .i64 i), (12, .buf 1)], [.cells (eK f), .buf 1 0 (((L.take i).map Fd.raw).map V.str)], [1]⟩) (fun i => L.length - i) [.tm 12 1] 0 ⟨Nat.zero_le _, fun j hj => absurd hj (Nat.not_lt_zero _)⟩ ?_ (fun i ⟨hi, hI⟩ hT _ => ?_)
 . refine Go.VG.Sub.mk rfl ?_ ?_ ?_ ?_ <;> (repeat' first | trivial)
   all_goals first
    | rfl
    | (simp; done)
 have hT : (V.list false 6 (L.map bE)).wf := hT.1
 have hLl : L.length ≤ 9223372036854775807 := by have := hT.1; rw [List.length_map] at this; exact this
 have hst := fun h => zy (l := L) (i := i) h
 repeat' ((conv => whnf); first | apply ab | apply ax | (apply ae <;> intro h) | with_reducible apply m5)
 all_goals try conv => whnf
 all_goals try (refine a7.mk ?_; try dsimp only)
 all_goals (try simp only [List.length_map] at *)
 all_goals first | refine stay ?_ | omega | (simp only [fX]; omega) | skip
 . refine ⟨[], i + 1, ⟨by omega, fun j hj => by
     rcases Nat.lt_or_ge j i with q | q
     . exact hI j q
     . rw [show j = i by omega]; assumption⟩, ?_, by omega⟩
   refine Go.VG.Sub.mk rfl ?_ ?_ ?_ ?_ <;> (repeat' first | trivial | apply ak | apply az | apply bI)
   . (simp (discharger := omega) only [wR]; omega)
   . rw [hst (by omega)]; simp
 . have e : gv L = .tuple [.list true 0 [], .int .i64 7] := by
     unfold gv
     rw [uP (i := i) (by omega) (by assumption), if_neg (by decide)]
   rw [e]
   refine a6.mk [] ?_ <;> (repeat' first | trivial)
 . have e : gv L = .tuple [hC (L.map Fd.raw), .int .i64 0] := by
     unfold gv
     rw [uQ (fun j hj => hI j (by omega)), if_pos rfl]
   rw [e]
   refine a6.mk [.bu 1] ?_ <;> (repeat' first | trivial | apply ak | apply er | apply bT | apply bo)
   rw [show i = L.length by omega, List.take_length]
theorem Cq (l : List Fd) (id d : Int) (hp : aP l id 9 = none) : OK 14 ([c6 l, .int .i64 id, .int .i64 d]) ([]) (.tuple [.list true 0 [], .int .i64 0]) (none) := by
 refine ah (C := cx [(29, ld)]) (ai ⟨nz, trivial⟩) (fn := Tryz.f14) rfl rfl rfl rfl fun hw hs => ?_
 have hL := hp
 repeat' ((conv => whnf); first | apply ab | apply ax | (apply aV <;> intro h))
 all_goals try conv => whnf
 all_goals try (refine a7.mk ?_; try dsimp only)
 all_goals (try simp only [bn, hL, bk, Option.getD_some, Option.getD_none, Option.isSome_some, Option.isSome_none] at *)
 all_goals first
  | exact ⟨trivial, trivial⟩
  | exact ⟨bz _, trivial⟩
  | exact ⟨hp.1, hfl⟩
  | (exfalso; simp_all; done)
  | (show a6 _ _ _ _ _ _
     refine a6.mk [] ?_ <;> (repeat' first | trivial)
     done)
  | skip
def HQ : Sm := fun args σ => match args, σ with
 | [.list false 6 l_l, .int .i64 id, .int .i64 d], [] => some (l_l = (l_l.map bh).map bE ∧ (aP (l_l.map bh) id 9 = none), .tuple [.list true 0 [], .int .i64 0], none)
 | _, _ => none
theorem Dj (l : List Fd) (id d : Int) (hp : aP l id 9 = none) : OK 15 ([c6 l, .int .i64 id, .int .i64 d]) ([]) (.tuple [.list true 0 [], .int .i64 0]) (none) := by
 refine ah (C := cx [(31, mG)]) (ai ⟨pJ, trivial⟩) (fn := Tryz.f15) rfl rfl rfl rfl fun hw hs => ?_
 have hL := hp
 repeat' ((conv => whnf); first | apply ab | apply ax | (apply aV <;> intro h))
 all_goals try conv => whnf
 all_goals try (refine a7.mk ?_; try dsimp only)
 all_goals (try simp only [bn, hL, bk, Option.getD_some, Option.getD_none, Option.isSome_some, Option.isSome_none] at *)
 all_goals first
  | exact ⟨trivial, trivial⟩
  | exact ⟨bz _, trivial⟩
  | exact ⟨hp.1, hfl⟩
  | (exfalso; simp_all; done)
  | (show a6 _ _ _ _ _ _
     refine a6.mk [] ?_ <;> (repeat' first | trivial)
     done)
  | skip
theorem Cp (l : List Fd) (id d : Int) (hp : 0 ≤ d ∧ ∀ f ∈ l, f.raw.length ≤ 1000000000) (f : Fd) (hL : aP l id 9 = some f) (hc : (bB d f.raw).1 ≠ 0) : OK 14 [c6 l, .int .i64 id, .int .i64 d] [] (.tuple [.list true 0 [], .int .i64 (bB d f.raw).1]) none := by
 refine ah (C := cx [(29, ld), (42, qj)]) (ai ⟨nz, wY, trivial⟩) (fn := Tryz.f14) rfl rfl rfl rfl fun hw _ => ?_
 have hfl : f.raw.length ≤ 1000000000 := hp.2 f (kU (Nat.le_refl _) hL).1
 repeat' ((conv => whnf); first | apply ab | apply ax | ((first | apply ae | apply aV) <;> intro h))
 all_goals try conv => whnf
 all_goals try (refine a7.mk ?_; try dsimp only)
 all_goals (try simp only [bn, hL, bk, Option.getD_some, Option.getD_none, Option.isSome_some, Option.isSome_none] at *)
 all_goals first
  | exact ⟨trivial, trivial⟩
  | exact ⟨bz _, trivial⟩
  | exact ⟨hp.1, hfl⟩
  | (exfalso; simp_all; done)
  | (show a6 _ _ _ _ _ _
     refine a6.mk [] ?_ <;> (repeat' first | trivial)
     done)
  | skip
theorem Di (l : List Fd) (id d : Int) (hp : 0 ≤ d ∧ ∀ f ∈ l, f.raw.length ≤ 1000000000) (f : Fd) (hL : aP l id 9 = some f) (hc : (bB d f.raw).1 ≠ 0) : OK 15 [c6 l, .int .i64 id, .int .i64 d] [] (.tuple [.list true 0 [], .int .i64 (bB d f.raw).1]) none := by
 refine ah (C := cx [(31, mG), (43, qp)]) (ai ⟨pJ, xb, trivial⟩) (fn := Tryz.f15) rfl rfl rfl rfl fun hw _ => ?_
 have hfl : f.raw.length ≤ 1000000000 := hp.2 f (kU (Nat.le_refl _) hL).1
 repeat' ((conv => whnf); first | apply ab | apply ax | ((first | apply ae | apply aV) <;> intro h))
 all_goals try conv => whnf
 all_goals try (refine a7.mk ?_; try dsimp only)
 all_goals (try simp only [bn, hL, bk, Option.getD_some, Option.getD_none, Option.isSome_some, Option.isSome_none] at *)
 all_goals first
  | exact ⟨trivial, trivial⟩
  | exact ⟨bz _, trivial⟩
  | exact ⟨hp.1, hfl⟩
  | (exfalso; simp_all; done)
  | (show a6 _ _ _ _ _ _
     refine a6.mk [] ?_ <;> (repeat' first | trivial)
     done)
  | skip
theorem we (l : List Fd) (id d : Int) (hp : 0 ≤ d ∧ ∀ f ∈ l, f.raw.length ≤ 1000000000) : OK 14 ([c6 l, .int .i64 id, .int .i64 d]) ([]) (.tuple [hC (strs l id d).1, .int .i64 (strs l id d).2]) (none) := by
 cases hL : aP l id 9 with
 | none => rw [zn hL]; exact (Cq l id d hL).res (Wk.tuple (aN.cons (Wk.nil (.inl rfl)) (aN.refl _)))
 | some f =>
   by_cases hz : (bB d f.raw).1 = 0
   . exact (Co l id d hp f hL hz).res (yI hL hz rfl)
   . rw [zm hL hz]
     exact (Cp l id d hp f hL hz).res (Wk.tuple (aN.cons (Wk.nil (.inl rfl)) (aN.refl _)))
def ot : Sm := fun args σ => match args, σ with
 | [.list false 6 l_l, .int .i64 id, .int .i64 d], [] => some (l_l = (l_l.map bh).map bE ∧ (0 ≤ d ∧ ∀ f ∈ (l_l.map bh), f.raw.length ≤ 1000000000), .tuple [hC (strs (l_l.map bh) id d).1, .int .i64 (strs (l_l.map bh) id d).2], none)
 | _, _ => none
theorem sl : a9 14 ot := by
 intro args sg pre x r he hp
 unfold ot at he
 split at he <;> cases he
 . rw [jd (hp).1]; exact we (hp := hp.2) ..
theorem Dk (l : List Fd) (id d : Int) (hp : 0 ≤ d ∧ ∀ f ∈ l, f.raw.length ≤ 1000000000) : OK 15 ([c6 l, .int .i64 id, .int .i64 d]) ([]) (.tuple [hC (strs l id d).1, .int .i64 (strs l id d).2]) (none) := by
 cases hL : aP l id 9 with
 | none => rw [zn hL]; exact (Dj l id d hL).res (Wk.tuple (aN.cons (Wk.nil (.inl rfl)) (aN.refl _)))
 | some f =>
   by_cases hz : (bB d f.raw).1 = 0
   . exact (Dh l id d hp f hL hz).res (yI hL hz rfl)
   . rw [zm hL hz]
     exact (Di l id d hp f hL hz).res (Wk.tuple (aN.cons (Wk.nil (.inl rfl)) (aN.refl _)))
def oA : Sm := fun args σ => match args, σ with
 | [.list false 6 l_l, .int .i64 id, .int .i64 d], [] => some (l_l = (l_l.map bh).map bE ∧ (0 ≤ d ∧ ∀ f ∈ (l_l.map bh), f.raw.length ≤ 1000000000), .tuple [hC (strs (l_l.map bh) id d).1, .int .i64 (strs (l_l.map bh) id d).2], none)
 | _, _ => none
theorem sq : a9 15 oA := by
 intro args sg pre x r he hp
 unfold oA at he
 split at he <;> cases he
 . rw [jd (hp).1]; exact Dk (hp := hp.2) ..
end Go.Proofs.YtipejldppicijaaGreatDoor
