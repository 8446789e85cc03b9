/-
  A part of the proof.
-/
import Derived.Test.YtipejldppicijaaGreatDoorGH
set_option linter.unusedSimpArgs false
set_option linter.unusedVariables false
set_option maxHeartbeats 4000000
namespace Go.Proofs.YtipejldppicijaaGreatDoor
open Go Go.VG
set_option maxRecDepth 100000
abbrev kV (l : List (List UInt8)) : V := .list false 1 (l.map V.str)
abbrev eTl (l : List Tg) : V := .list false 7 (l.map mc)
theorem Iv {l : List Fd} {i : Nat} (h : i < l.length) : l.take (i + 1) = l.take i ++ [l.getD i default] := by
 rw [List.take_add_one, List.getD_eq_getElem?_getD, List.getElem?_eq_getElem h]; rfl
def lD (l : List Fd) : V := if iI l = true then .tuple [kV (l.map Fd.raw), .int .i64 0] else .tuple [.list true 0 [], .int .i64 7]
theorem Hm {l : List Fd} {id d : Int} {k : List Fd} {f : Fd} (h : bA k id 9 = some f) (e : (c6 d f.raw).1 = 0) (hl : l = (c6 d f.raw).2) : Wk (lD l) (.tuple [kV (strs k id d).1, .int .i64 (strs k id d).2]) := by
 subst hl
 unfold lD
 cases g : iI (c6 d f.raw).2 with
 | true => rw [if_pos rfl, Im h e g]; exact Wk.refl _
 | false => rw [if_neg (by decide), Ik h e g]; exact Wk.tuple (aC.cons (Wk.nil (.inl rfl)) (aC.refl _))
theorem xn (d : Int) (s : List UInt8) : (c6 d s).2.length ≤ 2147483647 := by
 unfold c6
 split
 . exact Nat.zero_le _
 . have h := sM (d := (31 - d).toNat) (k := (Cu.new s).bm.1.2) (Cu.new s).bm.1.1.toNat 0 (Cu.new s).bm.2 []
   have hb := tn (.new s)
   unfold eN
   split
   . exact Nat.zero_le _
   . rw [List.length_nil] at h
     dsimp only
     omega
theorem D1 (l : List Fd) (id d : Int) (hp : 0 ≤ d ∧ ∀ f ∈ l, f.raw.length ≤ 1000000000) (f : Fd) (hL : bA l id 9 = some f) (hc : (c6 d f.raw).1 = 0) : OK 14 [dt l, .int .i64 id, .int .i64 d] [] (lD (c6 d f.raw).2) none := by
 refine ai (C := cx [(29, lK), (42, rh)]) (aj ⟨oc, xK, trivial⟩) (fn := Tryz.f14) rfl rfl rfl rfl fun hw _ => ?_
 have hfl : f.raw.length ≤ 1000000000 := hp.2 f (qJ (Nat.le_refl _) hL).1
 have hrl := xn d f.raw
 repeat' ((conv => whnf); first | apply a9 | apply aQ | ((first | apply ao | apply bE) <;> intro h))
 all_goals try conv => whnf
 all_goals try (refine a8.mk ?_; try dsimp only)
 all_goals (try simp only [dd, hL, hc, cC, Option.getD_some, Option.isSome_some] at *)
 all_goals first
  | exact ⟨trivial, trivial⟩
  | exact ⟨di _, trivial⟩
  | exact ⟨hp.1, hfl⟩
  | (exfalso; simp_all; done)
  | skip
 generalize (c6 d f.raw).2 = L at *
 refine br.mk Nat (fun i => i ≤ L.length ∧ ∀ j, j < i → (L.getD j default).k = 12) (fun i => ⟨49, [(33, .list false 6 (L.map cM)), (34, .int .i64 L.length), (35, .int .i64 i), (12, .buf 1)], [.cells (gO f), .buf 1 0 (((L.take i).map Fd.raw).map V.str)], [1]⟩) (fun i => L.length - i) [.tm 12 1] 0 ⟨Nat.zero_le _, fun j hj => absurd hj (Nat.not_lt_zero _)⟩ ?_ (fun i ⟨hi, hI⟩ hT _ => ?_)
 . refine Go.VG.Sub.mk rfl ?_ ?_ ?_ ?_ <;> (repeat' first | trivial | apply ah | apply ax)
   all_goals first
    | rfl
    | (simp; done)
 have hT : (V.list false 6 (L.map cM)).wf := hT.1
 have hLl : L.length ≤ 9223372036854775807 := by have := hT.1; rw [List.length_map] at this; exact this
 have hst := fun h => Iv (l := L) (i := i) h
 repeat' ((conv => whnf); first | apply a9 | apply aQ | (apply ao <;> intro h) | with_reducible apply l9)
 all_goals try conv => whnf
 all_goals try (refine a8.mk ?_; try dsimp only)
 all_goals (try simp only [List.length_map] at *)
 all_goals first | refine stay ?_ | omega | (simp only [aV]; omega) | skip
 . refine ⟨[], i + 1, ⟨by omega, fun j hj => by
     rcases Nat.lt_or_ge j i with q | q
     . exact hI j q
     . rw [show j = i by omega]; assumption⟩, ?_, by omega⟩
   refine Go.VG.Sub.mk rfl ?_ ?_ ?_ ?_ <;> (repeat' first | trivial | apply ah | apply ax | apply aG)
   . (simp (discharger := omega) only [wR]; omega)
   . rw [hst (by omega)]; simp
 . have e : lD L = .tuple [.list true 0 [], .int .i64 7] := by
     unfold lD
     rw [Az (i := i) (by omega) (by assumption), if_neg (by decide)]
   rw [e]
   refine a7.mk [] ?_ <;> (repeat' first | trivial)
 . have e : lD L = .tuple [kV (L.map Fd.raw), .int .i64 0] := by
     unfold lD
     rw [AA (fun j hj => hI j (by omega)), if_pos rfl]
   rw [e]
   refine a7.mk [.bD 1] ?_ <;> (repeat' first | trivial | apply ah | apply cY | apply cg | apply aX)
   rw [show i = L.length by omega, List.take_length]
theorem D3 (l : List Fd) (id d : Int) (hp : bA l id 9 = none) : OK 14 ([dt l, .int .i64 id, .int .i64 d]) ([]) (.tuple [.list true 0 [], .int .i64 0]) (none) := by
 refine ai (C := cx [(29, lK)]) (aj ⟨oc, trivial⟩) (fn := Tryz.f14) rfl rfl rfl rfl fun hw hs => ?_
 have hL := hp
 repeat' ((conv => whnf); first | apply a9 | apply aQ | (apply bE <;> intro h))
 all_goals try conv => whnf
 all_goals try (refine a8.mk ?_; try dsimp only)
 all_goals (try simp only [dd, hL, cC, Option.getD_some, Option.getD_none, Option.isSome_some, Option.isSome_none] at *)
 all_goals first
  | exact ⟨trivial, trivial⟩
  | exact ⟨di _, trivial⟩
  | exact ⟨hp.1, hfl⟩
  | (exfalso; simp_all; done)
  | (show a7 _ _ _ _ _ _
     refine a7.mk [] ?_ <;> (repeat' first | trivial)
     done)
  | skip
def IV : Sm := fun args σ => match args, σ with
 | [.list false 6 l_l, .int .i64 id, .int .i64 d], [] => some (l_l = (l_l.map cL).map cM ∧ (bA (l_l.map cL) id 9 = none), .tuple [.list true 0 [], .int .i64 0], none)
 | _, _ => none
theorem D2 (l : List Fd) (id d : Int) (hp : 0 ≤ d ∧ ∀ f ∈ l, f.raw.length ≤ 1000000000) (f : Fd) (hL : bA l id 9 = some f) (hc : (c6 d f.raw).1 ≠ 0) : OK 14 [dt l, .int .i64 id, .int .i64 d] [] (.tuple [.list true 0 [], .int .i64 (c6 d f.raw).1]) none := by
 refine ai (C := cx [(29, lK), (42, rh)]) (aj ⟨oc, xK, trivial⟩) (fn := Tryz.f14) rfl rfl rfl rfl fun hw _ => ?_
 have hfl : f.raw.length ≤ 1000000000 := hp.2 f (qJ (Nat.le_refl _) hL).1
 repeat' ((conv => whnf); first | apply a9 | apply aQ | ((first | apply ao | apply bE) <;> intro h))
 all_goals try conv => whnf
 all_goals try (refine a8.mk ?_; try dsimp only)
 all_goals (try simp only [dd, hL, cC, Option.getD_some, Option.getD_none, Option.isSome_some, Option.isSome_none] at *)
 all_goals first
  | exact ⟨trivial, trivial⟩
  | exact ⟨di _, trivial⟩
  | exact ⟨hp.1, hfl⟩
  | (exfalso; simp_all; done)
  | (show a7 _ _ _ _ _ _
     refine a7.mk [] ?_ <;> (repeat' first | trivial)
     done)
  | skip
theorem wQ (l : List Fd) (id d : Int) (hp : 0 ≤ d ∧ ∀ f ∈ l, f.raw.length ≤ 1000000000) : OK 14 ([dt l, .int .i64 id, .int .i64 d]) ([]) (.tuple [kV (strs l id d).1, .int .i64 (strs l id d).2]) (none) := by
 cases hL : bA l id 9 with
 | none => rw [Il hL]; exact (D3 l id d hL).res (Wk.tuple (aC.cons (Wk.nil (.inl rfl)) (aC.refl _)))
 | some f =>
   by_cases hz : (c6 d f.raw).1 = 0
   . exact (D1 l id d hp f hL hz).res (Hm hL hz rfl)
   . rw [Ij hL hz]
     exact (D2 l id d hp f hL hz).res (Wk.tuple (aC.cons (Wk.nil (.inl rfl)) (aC.refl _)))
def ru : Sm := fun args σ => match args, σ with
 | [.list false 6 l_l, .int .i64 id, .int .i64 d], [] => some (l_l = (l_l.map cL).map cM ∧ (0 ≤ d ∧ ∀ f ∈ (l_l.map cL), f.raw.length ≤ 1000000000), .tuple [kV (strs (l_l.map cL) id d).1, .int .i64 (strs (l_l.map cL) id d).2], none)
 | _, _ => none
theorem xS : aa 14 ru := by
 intro args sg pre x r he hp
 unfold ru at he
 split at he <;> cases he
 . rw [pJ (hp).1]; exact wQ (hp := hp.2) ..
end Go.Proofs.YtipejldppicijaaGreatDoor
