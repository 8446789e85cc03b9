/-
  A part of the proof.
-/
import Derived.Test.YtipejldppicijaaGreatDoorGE
import Derived.Test.YtipejldppicijaaGreatDoorGF
set_option linter.unusedSimpArgs false
set_option linter.unusedVariables false
set_option maxHeartbeats 4000000
namespace Go.Proofs.YtipejldppicijaaGreatDoor
open Go Go.VG
set_option maxRecDepth 100000
theorem G0 (s : List UInt8) (d : Int) (hp : d ≥ 32) : OK 42 ([.str s, .int .i64 d]) ([]) (.tuple [.list true 0 [], .int .i64 33]) (none) := by
 refine af (C := cx [(32, oB)]) (ah ⟨s4, trivial⟩) (fn := Tryz.f42) rfl rfl rfl rfl fun hw hs => ?_
 repeat' ((conv => whnf); first | apply a9 | (apply al <;> intro h))
 all_goals try conv => whnf
 all_goals try (refine a8.mk ?_; try dsimp only)
 all_goals first
  | (exfalso; omega)
  | (show a7 _ _ _ _ _ _
     refine a7.mk [] ?_ <;> (repeat' first | trivial)
     done)
def sm_citD : Sm := fun args σ => match args, σ with
 | [.str s, .int .i64 d], [] => some (d ≥ 32, .tuple [.list true 0 [], .int .i64 33], none)
 | _, _ => none
theorem G1 (s : List UInt8) (d : Int) (hp : 0 ≤ d ∧ s.length ≤ 1000000000) : OK 42 ([.str s, .int .i64 d]) ([]) (.tuple [dT (cr d s).2, .int .i64 (cr d s).1]) (none) := by
 unfold cr
 by_cases h : d ≥ 32
 . rw [if_pos h]
   exact (G0 s d h).res (Wk.tuple (aq.cons (Wk.nil (.inl rfl)) (aq.refl _)))
 . rw [if_neg h]
   exact (GB (31 - d).toNat s d ⟨hp.2, by omega⟩).res (iV_wk IF)
def sU : Sm := fun args σ => match args, σ with
 | [.str s, .int .i64 d], [] => some (0 ≤ d ∧ s.length ≤ 1000000000, .tuple [dT (cr d s).2, .int .i64 (cr d s).1], none)
 | _, _ => none
theorem Ao : aa 42 sU := by
 intro args sg pre x r he hp
 unfold sU at he
 split at he <;> cases he
 . exact G1 (hp := hp) ..
theorem K7 {l : List Fd} {id k : Int} {m : Nat} (h : 0 < m) : l9 l id k m = if (l.getD (m - 1) default).id = id ∧ eS (byte (l.getD (m - 1) default).k) (byte k) = true then some (l.getD (m - 1) default) else l9 l id k (m - 1) := by
 obtain ⟨n, rfl⟩ : ∃ n, m = n + 1 := ⟨m - 1, by omega⟩
 rw [l9]; rfl
theorem wf_fl {l : List Fd} (h : V.cp (l.map cQ)) {i : Nat} (hi : i < l.length) : 0 ≤ (l.getD i default).k ∧ (l.getD i default).k ≤ 255 := by
 have := y0.1 h (cQ (l.getD i default)) (List.mem_map.2 ⟨l.getD i default, by rw [List.getD_eq_getElem?_getD, List.getElem?_eq_getElem hi]; exact List.getElem_mem hi, rfl⟩)
 exact this.2.1
theorem M8 {a b : Int} (ha : 0 ≤ a ∧ a ≤ 255) (hb : 0 ≤ b ∧ b ≤ 255) : eS (byte a) (byte b) = true ↔ (a = b ∨ ((a = 1 ∨ a = 2) ∧ (b = 1 ∨ b = 2))) := by
 have h1 : ((byte a).toNat : Int) = a := cE ha
 have h2 : ((byte b).toNat : Int) = b := cE hb
 rw [jV]; omega
theorem FO (l : List Fd) (id k : Int) (hp : True) : OK 29 ([dT l, .int .i64 id, .int .u8 k]) ([]) (.tuple [.agg (iF (d5 (bI l id k))), .bool (bI l id k).isSome]) (none) := by
 refine af (C := cx [(62, mQ)]) (ah ⟨pK, trivial⟩) (fn := Tryz.f29) rfl rfl rfl rfl fun hw hs => ?_
 have hl : l.length ≤ 9223372036854775807 := by have := hw.1.1; rw [List.length_map] at this; exact this
 have hwf := fun {i : Nat} (h : i < l.length) => wf_fl hw.1.2 h
 have hk : 0 ≤ k ∧ k ≤ 255 := hw.2.2.1
 all_goals try conv => whnf
 all_goals try (refine a8.mk ?_; try dsimp only)
 refine bd.mk Nat (fun m => m ≤ l.length ∧ l9 l id k m = bI l id k) (fun m => ⟨37, [(0, .list false 6 (l.map cQ)), (1, .int .i64 id), (2, .int .u8 k), (6, .ptr 0 0), (8, .int .i64 ((m : Int) - 1))], [.cells [.int .i64 0, .int .u8 0, .int .i64 0, .int .u64 0, .str [], .str []]], []⟩) (fun m => m) [] l.length ⟨Nat.le_refl _, rfl⟩ ?_ (fun m ⟨hm, hI⟩ _ _ => ?_)
 . refine Go.VG.Sub.mk rfl ?_ ?_ ?_ ?_ <;> (repeat' first | trivial | apply ab | apply au)
   all_goals (first | rfl | (rw [List.length_map]; (simp (discharger := omega) only [wR]; omega)))
 have hst := fun h => K7 (l := l) (id := id) (k := k) (m := m) h
 have hmi : ((m : Int) - 1).toNat = m - 1 := by omega
 have hb2 : ((byte k).toNat : Int) = k := cE hk
 have hb1 := fun h : m - 1 < l.length => cE (hwf h)
 repeat' ((conv => whnf); first | apply a9 | (apply al <;> intro h) | with_reducible apply iL)
 all_goals try conv => whnf
 all_goals try (refine a8.mk ?_; try dsimp only)
 all_goals (try simp only [List.length_map, hmi] at *)
 all_goals first | refine stay ?_ | trivial | omega | skip
 all_goals first
  | exact ⟨hk, by have := hwf (i := m - 1) (by omega); omega, trivial⟩
  | skip
 all_goals
  by_cases hm0 : 0 < m
  . have hf := hwf (i := m - 1) (by omega)
    have hs := M8 hf hk
    have hst := hst hm0
    generalize l.getD (m - 1) default = f at *
    first
    | (show a7 _ _ _ _ _ _
       have e : bI l id k = some f := by rw [← hI, hst, if_pos ⟨by assumption, hs.2 (by omega)⟩]
       rw [e]
       refine a7.mk [] ?_ <;> (repeat' first | trivial)
       done)
    | (refine ⟨[], m - 1, ⟨by omega, by rw [← hI, hst, if_neg (fun q => by have h1 := q.1; have h2 := hs.1 q.2; omega)]⟩, ?_, by omega⟩
       refine Go.VG.Sub.mk rfl ?_ ?_ ?_ ?_ <;> (repeat' first | trivial | apply ab | apply au)
       (simp (discharger := omega) only [wR]; omega)
       done)
    | (exfalso; omega)
  . obtain rfl : m = 0 := by omega
    first
    | (exfalso; omega)
    | (have e : bI l id k = none := hI.symm
       rw [e]
       refine a7.mk [] ?_ <;> (repeat' first | trivial)
       done)
def mP : Sm := fun args σ => match args, σ with
 | [.list false 6 l_l, .int .i64 id, .int .u8 k], [] => some (l_l = (l_l.map cn).map cQ ∧ (True), .tuple [.agg (iF (d5 (bI (l_l.map cn) id k))), .bool (bI (l_l.map cn) id k).isSome], none)
 | _, _ => none
theorem pJ : aa 29 mP := by
 intro args sg pre x r he hp
 unfold mP at he
 split at he <;> cases he
 . rw [oK (hp).1]; exact FO (hp := hp.2) ..
end Go.Proofs.YtipejldppicijaaGreatDoor
namespace Go.Proofs.YtipejldppicijaaGreatDoor
open Go Go.VG
set_option maxRecDepth 100000
theorem MJ {l : List Fd} {q : Int} (h : q < 0 ∨ q ≥ 5) : eK l q = (tz, 7) := by unfold eK; rw [if_pos h]
theorem qX {l : List Fd} {q : Int} (h : 0 ≤ q ∧ q < 5) (e : bI l (q + 3) (xQ q) = none) : eK l q = (tz, 9) := by unfold eK; rw [if_neg (by omega), e]
theorem qY {l : List Fd} {q : Int} {f : Fd} (h : 0 ≤ q ∧ q < 5) (e : bI l (q + 3) (xQ q) = some f) : eK l q = (⟨[], D4 q, f.text, f.num, f.bits⟩, 0) := by unfold eK; rw [if_neg (by omega), e]
theorem GJ (l : List Fd) (q : Int) (hp : True) : OK 30 ([dT l, .int .i64 q]) ([]) (.tuple [eTv (eK l q).1, .int .i64 (eK l q).2]) (none) := by
 refine af (C := cx [(29, mP)]) (ah ⟨pJ, trivial⟩) (fn := Tryz.f30) rfl rfl rfl rfl fun hw hs => ?_
 by_cases hq : q < 0 ∨ q ≥ 5
 . rw [MJ hq]
   repeat' ((conv => whnf); first | apply a9 | (apply al <;> intro h))
   all_goals try conv => whnf
   all_goals try (refine a8.mk ?_; try dsimp only)
   all_goals first
    | (exfalso; omega)
    | (show a7 _ _ _ _ _ _
       refine a7.mk [] ?_ <;> (repeat' first | trivial)
       done)
    | skip
 rcases (by omega : q = 0 ∨ q = 1 ∨ q = 2 ∨ q = 3 ∨ q = 4) with rfl | rfl | rfl | rfl | rfl
 . cases hL : bI l 3 8 with
   | none =>
     rw [qX (q := 0) (by decide) hL]
     repeat' ((conv => whnf); first | apply a9 | apply aJ | (apply bu <;> intro h))
     all_goals try conv => whnf
     all_goals try (refine a8.mk ?_; try dsimp only)
     all_goals (try simp only [db, hL, Option.isSome_none] at *)
     all_goals first
      | (show a7 _ _ _ _ _ _
         refine a7.mk [] ?_ <;> (repeat' first | trivial)
         done)
      | (exfalso; simp_all; done)
      | exact ⟨dF l, trivial⟩
      | trivial
      | omega
      | skip
   | some f =>
     rw [qY (q := 0) (by decide) hL]
     repeat' ((conv => whnf); first | apply a9 | apply aJ | (apply bu <;> intro h))
     all_goals try conv => whnf
     all_goals try (refine a8.mk ?_; try dsimp only)
     all_goals (try simp only [db, hL, Option.isSome_some, d5, Option.getD_some] at *)
     all_goals first
      | (show a7 _ _ _ _ _ _
         refine a7.mk [] ?_ <;> (repeat' first | trivial)
         done)
      | (exfalso; simp_all; done)
      | exact ⟨dF l, trivial⟩
      | trivial
      | omega
      | skip
 . cases hL : bI l 4 7 with
   | none =>
     rw [qX (q := 1) (by decide) hL]
     repeat' ((conv => whnf); first | apply a9 | apply aJ | (apply bu <;> intro h))
     all_goals try conv => whnf
     all_goals try (refine a8.mk ?_; try dsimp only)
     all_goals (try simp only [db, hL, Option.isSome_none] at *)
     all_goals first
      | (show a7 _ _ _ _ _ _
         refine a7.mk [] ?_ <;> (repeat' first | trivial)
         done)
      | (exfalso; simp_all; done)
      | exact ⟨dF l, trivial⟩
      | trivial
      | omega
      | skip
   | some f =>
     rw [qY (q := 1) (by decide) hL]
     repeat' ((conv => whnf); first | apply a9 | apply aJ | (apply bu <;> intro h))
     all_goals try conv => whnf
     all_goals try (refine a8.mk ?_; try dsimp only)
     all_goals (try simp only [db, hL, Option.isSome_some, d5, Option.getD_some] at *)
     all_goals first
      | (show a7 _ _ _ _ _ _
         refine a7.mk [] ?_ <;> (repeat' first | trivial)
         done)
      | (exfalso; simp_all; done)
      | exact ⟨dF l, trivial⟩
      | trivial
      | omega
      | skip
 . cases hL : bI l 5 1 with
   | none =>
     rw [qX (q := 2) (by decide) hL]
     repeat' ((conv => whnf); first | apply a9 | apply aJ | (apply bu <;> intro h))
     all_goals try conv => whnf
     all_goals try (refine a8.mk ?_; try dsimp only)
     all_goals (try simp only [db, hL, Option.isSome_none] at *)
     all_goals first
      | (show a7 _ _ _ _ _ _
         refine a7.mk [] ?_ <;> (repeat' first | trivial)
         done)
      | (exfalso; simp_all; done)
      | exact ⟨dF l, trivial⟩
      | trivial
      | omega
      | skip
   | some f =>
     rw [qY (q := 2) (by decide) hL]
     repeat' ((conv => whnf); first | apply a9 | apply aJ | (apply bu <;> intro h))
     all_goals try conv => whnf
     all_goals try (refine a8.mk ?_; try dsimp only)
     all_goals (try simp only [db, hL, Option.isSome_some, d5, Option.getD_some] at *)
     all_goals first
      | (show a7 _ _ _ _ _ _
         refine a7.mk [] ?_ <;> (repeat' first | trivial)
         done)
      | (exfalso; simp_all; done)
      | exact ⟨dF l, trivial⟩
      | trivial
      | omega
      | skip
 . cases hL : bI l 6 6 with
   | none =>
     rw [qX (q := 3) (by decide) hL]
     repeat' ((conv => whnf); first | apply a9 | apply aJ | (apply bu <;> intro h))
     all_goals try conv => whnf
     all_goals try (refine a8.mk ?_; try dsimp only)
     all_goals (try simp only [db, hL, Option.isSome_none] at *)
     all_goals first
      | (show a7 _ _ _ _ _ _
         refine a7.mk [] ?_ <;> (repeat' first | trivial)
         done)
      | (exfalso; simp_all; done)
      | exact ⟨dF l, trivial⟩
      | trivial
      | omega
      | skip
   | some f =>
     rw [qY (q := 3) (by decide) hL]
     repeat' ((conv => whnf); first | apply a9 | apply aJ | (apply bu <;> intro h))
     all_goals try conv => whnf
     all_goals try (refine a8.mk ?_; try dsimp only)
     all_goals (try simp only [db, hL, Option.isSome_some, d5, Option.getD_some] at *)
     all_goals first
      | (show a7 _ _ _ _ _ _
         refine a7.mk [] ?_ <;> (repeat' first | trivial)
         done)
      | (exfalso; simp_all; done)
      | exact ⟨dF l, trivial⟩
      | trivial
      | omega
      | skip
 . cases hL : bI l 7 8 with
   | none =>
     rw [qX (q := 4) (by decide) hL]
     repeat' ((conv => whnf); first | apply a9 | apply aJ | (apply bu <;> intro h))
     all_goals try conv => whnf
     all_goals try (refine a8.mk ?_; try dsimp only)
     all_goals (try simp only [db, hL, Option.isSome_none] at *)
     all_goals first
      | (show a7 _ _ _ _ _ _
         refine a7.mk [] ?_ <;> (repeat' first | trivial)
         done)
      | (exfalso; simp_all; done)
      | exact ⟨dF l, trivial⟩
      | trivial
      | omega
      | skip
   | some f =>
     rw [qY (q := 4) (by decide) hL]
     repeat' ((conv => whnf); first | apply a9 | apply aJ | (apply bu <;> intro h))
     all_goals try conv => whnf
     all_goals try (refine a8.mk ?_; try dsimp only)
     all_goals (try simp only [db, hL, Option.isSome_some, d5, Option.getD_some] at *)
     all_goals first
      | (show a7 _ _ _ _ _ _
         refine a7.mk [] ?_ <;> (repeat' first | trivial)
         done)
      | (exfalso; simp_all; done)
      | exact ⟨dF l, trivial⟩
      | trivial
      | omega
      | skip
def wW : Sm := fun args σ => match args, σ with
 | [.list false 6 l_l, .int .i64 q], [] => some (l_l = (l_l.map cn).map cQ ∧ (True), .tuple [eTv (eK (l_l.map cn) q).1, .int .i64 (eK (l_l.map cn) q).2], none)
 | _, _ => none
theorem J9 : aa 30 wW := by
 intro args sg pre x r he hp
 unfold wW at he
 split at he <;> cases he
 . rw [oK (hp).1]; exact GJ (hp := hp.2) ..
theorem zo (s : List UInt8) (d : Int) (hp : 0 ≤ d ∧ s.length ≤ 1000000000) : OK 7 ([.str s, .int .i64 d]) ([]) (.tuple [eR (dH d s).1, .int .i64 (dH d s).2]) (none) := by
  refine af (C := cx [(10, qO), (29, mP), (30, wW)]) (ah ⟨vm, pJ, J9, trivial⟩) (fn := Tryz.f7) rfl rfl rfl rfl fun hw hs => ?_
  by_cases hc : (bK d s).1 = 0
  . rw [C8 hc]
    have hsh := Lu d s
    cases h1 : bI (bK d s).2.2 1 8 with
    | none =>
      rw [MF h1]
      repeat' ((conv => whnf); first | apply a9 | apply aJ | ((first | apply al | apply bu) <;> intro h))
      all_goals try conv => whnf
      all_goals try (refine a8.mk ?_; try dsimp only)
      all_goals (try simp only [db, h1, Option.isSome_none, d5, Option.getD_none] at *)
      all_goals first
       | exact ⟨trivial, trivial⟩
       | exact ⟨hp.1, hp.2⟩
       | exact ⟨dF _, trivial⟩
       | (show a7 _ _ _ _ _ _
          refine a7.mk [] ?_ <;> (repeat' first | trivial)
          done)
       | (exfalso; simp_all; done)
       | (exfalso; omega)
       | skip
    | some f1 =>
      cases h2 : bI (bK d s).2.2 2 5 with
      | none =>
        rw [MG h2]
        repeat' ((conv => whnf); first | apply a9 | apply aJ | ((first | apply al | apply bu) <;> intro h))
        all_goals try conv => whnf
        all_goals try (refine a8.mk ?_; try dsimp only)
        all_goals (try simp only [db, h1, h2, Option.isSome_none, Option.isSome_some, d5, Option.getD_none, Option.getD_some] at *)
        all_goals first
         | exact ⟨trivial, trivial⟩
         | exact ⟨hp.1, hp.2⟩
         | exact ⟨dF _, trivial⟩
         | (show a7 _ _ _ _ _ _
            refine a7.mk [] ?_ <;> (repeat' first | trivial)
            done)
         | (exfalso; simp_all; done)
         | (exfalso; omega)
         | skip
      | some f2 =>
        by_cases h3 : (eK (bK d s).2.2 f2.num).2 = 0
        . rw [MI h1 h2 h3]
          repeat' ((conv => whnf); first | apply a9 | apply aJ | ((first | apply al | apply bu) <;> intro h))
          all_goals try conv => whnf
          all_goals try (refine a8.mk ?_; try dsimp only)
          all_goals (try simp only [db, h1, h2, h3, Option.isSome_none, Option.isSome_some, d5, Option.getD_none, Option.getD_some] at *)
          all_goals first
           | exact ⟨trivial, trivial⟩
           | exact ⟨hp.1, hp.2⟩
           | exact ⟨dF _, trivial⟩
           | (show a7 _ _ _ _ _ _
              refine a7.mk [] ?_ <;> (repeat' first | trivial)
              done)
           | (exfalso; simp_all; done)
           | (exfalso; omega)
           | skip
        . rw [ME h1 h2 h3]
          repeat' ((conv => whnf); first | apply a9 | apply aJ | ((first | apply al | apply bu) <;> intro h))
          all_goals try conv => whnf
          all_goals try (refine a8.mk ?_; try dsimp only)
          all_goals (try simp only [db, h1, h2, Option.isSome_none, Option.isSome_some, d5, Option.getD_none, Option.getD_some] at *)
          all_goals first
           | exact ⟨trivial, trivial⟩
           | exact ⟨hp.1, hp.2⟩
           | exact ⟨dF _, trivial⟩
           | (show a7 _ _ _ _ _ _
              refine a7.mk [] ?_ <;> (repeat' first | trivial)
              done)
           | (exfalso; simp_all; done)
           | (exfalso; omega)
           | skip
  . rw [Lf hc]
    repeat' ((conv => whnf); first | apply a9 | apply aJ | ((first | apply al | apply bu) <;> intro h))
    all_goals try conv => whnf
    all_goals try (refine a8.mk ?_; try dsimp only)
    all_goals (try simp only [db] at *)
    all_goals first
     | exact ⟨trivial, trivial⟩
     | exact ⟨hp.1, hp.2⟩
     | exact ⟨dF _, trivial⟩
     | (show a7 _ _ _ _ _ _
        refine a7.mk [] ?_ <;> (repeat' first | trivial)
        done)
     | (exfalso; simp_all; done)
     | (exfalso; omega)
     | skip
def wV : Sm := fun args σ => match args, σ with
 | [.str s, .int .i64 d], [] => some (0 ≤ d ∧ s.length ≤ 1000000000, .tuple [eR (dH d s).1, .int .i64 (dH d s).2], none)
 | _, _ => none
theorem J8 : aa 7 wV := by
 intro args sg pre x r he hp
 unfold wV at he
 split at he <;> cases he
 . exact zo (hp := hp) ..
end Go.Proofs.YtipejldppicijaaGreatDoor
