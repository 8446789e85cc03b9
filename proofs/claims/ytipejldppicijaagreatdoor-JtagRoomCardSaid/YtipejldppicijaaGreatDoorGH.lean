/-
  A part of the proof.
-/
import Derived.Test.YtipejldppicijaaGreatDoorGE
import Derived.Test.YtipejldppicijaaGreatDoorGF
set_option linter.unusedSimpArgs false
set_option linter.unusedVariables false
set_option maxHeartbeats 4000000
namespace Go.Proofs.YtipejldppicijaaGreatDoor
open Go Go.VG
set_option maxRecDepth 100000
theorem Ck (s : List UInt8) (d : Int) (hp : d ≥ 32) : OK 42 ([.str s, .int .i64 d]) ([]) (.tuple [.list true 0 [], .int .i64 33]) (none) := by
 refine ai (C := cx [(32, nk)]) (aj ⟨qD, trivial⟩) (fn := Tryz.f42) rfl rfl rfl rfl fun hw hs => ?_
 repeat' ((conv => whnf); first | apply a9 | (apply ao <;> intro h))
 all_goals try conv => whnf
 all_goals try (refine a8.mk ?_; try dsimp only)
 all_goals first
  | (exfalso; omega)
  | (show a7 _ _ _ _ _ _
     refine a7.mk [] ?_ <;> (repeat' first | trivial)
     done)
def sm_citD : Sm := fun args σ => match args, σ with
 | [.str s, .int .i64 d], [] => some (d ≥ 32, .tuple [.list true 0 [], .int .i64 33], none)
 | _, _ => none
theorem Cl (s : List UInt8) (d : Int) (hp : 0 ≤ d ∧ s.length ≤ 1000000000) : OK 42 ([.str s, .int .i64 d]) ([]) (.tuple [dt (c6 d s).2, .int .i64 (c6 d s).1]) (none) := by
 unfold c6
 by_cases h : d ≥ 32
 . rw [if_pos h]
   exact (Ck s d h).res (Wk.tuple (aC.cons (Wk.nil (.inl rfl)) (aC.refl _)))
 . rw [if_neg h]
   exact (CW (31 - d).toNat s d ⟨hp.2, by omega⟩).res (iV_wk ED)
def rh : Sm := fun args σ => match args, σ with
 | [.str s, .int .i64 d], [] => some (0 ≤ d ∧ s.length ≤ 1000000000, .tuple [dt (c6 d s).2, .int .i64 (c6 d s).1], none)
 | _, _ => none
theorem xK : aa 42 rh := by
 intro args sg pre x r he hp
 unfold rh at he
 split at he <;> cases he
 . exact Cl (hp := hp) ..
theorem FV {l : List Fd} {id k : Int} {m : Nat} (h : 0 < m) : jX l id k m = if (l.getD (m - 1) default).id = id ∧ gY (byte (l.getD (m - 1) default).k) (byte k) = true then some (l.getD (m - 1) default) else jX l id k (m - 1) := by
 obtain ⟨n, rfl⟩ : ∃ n, m = n + 1 := ⟨m - 1, by omega⟩
 rw [jX]; rfl
theorem wf_fl {l : List Fd} (h : V.bR (l.map cM)) {i : Nat} (hi : i < l.length) : 0 ≤ (l.getD i default).k ∧ (l.getD i default).k ≤ 255 := by
 have := vu.1 h (cM (l.getD i default)) (List.mem_map.2 ⟨l.getD i default, by rw [List.getD_eq_getElem?_getD, List.getElem?_eq_getElem hi]; exact List.getElem_mem hi, rfl⟩)
 exact this.2.1
theorem HX {a b : Int} (ha : 0 ≤ a ∧ a ≤ 255) (hb : 0 ≤ b ∧ b ≤ 255) : gY (byte a) (byte b) = true ↔ (a = b ∨ ((a = 1 ∨ a = 2) ∧ (b = 1 ∨ b = 2))) := by
 have h1 : ((byte a).toNat : Int) = a := dc ha
 have h2 : ((byte b).toNat : Int) = b := dc hb
 rw [oZ]; omega
theorem C9 (l : List Fd) (id k : Int) (hp : True) : OK 29 ([dt l, .int .i64 id, .int .u8 k]) ([]) (.tuple [.agg (gO (cC (bA l id k))), .bool (bA l id k).isSome]) (none) := by
 refine ai (C := cx [(62, lL)]) (aj ⟨od, trivial⟩) (fn := Tryz.f29) rfl rfl rfl rfl fun hw hs => ?_
 have hl : l.length ≤ 9223372036854775807 := by have := hw.1.1; rw [List.length_map] at this; exact this
 have hwf := fun {i : Nat} (h : i < l.length) => wf_fl hw.1.2 h
 have hk : 0 ≤ k ∧ k ≤ 255 := hw.2.2.1
 all_goals try conv => whnf
 all_goals try (refine a8.mk ?_; try dsimp only)
 refine br.mk Nat (fun m => m ≤ l.length ∧ jX l id k m = bA l id k) (fun m => ⟨37, [(0, .list false 6 (l.map cM)), (1, .int .i64 id), (2, .int .u8 k), (6, .ptr 0 0), (8, .int .i64 ((m : Int) - 1))], [.cells [.int .i64 0, .int .u8 0, .int .i64 0, .int .u64 0, .str [], .str []]], []⟩) (fun m => m) [] l.length ⟨Nat.le_refl _, rfl⟩ ?_ (fun m ⟨hm, hI⟩ _ _ => ?_)
 . refine Go.VG.Sub.mk rfl ?_ ?_ ?_ ?_ <;> (repeat' first | trivial | apply ah | apply ax)
   all_goals (first | rfl | (rw [List.length_map]; (simp (discharger := omega) only [wR]; omega)))
 have hst := fun h => FV (l := l) (id := id) (k := k) (m := m) h
 have hmi : ((m : Int) - 1).toNat = m - 1 := by omega
 have hb2 : ((byte k).toNat : Int) = k := dc hk
 have hb1 := fun h : m - 1 < l.length => dc (hwf h)
 repeat' ((conv => whnf); first | apply a9 | (apply ao <;> intro h) | with_reducible apply ie)
 all_goals try conv => whnf
 all_goals try (refine a8.mk ?_; try dsimp only)
 all_goals (try simp only [List.length_map, hmi] at *)
 all_goals first | refine stay ?_ | trivial | omega | skip
 all_goals first
  | exact ⟨hk, by have := hwf (i := m - 1) (by omega); omega, trivial⟩
  | skip
 all_goals
  by_cases hm0 : 0 < m
  . have hf := hwf (i := m - 1) (by omega)
    have hs := HX hf hk
    have hst := hst hm0
    generalize l.getD (m - 1) default = f at *
    first
    | (show a7 _ _ _ _ _ _
       have e : bA l id k = some f := by rw [← hI, hst, if_pos ⟨by assumption, hs.2 (by omega)⟩]
       rw [e]
       refine a7.mk [] ?_ <;> (repeat' first | trivial)
       done)
    | (refine ⟨[], m - 1, ⟨by omega, by rw [← hI, hst, if_neg (fun q => by have h1 := q.1; have h2 := hs.1 q.2; omega)]⟩, ?_, by omega⟩
       refine Go.VG.Sub.mk rfl ?_ ?_ ?_ ?_ <;> (repeat' first | trivial | apply ah | apply ax)
       (simp (discharger := omega) only [wR]; omega)
       done)
    | (exfalso; omega)
  . obtain rfl : m = 0 := by omega
    first
    | (exfalso; omega)
    | (have e : bA l id k = none := hI.symm
       rw [e]
       refine a7.mk [] ?_ <;> (repeat' first | trivial)
       done)
def lK : Sm := fun args σ => match args, σ with
 | [.list false 6 l_l, .int .i64 id, .int .u8 k], [] => some (l_l = (l_l.map cL).map cM ∧ (True), .tuple [.agg (gO (cC (bA (l_l.map cL) id k))), .bool (bA (l_l.map cL) id k).isSome], none)
 | _, _ => none
theorem oc : aa 29 lK := by
 intro args sg pre x r he hp
 unfold lK at he
 split at he <;> cases he
 . rw [pJ (hp).1]; exact C9 (hp := hp.2) ..
end Go.Proofs.YtipejldppicijaaGreatDoor
namespace Go.Proofs.YtipejldppicijaaGreatDoor
open Go Go.VG
set_option maxRecDepth 100000
theorem Iu {l : List Fd} {q : Int} (h : q < 0 ∨ q ≥ 5) : dP l q = (tz, 7) := by unfold dP; rw [if_pos h]
theorem pF {l : List Fd} {q : Int} (h : 0 ≤ q ∧ q < 5) (e : bA l (q + 3) (vh q) = none) : dP l q = (tz, 9) := by unfold dP; rw [if_neg (by omega), e]
theorem pG {l : List Fd} {q : Int} {f : Fd} (h : 0 ≤ q ∧ q < 5) (e : bA l (q + 3) (vh q) = some f) : dP l q = (⟨[], zU q, f.text, f.num, f.bits⟩, 0) := by unfold dP; rw [if_neg (by omega), e]
theorem D4 (l : List Fd) (q : Int) (hp : True) : OK 30 ([dt l, .int .i64 q]) ([]) (.tuple [eTv (dP l q).1, .int .i64 (dP l q).2]) (none) := by
 refine ai (C := cx [(29, lK)]) (aj ⟨oc, trivial⟩) (fn := Tryz.f30) rfl rfl rfl rfl fun hw hs => ?_
 by_cases hq : q < 0 ∨ q ≥ 5
 . rw [Iu hq]
   repeat' ((conv => whnf); first | apply a9 | (apply ao <;> intro h))
   all_goals try conv => whnf
   all_goals try (refine a8.mk ?_; try dsimp only)
   all_goals first
    | (exfalso; omega)
    | (show a7 _ _ _ _ _ _
       refine a7.mk [] ?_ <;> (repeat' first | trivial)
       done)
    | skip
 rcases (by omega : q = 0 ∨ q = 1 ∨ q = 2 ∨ q = 3 ∨ q = 4) with rfl | rfl | rfl | rfl | rfl
 . cases hL : bA l 3 8 with
   | none =>
     rw [pF (q := 0) (by decide) hL]
     repeat' ((conv => whnf); first | apply a9 | apply aQ | (apply bE <;> intro h))
     all_goals try conv => whnf
     all_goals try (refine a8.mk ?_; try dsimp only)
     all_goals (try simp only [dd, hL, Option.isSome_none] at *)
     all_goals first
      | (show a7 _ _ _ _ _ _
         refine a7.mk [] ?_ <;> (repeat' first | trivial)
         done)
      | (exfalso; simp_all; done)
      | exact ⟨di l, trivial⟩
      | trivial
      | omega
      | skip
   | some f =>
     rw [pG (q := 0) (by decide) hL]
     repeat' ((conv => whnf); first | apply a9 | apply aQ | (apply bE <;> intro h))
     all_goals try conv => whnf
     all_goals try (refine a8.mk ?_; try dsimp only)
     all_goals (try simp only [dd, hL, Option.isSome_some, cC, Option.getD_some] at *)
     all_goals first
      | (show a7 _ _ _ _ _ _
         refine a7.mk [] ?_ <;> (repeat' first | trivial)
         done)
      | (exfalso; simp_all; done)
      | exact ⟨di l, trivial⟩
      | trivial
      | omega
      | skip
 . cases hL : bA l 4 7 with
   | none =>
     rw [pF (q := 1) (by decide) hL]
     repeat' ((conv => whnf); first | apply a9 | apply aQ | (apply bE <;> intro h))
     all_goals try conv => whnf
     all_goals try (refine a8.mk ?_; try dsimp only)
     all_goals (try simp only [dd, hL, Option.isSome_none] at *)
     all_goals first
      | (show a7 _ _ _ _ _ _
         refine a7.mk [] ?_ <;> (repeat' first | trivial)
         done)
      | (exfalso; simp_all; done)
      | exact ⟨di l, trivial⟩
      | trivial
      | omega
      | skip
   | some f =>
     rw [pG (q := 1) (by decide) hL]
     repeat' ((conv => whnf); first | apply a9 | apply aQ | (apply bE <;> intro h))
     all_goals try conv => whnf
     all_goals try (refine a8.mk ?_; try dsimp only)
     all_goals (try simp only [dd, hL, Option.isSome_some, cC, Option.getD_some] at *)
     all_goals first
      | (show a7 _ _ _ _ _ _
         refine a7.mk [] ?_ <;> (repeat' first | trivial)
         done)
      | (exfalso; simp_all; done)
      | exact ⟨di l, trivial⟩
      | trivial
      | omega
      | skip
 . cases hL : bA l 5 1 with
   | none =>
     rw [pF (q := 2) (by decide) hL]
     repeat' ((conv => whnf); first | apply a9 | apply aQ | (apply bE <;> intro h))
     all_goals try conv => whnf
     all_goals try (refine a8.mk ?_; try dsimp only)
     all_goals (try simp only [dd, hL, Option.isSome_none] at *)
     all_goals first
      | (show a7 _ _ _ _ _ _
         refine a7.mk [] ?_ <;> (repeat' first | trivial)
         done)
      | (exfalso; simp_all; done)
      | exact ⟨di l, trivial⟩
      | trivial
      | omega
      | skip
   | some f =>
     rw [pG (q := 2) (by decide) hL]
     repeat' ((conv => whnf); first | apply a9 | apply aQ | (apply bE <;> intro h))
     all_goals try conv => whnf
     all_goals try (refine a8.mk ?_; try dsimp only)
     all_goals (try simp only [dd, hL, Option.isSome_some, cC, Option.getD_some] at *)
     all_goals first
      | (show a7 _ _ _ _ _ _
         refine a7.mk [] ?_ <;> (repeat' first | trivial)
         done)
      | (exfalso; simp_all; done)
      | exact ⟨di l, trivial⟩
      | trivial
      | omega
      | skip
 . cases hL : bA l 6 6 with
   | none =>
     rw [pF (q := 3) (by decide) hL]
     repeat' ((conv => whnf); first | apply a9 | apply aQ | (apply bE <;> intro h))
     all_goals try conv => whnf
     all_goals try (refine a8.mk ?_; try dsimp only)
     all_goals (try simp only [dd, hL, Option.isSome_none] at *)
     all_goals first
      | (show a7 _ _ _ _ _ _
         refine a7.mk [] ?_ <;> (repeat' first | trivial)
         done)
      | (exfalso; simp_all; done)
      | exact ⟨di l, trivial⟩
      | trivial
      | omega
      | skip
   | some f =>
     rw [pG (q := 3) (by decide) hL]
     repeat' ((conv => whnf); first | apply a9 | apply aQ | (apply bE <;> intro h))
     all_goals try conv => whnf
     all_goals try (refine a8.mk ?_; try dsimp only)
     all_goals (try simp only [dd, hL, Option.isSome_some, cC, Option.getD_some] at *)
     all_goals first
      | (show a7 _ _ _ _ _ _
         refine a7.mk [] ?_ <;> (repeat' first | trivial)
         done)
      | (exfalso; simp_all; done)
      | exact ⟨di l, trivial⟩
      | trivial
      | omega
      | skip
 . cases hL : bA l 7 8 with
   | none =>
     rw [pF (q := 4) (by decide) hL]
     repeat' ((conv => whnf); first | apply a9 | apply aQ | (apply bE <;> intro h))
     all_goals try conv => whnf
     all_goals try (refine a8.mk ?_; try dsimp only)
     all_goals (try simp only [dd, hL, Option.isSome_none] at *)
     all_goals first
      | (show a7 _ _ _ _ _ _
         refine a7.mk [] ?_ <;> (repeat' first | trivial)
         done)
      | (exfalso; simp_all; done)
      | exact ⟨di l, trivial⟩
      | trivial
      | omega
      | skip
   | some f =>
     rw [pG (q := 4) (by decide) hL]
     repeat' ((conv => whnf); first | apply a9 | apply aQ | (apply bE <;> intro h))
     all_goals try conv => whnf
     all_goals try (refine a8.mk ?_; try dsimp only)
     all_goals (try simp only [dd, hL, Option.isSome_some, cC, Option.getD_some] at *)
     all_goals first
      | (show a7 _ _ _ _ _ _
         refine a7.mk [] ?_ <;> (repeat' first | trivial)
         done)
      | (exfalso; simp_all; done)
      | exact ⟨di l, trivial⟩
      | trivial
      | omega
      | skip
def uF : Sm := fun args σ => match args, σ with
 | [.list false 6 l_l, .int .i64 q], [] => some (l_l = (l_l.map cL).map cM ∧ (True), .tuple [eTv (dP (l_l.map cL) q).1, .int .i64 (dP (l_l.map cL) q).2], none)
 | _, _ => none
theorem F7 : aa 30 uF := by
 intro args sg pre x r he hp
 unfold uF at he
 split at he <;> cases he
 . rw [pJ (hp).1]; exact D4 (hp := hp.2) ..
theorem wP (s : List UInt8) (d : Int) (hp : 0 ≤ d ∧ s.length ≤ 1000000000) : OK 7 ([.str s, .int .i64 d]) ([]) (.tuple [mc (dy d s).1, .int .i64 (dy d s).2]) (none) := by
  refine ai (C := cx [(10, uw), (29, lK), (30, uF)]) (aj ⟨k_cst, oc, F7, trivial⟩) (fn := Tryz.f7) rfl rfl rfl rfl fun hw hs => ?_
  by_cases hc : (c7 d s).1 = 0
  . rw [Ha hc]
    have hsh := Ho d s
    cases h1 : bA (c7 d s).2.2 1 8 with
    | none =>
      rw [Ir h1]
      repeat' ((conv => whnf); first | apply a9 | apply aQ | ((first | apply ao | apply bE) <;> intro h))
      all_goals try conv => whnf
      all_goals try (refine a8.mk ?_; try dsimp only)
      all_goals (try simp only [dd, h1, Option.isSome_none, cC, Option.getD_none] at *)
      all_goals first
       | exact ⟨trivial, trivial⟩
       | exact ⟨hp.1, hp.2⟩
       | exact ⟨di _, trivial⟩
       | (show a7 _ _ _ _ _ _
          refine a7.mk [] ?_ <;> (repeat' first | trivial)
          done)
       | (exfalso; simp_all; done)
       | (exfalso; omega)
       | skip
    | some f1 =>
      cases h2 : bA (c7 d s).2.2 2 5 with
      | none =>
        rw [Is h2]
        repeat' ((conv => whnf); first | apply a9 | apply aQ | ((first | apply ao | apply bE) <;> intro h))
        all_goals try conv => whnf
        all_goals try (refine a8.mk ?_; try dsimp only)
        all_goals (try simp only [dd, h1, h2, Option.isSome_none, Option.isSome_some, cC, Option.getD_none, Option.getD_some] at *)
        all_goals first
         | exact ⟨trivial, trivial⟩
         | exact ⟨hp.1, hp.2⟩
         | exact ⟨di _, trivial⟩
         | (show a7 _ _ _ _ _ _
            refine a7.mk [] ?_ <;> (repeat' first | trivial)
            done)
         | (exfalso; simp_all; done)
         | (exfalso; omega)
         | skip
      | some f2 =>
        by_cases h3 : (dP (c7 d s).2.2 f2.num).2 = 0
        . rw [It h1 h2 h3]
          repeat' ((conv => whnf); first | apply a9 | apply aQ | ((first | apply ao | apply bE) <;> intro h))
          all_goals try conv => whnf
          all_goals try (refine a8.mk ?_; try dsimp only)
          all_goals (try simp only [dd, h1, h2, h3, Option.isSome_none, Option.isSome_some, cC, Option.getD_none, Option.getD_some] at *)
          all_goals first
           | exact ⟨trivial, trivial⟩
           | exact ⟨hp.1, hp.2⟩
           | exact ⟨di _, trivial⟩
           | (show a7 _ _ _ _ _ _
              refine a7.mk [] ?_ <;> (repeat' first | trivial)
              done)
           | (exfalso; simp_all; done)
           | (exfalso; omega)
           | skip
        . rw [Iq h1 h2 h3]
          repeat' ((conv => whnf); first | apply a9 | apply aQ | ((first | apply ao | apply bE) <;> intro h))
          all_goals try conv => whnf
          all_goals try (refine a8.mk ?_; try dsimp only)
          all_goals (try simp only [dd, h1, h2, Option.isSome_none, Option.isSome_some, cC, Option.getD_none, Option.getD_some] at *)
          all_goals first
           | exact ⟨trivial, trivial⟩
           | exact ⟨hp.1, hp.2⟩
           | exact ⟨di _, trivial⟩
           | (show a7 _ _ _ _ _ _
              refine a7.mk [] ?_ <;> (repeat' first | trivial)
              done)
           | (exfalso; simp_all; done)
           | (exfalso; omega)
           | skip
  . rw [H9 hc]
    repeat' ((conv => whnf); first | apply a9 | apply aQ | ((first | apply ao | apply bE) <;> intro h))
    all_goals try conv => whnf
    all_goals try (refine a8.mk ?_; try dsimp only)
    all_goals (try simp only [dd] at *)
    all_goals first
     | exact ⟨trivial, trivial⟩
     | exact ⟨hp.1, hp.2⟩
     | exact ⟨di _, trivial⟩
     | (show a7 _ _ _ _ _ _
        refine a7.mk [] ?_ <;> (repeat' first | trivial)
        done)
     | (exfalso; simp_all; done)
     | (exfalso; omega)
     | skip
def uE : Sm := fun args σ => match args, σ with
 | [.str s, .int .i64 d], [] => some (0 ≤ d ∧ s.length ≤ 1000000000, .tuple [mc (dy d s).1, .int .i64 (dy d s).2], none)
 | _, _ => none
theorem F6 : aa 7 uE := by
 intro args sg pre x r he hp
 unfold uE at he
 split at he <;> cases he
 . exact wP (hp := hp) ..
end Go.Proofs.YtipejldppicijaaGreatDoor
