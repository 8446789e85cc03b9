/-
  A part of the proof.
-/
import Derived.Test.YtipejldppicijaaGreatDoorGF
import Derived.Test.YtipejldppicijaaGreatDoorGG
set_option linter.unusedSimpArgs false
set_option linter.unusedVariables false
set_option maxHeartbeats 4000000
namespace Go.Proofs.YtipejldppicijaaGreatDoor
open Go Go.VG
set_option maxRecDepth 100000
theorem uo {l : List Fd} {q : Int} (h : q < 0 ∨ q ≥ 5) : dR l q = (tz, 7) := by unfold dR; rw [if_pos h]
theorem fc {l : List Fd} {q : Int} (h : 0 ≤ q ∧ q < 5) (e : aP l (q + 3) (um q) = none) : dR l q = (tz, 9) := by unfold dR; rw [if_neg (by omega), e]
theorem fe {l : List Fd} {q : Int} {f : Fd} (h : 0 ≤ q ∧ q < 5) (e : aP l (q + 3) (um q) = some f) : dR l q = (⟨[], zt q, f.text, f.num, f.bits⟩, 0) := by unfold dR; rw [if_neg (by omega), e]
theorem Cr (l : List Fd) (q : Int) (hp : True) : OK 30 ([c6 l, .int .i64 q]) ([]) (.tuple [lL (dR l q).1, .int .i64 (dR l q).2]) (none) := by
 refine ah (C := cx [(29, ld)]) (ai ⟨nz, trivial⟩) (fn := Tryz.f30) rfl rfl rfl rfl fun hw hs => ?_
 by_cases hq : q < 0 ∨ q ≥ 5
 . rw [uo hq]
   repeat' ((conv => whnf); first | apply ab | (apply ae <;> intro h))
   all_goals try conv => whnf
   all_goals try (refine a7.mk ?_; try dsimp only)
   all_goals first
    | (exfalso; omega)
    | (show a6 _ _ _ _ _ _
       refine a6.mk [] ?_ <;> (repeat' first | trivial)
       done)
    | skip
 rcases (by omega : q = 0 ∨ q = 1 ∨ q = 2 ∨ q = 3 ∨ q = 4) with rfl | rfl | rfl | rfl | rfl
 . cases hL : aP l 3 8 with
   | none =>
     rw [fc (q := 0) (by decide) hL]
     repeat' ((conv => whnf); first | apply ab | apply ax | (apply aV <;> intro h))
     all_goals try conv => whnf
     all_goals try (refine a7.mk ?_; try dsimp only)
     all_goals (try simp only [bn, hL, Option.isSome_none] at *)
     all_goals first
      | (show a6 _ _ _ _ _ _
         refine a6.mk [] ?_ <;> (repeat' first | trivial)
         done)
      | (exfalso; simp_all; done)
      | exact ⟨bz l, trivial⟩
      | trivial
      | omega
      | skip
   | some f =>
     rw [fe (q := 0) (by decide) hL]
     repeat' ((conv => whnf); first | apply ab | apply ax | (apply aV <;> intro h))
     all_goals try conv => whnf
     all_goals try (refine a7.mk ?_; try dsimp only)
     all_goals (try simp only [bn, hL, Option.isSome_some, bk, Option.getD_some] at *)
     all_goals first
      | (show a6 _ _ _ _ _ _
         refine a6.mk [] ?_ <;> (repeat' first | trivial)
         done)
      | (exfalso; simp_all; done)
      | exact ⟨bz l, trivial⟩
      | trivial
      | omega
      | skip
 . cases hL : aP l 4 7 with
   | none =>
     rw [fc (q := 1) (by decide) hL]
     repeat' ((conv => whnf); first | apply ab | apply ax | (apply aV <;> intro h))
     all_goals try conv => whnf
     all_goals try (refine a7.mk ?_; try dsimp only)
     all_goals (try simp only [bn, hL, Option.isSome_none] at *)
     all_goals first
      | (show a6 _ _ _ _ _ _
         refine a6.mk [] ?_ <;> (repeat' first | trivial)
         done)
      | (exfalso; simp_all; done)
      | exact ⟨bz l, trivial⟩
      | trivial
      | omega
      | skip
   | some f =>
     rw [fe (q := 1) (by decide) hL]
     repeat' ((conv => whnf); first | apply ab | apply ax | (apply aV <;> intro h))
     all_goals try conv => whnf
     all_goals try (refine a7.mk ?_; try dsimp only)
     all_goals (try simp only [bn, hL, Option.isSome_some, bk, Option.getD_some] at *)
     all_goals first
      | (show a6 _ _ _ _ _ _
         refine a6.mk [] ?_ <;> (repeat' first | trivial)
         done)
      | (exfalso; simp_all; done)
      | exact ⟨bz l, trivial⟩
      | trivial
      | omega
      | skip
 . cases hL : aP l 5 1 with
   | none =>
     rw [fc (q := 2) (by decide) hL]
     repeat' ((conv => whnf); first | apply ab | apply ax | (apply aV <;> intro h))
     all_goals try conv => whnf
     all_goals try (refine a7.mk ?_; try dsimp only)
     all_goals (try simp only [bn, hL, Option.isSome_none] at *)
     all_goals first
      | (show a6 _ _ _ _ _ _
         refine a6.mk [] ?_ <;> (repeat' first | trivial)
         done)
      | (exfalso; simp_all; done)
      | exact ⟨bz l, trivial⟩
      | trivial
      | omega
      | skip
   | some f =>
     rw [fe (q := 2) (by decide) hL]
     repeat' ((conv => whnf); first | apply ab | apply ax | (apply aV <;> intro h))
     all_goals try conv => whnf
     all_goals try (refine a7.mk ?_; try dsimp only)
     all_goals (try simp only [bn, hL, Option.isSome_some, bk, Option.getD_some] at *)
     all_goals first
      | (show a6 _ _ _ _ _ _
         refine a6.mk [] ?_ <;> (repeat' first | trivial)
         done)
      | (exfalso; simp_all; done)
      | exact ⟨bz l, trivial⟩
      | trivial
      | omega
      | skip
 . cases hL : aP l 6 6 with
   | none =>
     rw [fc (q := 3) (by decide) hL]
     repeat' ((conv => whnf); first | apply ab | apply ax | (apply aV <;> intro h))
     all_goals try conv => whnf
     all_goals try (refine a7.mk ?_; try dsimp only)
     all_goals (try simp only [bn, hL, Option.isSome_none] at *)
     all_goals first
      | (show a6 _ _ _ _ _ _
         refine a6.mk [] ?_ <;> (repeat' first | trivial)
         done)
      | (exfalso; simp_all; done)
      | exact ⟨bz l, trivial⟩
      | trivial
      | omega
      | skip
   | some f =>
     rw [fe (q := 3) (by decide) hL]
     repeat' ((conv => whnf); first | apply ab | apply ax | (apply aV <;> intro h))
     all_goals try conv => whnf
     all_goals try (refine a7.mk ?_; try dsimp only)
     all_goals (try simp only [bn, hL, Option.isSome_some, bk, Option.getD_some] at *)
     all_goals first
      | (show a6 _ _ _ _ _ _
         refine a6.mk [] ?_ <;> (repeat' first | trivial)
         done)
      | (exfalso; simp_all; done)
      | exact ⟨bz l, trivial⟩
      | trivial
      | omega
      | skip
 . cases hL : aP l 7 8 with
   | none =>
     rw [fc (q := 4) (by decide) hL]
     repeat' ((conv => whnf); first | apply ab | apply ax | (apply aV <;> intro h))
     all_goals try conv => whnf
     all_goals try (refine a7.mk ?_; try dsimp only)
     all_goals (try simp only [bn, hL, Option.isSome_none] at *)
     all_goals first
      | (show a6 _ _ _ _ _ _
         refine a6.mk [] ?_ <;> (repeat' first | trivial)
         done)
      | (exfalso; simp_all; done)
      | exact ⟨bz l, trivial⟩
      | trivial
      | omega
      | skip
   | some f =>
     rw [fe (q := 4) (by decide) hL]
     repeat' ((conv => whnf); first | apply ab | apply ax | (apply aV <;> intro h))
     all_goals try conv => whnf
     all_goals try (refine a7.mk ?_; try dsimp only)
     all_goals (try simp only [bn, hL, Option.isSome_some, bk, Option.getD_some] at *)
     all_goals first
      | (show a6 _ _ _ _ _ _
         refine a6.mk [] ?_ <;> (repeat' first | trivial)
         done)
      | (exfalso; simp_all; done)
      | exact ⟨bz l, trivial⟩
      | trivial
      | omega
      | skip
def tQ : Sm := fun args σ => match args, σ with
 | [.list false 6 l_l, .int .i64 q], [] => some (l_l = (l_l.map bh).map bE ∧ (True), .tuple [lL (dR (l_l.map bh) q).1, .int .i64 (dR (l_l.map bh) q).2], none)
 | _, _ => none
theorem EE : a9 30 tQ := by
 intro args sg pre x r he hp
 unfold tQ at he
 split at he <;> cases he
 . rw [jd (hp).1]; exact Cr (hp := hp.2) ..
theorem wc (s : List UInt8) (d : Int) (hp : 0 ≤ d ∧ s.length ≤ 1000000000) : OK 7 ([.str s, .int .i64 d]) ([]) (.tuple [eL (cC d s).1, .int .i64 (cC d s).2]) (none) := by
  refine ah (C := cx [(10, qk), (29, ld), (30, tQ)]) (ai ⟨wZ, nz, EE, trivial⟩) (fn := Tryz.f7) rfl rfl rfl rfl fun hw hs => ?_
  by_cases hc : (aW d s).1 = 0
  . rw [yx hc]
    have hsh := l7 d s
    cases h1 : aP (aW d s).2.2 1 8 with
    | none =>
      rw [zu h1]
      repeat' ((conv => whnf); first | apply ab | apply ax | ((first | apply ae | apply aV) <;> intro h))
      all_goals try conv => whnf
      all_goals try (refine a7.mk ?_; try dsimp only)
      all_goals (try simp only [bn, h1, Option.isSome_none, bk, Option.getD_none] at *)
      all_goals first
       | exact ⟨trivial, trivial⟩
       | exact ⟨hp.1, hp.2⟩
       | exact ⟨bz _, trivial⟩
       | (show a6 _ _ _ _ _ _
          refine a6.mk [] ?_ <;> (repeat' first | trivial)
          done)
       | (exfalso; simp_all; done)
       | (exfalso; omega)
       | skip
    | some f1 =>
      cases h2 : aP (aW d s).2.2 2 5 with
      | none =>
        rw [zv h2]
        repeat' ((conv => whnf); first | apply ab | apply ax | ((first | apply ae | apply aV) <;> intro h))
        all_goals try conv => whnf
        all_goals try (refine a7.mk ?_; try dsimp only)
        all_goals (try simp only [bn, h1, h2, Option.isSome_none, Option.isSome_some, bk, Option.getD_none, Option.getD_some] at *)
        all_goals first
         | exact ⟨trivial, trivial⟩
         | exact ⟨hp.1, hp.2⟩
         | exact ⟨bz _, trivial⟩
         | (show a6 _ _ _ _ _ _
            refine a6.mk [] ?_ <;> (repeat' first | trivial)
            done)
         | (exfalso; simp_all; done)
         | (exfalso; omega)
         | skip
      | some f2 =>
        by_cases h3 : (dR (aW d s).2.2 f2.num).2 = 0
        . rw [mL h1 h2 h3]
          repeat' ((conv => whnf); first | apply ab | apply ax | ((first | apply ae | apply aV) <;> intro h))
          all_goals try conv => whnf
          all_goals try (refine a7.mk ?_; try dsimp only)
          all_goals (try simp only [bn, h1, h2, h3, Option.isSome_none, Option.isSome_some, bk, Option.getD_none, Option.getD_some] at *)
          all_goals first
           | exact ⟨trivial, trivial⟩
           | exact ⟨hp.1, hp.2⟩
           | exact ⟨bz _, trivial⟩
           | (show a6 _ _ _ _ _ _
              refine a6.mk [] ?_ <;> (repeat' first | trivial)
              done)
           | (exfalso; simp_all; done)
           | (exfalso; omega)
           | skip
        . rw [ll h1 h2 h3]
          repeat' ((conv => whnf); first | apply ab | apply ax | ((first | apply ae | apply aV) <;> intro h))
          all_goals try conv => whnf
          all_goals try (refine a7.mk ?_; try dsimp only)
          all_goals (try simp only [bn, h1, h2, Option.isSome_none, Option.isSome_some, bk, Option.getD_none, Option.getD_some] at *)
          all_goals first
           | exact ⟨trivial, trivial⟩
           | exact ⟨hp.1, hp.2⟩
           | exact ⟨bz _, trivial⟩
           | (show a6 _ _ _ _ _ _
              refine a6.mk [] ?_ <;> (repeat' first | trivial)
              done)
           | (exfalso; simp_all; done)
           | (exfalso; omega)
           | skip
  . rw [yw hc]
    repeat' ((conv => whnf); first | apply ab | apply ax | ((first | apply ae | apply aV) <;> intro h))
    all_goals try conv => whnf
    all_goals try (refine a7.mk ?_; try dsimp only)
    all_goals (try simp only [bn] at *)
    all_goals first
     | exact ⟨trivial, trivial⟩
     | exact ⟨hp.1, hp.2⟩
     | exact ⟨bz _, trivial⟩
     | (show a6 _ _ _ _ _ _
        refine a6.mk [] ?_ <;> (repeat' first | trivial)
        done)
     | (exfalso; simp_all; done)
     | (exfalso; omega)
     | skip
def qw : Sm := fun args σ => match args, σ with
 | [.str s, .int .i64 d], [] => some (0 ≤ d ∧ s.length ≤ 1000000000, .tuple [eL (cC d s).1, .int .i64 (cC d s).2], none)
 | _, _ => none
theorem xg : a9 7 qw := by
 intro args sg pre x r he hp
 unfold qw at he
 split at he <;> cases he
 . exact wc (hp := hp) ..
theorem D6 (s : List UInt8) (d : Int) (hp : 0 ≤ d ∧ s.length ≤ 1000000000) : OK 8 ([.str s, .int .i64 d]) ([]) (.tuple [eL (cC d s).1, .int .i64 (cC d s).2]) (none) := by
  refine ah (C := cx [(11, qq), (31, mG)]) (ai ⟨xc, pJ, trivial⟩) (fn := Tryz.f8) rfl rfl rfl rfl fun hw hs => ?_
  by_cases hc : (aW d s).1 = 0
  . rw [yx hc]
    have hsh := l7 d s
    cases h1 : aP (aW d s).2.2 1 8 with
    | none =>
      rw [zu h1]
      repeat' ((conv => whnf); first | apply ab | apply ax | ((first | apply ae | apply aV) <;> intro h))
      all_goals try conv => whnf
      all_goals try (refine a7.mk ?_; try dsimp only)
      all_goals (try simp only [bn, h1, Option.isSome_none, bk, Option.getD_none] at *)
      all_goals first
       | exact ⟨trivial, trivial⟩
       | exact ⟨hp.1, hp.2⟩
       | exact ⟨bz _, trivial⟩
       | (show a6 _ _ _ _ _ _
          refine a6.mk [] ?_ <;> (repeat' first | trivial)
          done)
       | (exfalso; simp_all; done)
       | (exfalso; omega)
       | skip
    | some f1 =>
      cases h2 : aP (aW d s).2.2 2 5 with
      | none =>
        rw [zv h2]
        repeat' ((conv => whnf); first | apply ab | apply ax | ((first | apply ae | apply aV) <;> intro h))
        all_goals try conv => whnf
        all_goals try (refine a7.mk ?_; try dsimp only)
        all_goals (try simp only [bn, h1, h2, Option.isSome_none, Option.isSome_some, bk, Option.getD_none, Option.getD_some] at *)
        all_goals first
         | exact ⟨trivial, trivial⟩
         | exact ⟨hp.1, hp.2⟩
         | exact ⟨bz _, trivial⟩
         | (show a6 _ _ _ _ _ _
            refine a6.mk [] ?_ <;> (repeat' first | trivial)
            done)
         | (exfalso; simp_all; done)
         | (exfalso; omega)
         | skip
      | some f2 =>
        by_cases hq5 : f2.num < 0 ∨ f2.num ≥ 5
        . rw [ll h1 h2 (by rw [uo hq5]; exact (by decide : (7 : Int) ≠ 0)), uo hq5]
          repeat' ((conv => whnf); first | apply ab | apply ax | ((first | apply ae | apply aV) <;> intro h))
          all_goals try conv => whnf
          all_goals try (refine a7.mk ?_; try dsimp only)
          all_goals (try simp only [bn, h1, h2, Option.isSome_none, Option.isSome_some, bk, Option.getD_none, Option.getD_some] at *)
          all_goals first
           | exact ⟨trivial, trivial⟩
           | exact ⟨hp.1, hp.2⟩
           | exact ⟨bz _, trivial⟩
           | (show a6 _ _ _ _ _ _
              refine a6.mk [] ?_ <;> (repeat' first | trivial | apply ak | apply dp | apply az | apply dq | apply bT | apply bo)
              done)
           | (exfalso; simp_all; done)
           | (exfalso; omega)
           | skip
        rcases (by omega : f2.num = 0 ∨ f2.num = 1 ∨ f2.num = 2 ∨ f2.num = 3 ∨ f2.num = 4) with hq | hq | hq | hq | hq
        . cases h3 : aP (aW d s).2.2 3 8 with
          | none =>
            rw [ll h1 h2 (by rw [hq, fc (q := 0) (by decide) h3]; exact (by decide : (9 : Int) ≠ 0)), hq, fc (q := 0) (by decide) h3]
            repeat' ((conv => whnf); first | apply ab | apply ax | ((first | apply ae | apply aV) <;> intro h))
            all_goals try conv => whnf
            all_goals try (refine a7.mk ?_; try dsimp only)
            all_goals (try simp only [bn, h1, h2, h3, hq, Option.isSome_none, Option.isSome_some, bk, Option.getD_none, Option.getD_some] at *)
            all_goals first
             | exact ⟨trivial, trivial⟩
             | exact ⟨hp.1, hp.2⟩
             | exact ⟨bz _, trivial⟩
             | (show a6 _ _ _ _ _ _
                refine a6.mk [] ?_ <;> (repeat' first | trivial)
                done)
             | (exfalso; simp_all; done)
             | (exfalso; omega)
             | skip
          | some f =>
            have hx := nL (l7 d s) (by decide) h3
            have ht := hx.1.t
            have hd7 := hx.1.d
            have hn := hx.1.n
            rw [mL h1 h2 (by rw [hq, fe (q := 0) (by decide) h3]), hq, fe (q := 0) (by decide) h3]
            repeat' ((conv => whnf); first | apply ab | apply ax | ((first | apply ae | apply aV) <;> intro h))
            all_goals try conv => whnf
            all_goals try (refine a7.mk ?_; try dsimp only)
            all_goals (try simp only [bn, h1, h2, h3, hq, Option.isSome_none, Option.isSome_some, bk, Option.getD_none, Option.getD_some] at *)
            all_goals try
             (show a6 _ _ _ _ _ _
              refine a6.mk [] ?_ <;> (repeat' first | trivial | apply ak | apply az | apply dq | apply bT | apply bo)
              all_goals first
               | rfl
               | exact (ht (by omega)).1.symm
               | exact (ht (by omega)).2.symm
               | exact (hd7 (by omega)).1.symm
               | exact (hd7 (by omega)).2.symm
               | exact (hn (by omega)).1.symm
               | exact (hn (by omega)).2.symm
              done)
            all_goals first
             | exact ⟨trivial, trivial⟩
             | exact ⟨hp.1, hp.2⟩
             | exact ⟨bz _, trivial⟩
             | (show a6 _ _ _ _ _ _
                refine a6.mk [] ?_
                done)
             | (exfalso; simp_all; done)
             | (exfalso; omega)
             | skip
        . cases h3 : aP (aW d s).2.2 4 7 with
          | none =>
            rw [ll h1 h2 (by rw [hq, fc (q := 1) (by decide) h3]; exact (by decide : (9 : Int) ≠ 0)), hq, fc (q := 1) (by decide) h3]
            repeat' ((conv => whnf); first | apply ab | apply ax | ((first | apply ae | apply aV) <;> intro h))
            all_goals try conv => whnf
            all_goals try (refine a7.mk ?_; try dsimp only)
            all_goals (try simp only [bn, h1, h2, h3, hq, Option.isSome_none, Option.isSome_some, bk, Option.getD_none, Option.getD_some] at *)
            all_goals first
             | exact ⟨trivial, trivial⟩
             | exact ⟨hp.1, hp.2⟩
             | exact ⟨bz _, trivial⟩
             | (show a6 _ _ _ _ _ _
                refine a6.mk [] ?_ <;> (repeat' first | trivial)
                done)
             | (exfalso; simp_all; done)
             | (exfalso; omega)
             | skip
          | some f =>
            have hx := nL (l7 d s) (by decide) h3
            have ht := hx.1.t
            have hd7 := hx.1.d
            have hn := hx.1.n
            rw [mL h1 h2 (by rw [hq, fe (q := 1) (by decide) h3]), hq, fe (q := 1) (by decide) h3]
            repeat' ((conv => whnf); first | apply ab | apply ax | ((first | apply ae | apply aV) <;> intro h))
            all_goals try conv => whnf
            all_goals try (refine a7.mk ?_; try dsimp only)
            all_goals (try simp only [bn, h1, h2, h3, hq, Option.isSome_none, Option.isSome_some, bk, Option.getD_none, Option.getD_some] at *)
            all_goals try
             (show a6 _ _ _ _ _ _
              refine a6.mk [] ?_ <;> (repeat' first | trivial | apply ak | apply dp | apply az | apply dq | apply bT | apply bo)
              all_goals first
               | rfl
               | exact (ht (by omega)).1.symm
               | exact (ht (by omega)).2.symm
               | exact (hd7 (by omega)).1.symm
               | exact (hd7 (by omega)).2.symm
               | exact (hn (by omega)).1.symm
               | exact (hn (by omega)).2.symm
              done)
            all_goals first
             | exact ⟨trivial, trivial⟩
             | exact ⟨hp.1, hp.2⟩
             | exact ⟨bz _, trivial⟩
             | (show a6 _ _ _ _ _ _
                refine a6.mk [] ?_
                done)
             | (exfalso; simp_all; done)
             | (exfalso; omega)
             | skip
        . cases h3 : aP (aW d s).2.2 5 1 with
          | none =>
            rw [ll h1 h2 (by rw [hq, fc (q := 2) (by decide) h3]; exact (by decide : (9 : Int) ≠ 0)), hq, fc (q := 2) (by decide) h3]
            repeat' ((conv => whnf); first | apply ab | apply ax | ((first | apply ae | apply aV) <;> intro h))
            all_goals try conv => whnf
            all_goals try (refine a7.mk ?_; try dsimp only)
            all_goals (try simp only [bn, h1, h2, h3, hq, Option.isSome_none, Option.isSome_some, bk, Option.getD_none, Option.getD_some] at *)
            all_goals first
             | exact ⟨trivial, trivial⟩
             | exact ⟨hp.1, hp.2⟩
             | exact ⟨bz _, trivial⟩
             | (show a6 _ _ _ _ _ _
                refine a6.mk [] ?_ <;> (repeat' first | trivial)
                done)
             | (exfalso; simp_all; done)
             | (exfalso; omega)
             | skip
          | some f =>
            have hx := nL (l7 d s) (by decide) h3
            have ht := hx.1.t
            have hd7 := hx.1.d
            have hn := hx.1.n
            rw [mL h1 h2 (by rw [hq, fe (q := 2) (by decide) h3]), hq, fe (q := 2) (by decide) h3]
            repeat' ((conv => whnf); first | apply ab | apply ax | ((first | apply ae | apply aV) <;> intro h))
            all_goals try conv => whnf
            all_goals try (refine a7.mk ?_; try dsimp only)
            all_goals (try simp only [bn, h1, h2, h3, hq, Option.isSome_none, Option.isSome_some, bk, Option.getD_none, Option.getD_some] at *)
            all_goals try
             (show a6 _ _ _ _ _ _
              refine a6.mk [] ?_ <;> (repeat' first | trivial | apply ak | apply dp | apply az | apply dq | apply bT | apply bo)
              all_goals first
               | rfl
               | exact (ht (by omega)).1.symm
               | exact (ht (by omega)).2.symm
               | exact (hd7 (by omega)).1.symm
               | exact (hd7 (by omega)).2.symm
               | exact (hn (by omega)).1.symm
               | exact (hn (by omega)).2.symm
              done)
            all_goals first
             | exact ⟨trivial, trivial⟩
             | exact ⟨hp.1, hp.2⟩
             | exact ⟨bz _, trivial⟩
             | (show a6 _ _ _ _ _ _
                refine a6.mk [] ?_
                done)
             | (exfalso; simp_all; done)
             | (exfalso; omega)
             | skip
        . cases h3 : aP (aW d s).2.2 6 6 with
          | none =>
            rw [ll h1 h2 (by rw [hq, fc (q := 3) (by decide) h3]; exact (by decide : (9 : Int) ≠ 0)), hq, fc (q := 3) (by decide) h3]
            repeat' ((conv => whnf); first | apply ab | apply ax | ((first | apply ae | apply aV) <;> intro h))
            all_goals try conv => whnf
            all_goals try (refine a7.mk ?_; try dsimp only)
            all_goals (try simp only [bn, h1, h2, h3, hq, Option.isSome_none, Option.isSome_some, bk, Option.getD_none, Option.getD_some] at *)
            all_goals first
             | exact ⟨trivial, trivial⟩
             | exact ⟨hp.1, hp.2⟩
             | exact ⟨bz _, trivial⟩
             | (show a6 _ _ _ _ _ _
                refine a6.mk [] ?_ <;> (repeat' first | trivial)
                done)
             | (exfalso; simp_all; done)
             | (exfalso; omega)
             | skip
          | some f =>
            have hx := nL (l7 d s) (by decide) h3
            have ht := hx.1.t
            have hd7 := hx.1.d
            have hn := hx.1.n
            rw [mL h1 h2 (by rw [hq, fe (q := 3) (by decide) h3]), hq, fe (q := 3) (by decide) h3]
            repeat' ((conv => whnf); first | apply ab | apply ax | ((first | apply ae | apply aV) <;> intro h))
            all_goals try conv => whnf
            all_goals try (refine a7.mk ?_; try dsimp only)
            all_goals (try simp only [bn, h1, h2, h3, hq, Option.isSome_none, Option.isSome_some, bk, Option.getD_none, Option.getD_some] at *)
            all_goals try
             (show a6 _ _ _ _ _ _
              refine a6.mk [] ?_ <;> (repeat' first | trivial | apply ak | apply dp | apply az | apply dq | apply bT | apply bo)
              all_goals first
               | rfl
               | exact (ht (by omega)).1.symm
               | exact (ht (by omega)).2.symm
               | exact (hd7 (by omega)).1.symm
               | exact (hd7 (by omega)).2.symm
               | exact (hn (by omega)).1.symm
               | exact (hn (by omega)).2.symm
              done)
            all_goals first
             | exact ⟨trivial, trivial⟩
             | exact ⟨hp.1, hp.2⟩
             | exact ⟨bz _, trivial⟩
             | (show a6 _ _ _ _ _ _
                refine a6.mk [] ?_
                done)
             | (exfalso; simp_all; done)
             | (exfalso; omega)
             | skip
        . cases h3 : aP (aW d s).2.2 7 8 with
          | none =>
            rw [ll h1 h2 (by rw [hq, fc (q := 4) (by decide) h3]; exact (by decide : (9 : Int) ≠ 0)), hq, fc (q := 4) (by decide) h3]
            repeat' ((conv => whnf); first | apply ab | apply ax | ((first | apply ae | apply aV) <;> intro h))
            all_goals try conv => whnf
            all_goals try (refine a7.mk ?_; try dsimp only)
            all_goals (try simp only [bn, h1, h2, h3, hq, Option.isSome_none, Option.isSome_some, bk, Option.getD_none, Option.getD_some] at *)
            all_goals first
             | exact ⟨trivial, trivial⟩
             | exact ⟨hp.1, hp.2⟩
             | exact ⟨bz _, trivial⟩
             | (show a6 _ _ _ _ _ _
                refine a6.mk [] ?_ <;> (repeat' first | trivial)
                done)
             | (exfalso; simp_all; done)
             | (exfalso; omega)
             | skip
          | some f =>
            have hx := nL (l7 d s) (by decide) h3
            have ht := hx.1.t
            have hd7 := hx.1.d
            have hn := hx.1.n
            rw [mL h1 h2 (by rw [hq, fe (q := 4) (by decide) h3]), hq, fe (q := 4) (by decide) h3]
            repeat' ((conv => whnf); first | apply ab | apply ax | ((first | apply ae | apply aV) <;> intro h))
            all_goals try conv => whnf
            all_goals try (refine a7.mk ?_; try dsimp only)
            all_goals (try simp only [bn, h1, h2, h3, hq, Option.isSome_none, Option.isSome_some, bk, Option.getD_none, Option.getD_some] at *)
            all_goals try
             (show a6 _ _ _ _ _ _
              refine a6.mk [] ?_ <;> (repeat' first | trivial | apply ak | apply az | apply dq | apply bT | apply bo)
              all_goals first
               | rfl
               | exact (ht (by omega)).1.symm
               | exact (ht (by omega)).2.symm
               | exact (hd7 (by omega)).1.symm
               | exact (hd7 (by omega)).2.symm
               | exact (hn (by omega)).1.symm
               | exact (hn (by omega)).2.symm
              done)
            all_goals first
             | exact ⟨trivial, trivial⟩
             | exact ⟨hp.1, hp.2⟩
             | exact ⟨bz _, trivial⟩
             | (show a6 _ _ _ _ _ _
                refine a6.mk [] ?_
                done)
             | (exfalso; simp_all; done)
             | (exfalso; omega)
             | skip
  . rw [yw hc]
    repeat' ((conv => whnf); first | apply ab | apply ax | ((first | apply ae | apply aV) <;> intro h))
    all_goals try conv => whnf
    all_goals try (refine a7.mk ?_; try dsimp only)
    all_goals (try simp only [bn] at *)
    all_goals first
     | exact ⟨trivial, trivial⟩
     | exact ⟨hp.1, hp.2⟩
     | exact ⟨bz _, trivial⟩
     | (show a6 _ _ _ _ _ _
        refine a6.mk [] ?_ <;> (repeat' first | trivial)
        done)
     | (exfalso; simp_all; done)
     | (exfalso; omega)
     | skip
def qI : Sm := fun args σ => match args, σ with
 | [.str s, .int .i64 d], [] => some (0 ≤ d ∧ s.length ≤ 1000000000, .tuple [eL (cC d s).1, .int .i64 (cC d s).2], none)
 | _, _ => none
theorem xw : a9 8 qI := by
 intro args sg pre x r he hp
 unfold qI at he
 split at he <;> cases he
 . exact D6 (hp := hp) ..
end Go.Proofs.YtipejldppicijaaGreatDoor
