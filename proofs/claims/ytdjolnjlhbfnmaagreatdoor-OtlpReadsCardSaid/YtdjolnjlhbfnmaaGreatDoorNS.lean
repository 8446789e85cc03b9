/-
  A part of the proof.
-/
import Derived.Test.YtdjolnjlhbfnmaaGreatDoorNQ
import Derived.Test.YtdjolnjlhbfnmaaGreatDoorNM
set_option linter.unusedSimpArgs false
set_option linter.unusedVariables false
set_option maxHeartbeats 4000000
namespace Go.Proofs.YtdjolnjlhbfnmaaGreatDoor
open Go Go.VG
set_option maxRecDepth 100000
def cpI (s : List UInt8) (i j : Nat) : Int := if j < i then (s.getD j 0).toNat else 0
abbrev dU (s : List UInt8) (i j : Nat) : V := .int .u8 (cpI s i j)
abbrev cp8 (s : List UInt8) (i : Nat) : List V := [dU s i 0, dU s i 1, dU s i 2, dU s i 3, dU s i 4, dU s i 5, dU s i 6, dU s i 7]
theorem K0 (no : Int) (l : List V) (hp : (∃ a : List Pf, l = a.map av) ∧ l.length ≤ 1000000) (s : List UInt8) (hS : (aQ (ar (aD no 2) (l.map aS))).text = s) (hl : s.length ≤ 9000) :
   OK 102 [.buf 0, .int .i64 no] [.buf 4 0 l] (.tuple [.agg (cp8 s (min s.length 8)), .bool (decide (s.length = 8))]) none := by
 refine al (C := cx [(64, nr)]) (aq ⟨pX, trivial⟩) (fn := Tryz.f102) rfl rfl rfl rfl fun hw _ => ?_
 repeat' ((conv => whnf); apply aj)
 all_goals try conv => whnf
 all_goals try (refine ae.mk ?_; try dsimp only)
 . exact hp
 rw [hS]
 refine aT.mk Nat (fun i => i ≤ 8 ∧ i ≤ s.length) (fun i => ⟨35, [(4, .ptr 1 0), (6, .str s), (8, .ptr 2 0), (9, .int .i64 i)], [.buf 4 0 l, .cells [.int .u8 0, .int .u8 0, .int .u8 0, .int .u8 0, .int .u8 0, .int .u8 0, .int .u8 0, .int .u8 0], .cells (cp8 s i)], []⟩) (fun i => 8 - i) [] 0 ⟨Nat.zero_le _, Nat.zero_le _⟩ ?_ (fun i ⟨hi, hi2⟩ _ _ => ?_)
 . refine Go.VG.Sub.mk rfl ?_ ?_ ?_ ?_ <;> (repeat' first | trivial)
 obtain ⟨m, hm⟩ : ∃ m, m = i + 1 := ⟨_, rfl⟩
 have h8 : i = 0 ∨ i = 1 ∨ i = 2 ∨ i = 3 ∨ i = 4 ∨ i = 5 ∨ i = 6 ∨ i = 7 ∨ i = 8 := by omega
 rcases h8 with rfl | rfl | rfl | rfl | rfl | rfl | rfl | rfl | rfl
 all_goals
  repeat' ((conv => whnf); first | apply aj | (apply aw <;> intro h) | with_reducible refine goD ?_ fun hc => ?_)
  all_goals try conv => whnf
  all_goals try (refine ae.mk ?_; try dsimp only)
  all_goals try first
   | omega
   | (exact ⟨by omega, by omega⟩)
  all_goals try
   (refine ⟨[], m, ⟨by omega, by omega⟩, ?_, by omega⟩
    subst hm
    refine Go.VG.Sub.mk rfl ?_ ?_ ?_ ?_ <;> (repeat' first | trivial)
    done)
 all_goals
  first
   | rw [show min s.length 8 = 0 by omega]
   | rw [show min s.length 8 = 1 by omega]
   | rw [show min s.length 8 = 2 by omega]
   | rw [show min s.length 8 = 3 by omega]
   | rw [show min s.length 8 = 4 by omega]
   | rw [show min s.length 8 = 5 by omega]
   | rw [show min s.length 8 = 6 by omega]
   | rw [show min s.length 8 = 7 by omega]
   | rw [show min s.length 8 = 8 by omega]
  refine af.mk [] ?_ <;> (repeat' first | trivial | apply ax | apply cR | apply cJ | apply bE)
  exact decide_eq_decide.2 (by omega)
abbrev vW (s : List UInt8) (i : Nat) : List V := [dU s i 0, dU s i 1, dU s i 2, dU s i 3, dU s i 4, dU s i 5, dU s i 6, dU s i 7, dU s i 8, dU s i 9, dU s i 10, dU s i 11, dU s i 12, dU s i 13, dU s i 14, dU s i 15]
theorem K4 (no : Int) (l : List V) (hp : (∃ a : List Pf, l = a.map av) ∧ l.length ≤ 1000000) (s : List UInt8) (hS : (aQ (ar (aD no 2) (l.map aS))).text = s) (hl : s.length ≤ 9000) :
   OK 101 [.buf 0, .int .i64 no] [.buf 4 0 l] (.tuple [.agg (vW s (min s.length 16)), .bool (decide (s.length = 16))]) none := by
 refine al (C := cx [(64, nr)]) (aq ⟨pX, trivial⟩) (fn := Tryz.f101) rfl rfl rfl rfl fun hw _ => ?_
 repeat' ((conv => whnf); apply aj)
 all_goals try conv => whnf
 all_goals try (refine ae.mk ?_; try dsimp only)
 . exact hp
 rw [hS]
 refine aT.mk Nat (fun i => i ≤ 16 ∧ i ≤ s.length) (fun i => ⟨35, [(4, .ptr 1 0), (6, .str s), (8, .ptr 2 0), (9, .int .i64 i)], [.buf 4 0 l, .cells [.int .u8 0, .int .u8 0, .int .u8 0, .int .u8 0, .int .u8 0, .int .u8 0, .int .u8 0, .int .u8 0, .int .u8 0, .int .u8 0, .int .u8 0, .int .u8 0, .int .u8 0, .int .u8 0, .int .u8 0, .int .u8 0], .cells (vW s i)], []⟩) (fun i => 16 - i) [] 0 ⟨Nat.zero_le _, Nat.zero_le _⟩ ?_ (fun i ⟨hi, hi2⟩ _ _ => ?_)
 . refine Go.VG.Sub.mk rfl ?_ ?_ ?_ ?_ <;> (repeat' first | trivial)
 obtain ⟨m, hm⟩ : ∃ m, m = i + 1 := ⟨_, rfl⟩
 have h8 : i = 0 ∨ i = 1 ∨ i = 2 ∨ i = 3 ∨ i = 4 ∨ i = 5 ∨ i = 6 ∨ i = 7 ∨ i = 8 ∨ i = 9 ∨ i = 10 ∨ i = 11 ∨ i = 12 ∨ i = 13 ∨ i = 14 ∨ i = 15 ∨ i = 16 := by omega
 rcases h8 with rfl | rfl | rfl | rfl | rfl | rfl | rfl | rfl | rfl | rfl | rfl | rfl | rfl | rfl | rfl | rfl | rfl
 all_goals
  repeat' ((conv => whnf); first | apply aj | (apply aw <;> intro h) | with_reducible refine goD ?_ fun hc => ?_)
  all_goals try conv => whnf
  all_goals try (refine ae.mk ?_; try dsimp only)
  all_goals try first
   | omega
   | (exact ⟨by omega, by omega⟩)
  all_goals try
   (refine ⟨[], m, ⟨by omega, by omega⟩, ?_, by omega⟩
    subst hm
    refine Go.VG.Sub.mk rfl ?_ ?_ ?_ ?_ <;> (repeat' first | trivial)
    done)
 all_goals
  first
   | rw [show min s.length 16 = 0 by omega]
   | rw [show min s.length 16 = 1 by omega]
   | rw [show min s.length 16 = 2 by omega]
   | rw [show min s.length 16 = 3 by omega]
   | rw [show min s.length 16 = 4 by omega]
   | rw [show min s.length 16 = 5 by omega]
   | rw [show min s.length 16 = 6 by omega]
   | rw [show min s.length 16 = 7 by omega]
   | rw [show min s.length 16 = 8 by omega]
   | rw [show min s.length 16 = 9 by omega]
   | rw [show min s.length 16 = 10 by omega]
   | rw [show min s.length 16 = 11 by omega]
   | rw [show min s.length 16 = 12 by omega]
   | rw [show min s.length 16 = 13 by omega]
   | rw [show min s.length 16 = 14 by omega]
   | rw [show min s.length 16 = 15 by omega]
   | rw [show min s.length 16 = 16 by omega]
  refine af.mk [] ?_ <;> (repeat' first | trivial | apply ax | apply cR | apply cJ | apply bE)
  exact decide_eq_decide.2 (by omega)
def qy : Sm := fun args σ => match args, σ with
 | [.buf 0, .int .i64 no], [.buf 4 0 l] => some (((∃ a : List Pf, l = a.map av) ∧ l.length ≤ 1000000) ∧ (aQ (ar (aD no 2) (l.map aS))).text.length ≤ 9000,
  .tuple [.agg (cp8 (aQ (ar (aD no 2) (l.map aS))).text (min (aQ (ar (aD no 2) (l.map aS))).text.length 8)), .bool (decide ((aQ (ar (aD no 2) (l.map aS))).text.length = 8))], none)
 | _, _ => none
-- #name r36span truchmanref36.span
theorem tS : au 102 qy := by
 intro args sg pre x r he hp
 unfold qy at he
 split at he <;> cases he
 exact K0 _ _ hp.1 _ rfl hp.2
def qz : Sm := fun args σ => match args, σ with
 | [.buf 0, .int .i64 no], [.buf 4 0 l] => some (((∃ a : List Pf, l = a.map av) ∧ l.length ≤ 1000000) ∧ (aQ (ar (aD no 2) (l.map aS))).text.length ≤ 9000,
  .tuple [.agg (vW (aQ (ar (aD no 2) (l.map aS))).text (min (aQ (ar (aD no 2) (l.map aS))).text.length 16)), .bool (decide ((aQ (ar (aD no 2) (l.map aS))).text.length = 16))], none)
 | _, _ => none
-- #name r36trace truchmanref36.trace
theorem tT : au 101 qz := by
 intro args sg pre x r he hp
 unfold qz at he
 split at he <;> cases he
 exact K4 _ _ hp.1 _ rfl hp.2
end Go.Proofs.YtdjolnjlhbfnmaaGreatDoor
namespace Go.Proofs.YtdjolnjlhbfnmaaGreatDoor
open Go Go.VG
set_option maxRecDepth 100000
theorem l6 {no : Int} {s : List UInt8} : (tx no s).length ≤ s.length := by
 unfold tx
 by_cases h : ar (aD no 2) (aF s) = []
 . rw [h]; exact Nat.zero_le _
 . exact (fits s).t _ _ (xa h)
theorem ib (no : Int) (s : List UInt8) : (aQ (ar (aD no 2) (aF s))).text = tx no s := rfl
theorem jS (no w : Int) (s : List UInt8) : (aQ (ar (aD no w) (aF s))).num = nm no w s := rfl
theorem gV (no : Int) (s : List UInt8) : bX (ar (aD no 2) (aF s)) = jn no s := rfl
abbrev lkz : List V := [.int .u8 0, .int .u8 0, .int .u8 0, .int .u8 0, .int .u8 0, .int .u8 0, .int .u8 0, .int .u8 0, .int .u8 0, .int .u8 0, .int .u8 0, .int .u8 0, .int .u8 0, .int .u8 0, .int .u8 0, .int .u8 0, .int .u8 0, .int .u8 0, .int .u8 0, .int .u8 0, .int .u8 0, .int .u8 0, .int .u8 0, .int .u8 0, .str [], .list true 0 []]
theorem CR (c : Int) : Wk (.tuple [.agg lkz, .int .i64 c]) (.tuple [.agg (eLkc default), .int .i64 c]) := by
 repeat' first
  | exact Wk.refl _
  | exact aE.nil
  | exact Wk.nil (.inl rfl)
  | refine Wk.tuple (aE.cons (Wk.agg ?_) (aE.refl _))
  | refine aE.cons ?_ ?_
theorem AZ {s : List UInt8} {n j : Nat} (h : j < n) : cpI s (min s.length n) j = ((s.getD j 0).toNat : Int) := by
 unfold cpI
 split
 . rfl
 . rw [List.getD_eq_getElem?_getD, List.getElem?_eq_none (by omega)]; rfl
theorem Kc (s : List UInt8) (hs : s.length ≤ 9000) (h0 : ao s ≠ 0) : OK 140 [.str s] [] (.tuple [.agg lkz, .int .i64 (ao s)]) none := by
 refine al (C := cx [(14, eK)]) (aq ⟨fg, trivial⟩) (fn := Tryz.f140) rfl rfl rfl rfl fun hw _ => ?_
 repeat' ((conv => whnf); first | apply aj | apply aO | (apply aw <;> intro h))
 all_goals try conv => whnf
 all_goals try (refine ae.mk ?_; try dsimp only)
 . omega
 . exact absurd (by assumption) h0
 . exact absurd (by assumption) h0
 . refine af.mk [] ?_ <;> (repeat' first | trivial)
theorem Kb (s : List UInt8) (hs : s.length ≤ 9000) (h0 : ao s = 0) (hb : (tx 1 s).length ≠ 16 ∨ (tx 2 s).length ≠ 8) : OK 140 [.str s] [] (.tuple [.agg lkz, .int .i64 10]) none := by
 refine al (C := cx [(14, eK), (101, qz), (102, qy)]) (aq ⟨fg, tT, tS, trivial⟩) (fn := Tryz.f140) rfl rfl rfl rfl fun hw _ => ?_
 have hos := cD hs
 have h1 := @l6 1 s
 have h2 := @l6 2 s
 repeat' ((conv => whnf); first | apply aj | apply aO | (apply aw <;> intro h))
 all_goals try conv => whnf
 all_goals try (refine ae.mk ?_; try dsimp only)
 all_goals (try simp only [bW, ib] at *)
 all_goals first
  | omega
  | exact absurd (by assumption) h0
  | exact absurd h0 (by assumption)
  | exact ⟨⟨⟨_, rfl⟩, by have := hos.2; omega⟩, by omega⟩
  | skip
 all_goals
  refine af.mk [] ?_ <;> (repeat' first | trivial)
theorem Kd (s : List UInt8) (hs : s.length ≤ 9000) (h0 : ao s = 0) (hb : ¬ ((tx 1 s).length ≠ 16 ∨ (tx 2 s).length ≠ 8)) : OK 140 [.str s] [] (.tuple [eZ (ua (tx 1 s) (tx 2 s) (tx 3 s) (bI 4 s).2), .int .i64 (bI 4 s).1]) none := by
 refine al (C := cx [(14, eK), (101, qz), (102, qy), (15, jv), (38, oJ (eb 32) 32), (103, oL)]) (aq ⟨fg, tT, tS, kL, rA (eb 32) 32 (rB 32), rD, trivial⟩) (fn := Tryz.f140) rfl rfl rfl rfl fun hw _ => ?_
 have hos := cD hs
 have h1 := @l6 1 s
 have h2 := @l6 2 s
 have he := fJ (no := 4) (s := s)
 repeat' ((conv => whnf); first | apply aj | apply aO | (apply aw <;> intro h))
 all_goals try conv => whnf
 all_goals try (refine ae.mk ?_; try dsimp only)
 all_goals (try simp only [bW, ib, jS, gV, gO, fT] at *)
 all_goals first
  | omega
  | exact absurd (by assumption) h0
  | exact absurd h0 (by assumption)
  | exact ⟨⟨⟨_, rfl⟩, by have := hos.2; omega⟩, by omega⟩
  | exact ⟨⟨_, rfl⟩, by have := hos.2; omega⟩
  | exact ⟨trivial, pj hs⟩
  | skip
 all_goals (simp (discharger := decide) only [AZ])
 all_goals
  refine af.mk [] ?_ <;> (repeat' first | trivial)
def zm : Sm := fun args σ => match args, σ with
 | [.str s], [] => some (s.length ≤ 9000, .tuple [eZ (cM s).2, .int .i64 (cM s).1], none)
 | _, _ => none
-- #name rLk truchmanref36.readLink
theorem k_rLk : au 140 zm := by
 intro args sg pre x r he hp
 unfold zm at he
 split at he <;> cases he
 rename_i s
 by_cases h : ao s = 0
 . by_cases hb : (tx 1 s).length ≠ 16 ∨ (tx 2 s).length ≠ 8
   . rw [show cM s = (10, default) from (if_neg (fun q => q h)).trans (if_pos hb)]
     exact (Kb s hp h hb).res (CR _)
   . rw [show cM s = ((bI 4 s).1, ua (tx 1 s) (tx 2 s) (tx 3 s) (bI 4 s).2) from (if_neg (fun q => q h)).trans (if_neg hb)]
     exact Kd s hp h hb
 . rw [show cM s = (ao s, default) from if_pos h]
   exact (Kc s hp h).res (CR _)

def eS (S : Sp) (s : List UInt8) : Int × Sp :=
 if (aC bL (ai 11 s) []).1 ≠ 0 then ((aC bL (ai 11 s) []).1, default)
 else if (aC cM (ai 13 s) []).1 ≠ 0 then ((aC cM (ai 13 s) []).1, default)
 else if ao (jn 15 s) ≠ 0 then (ao (jn 15 s), default)
 else (0, { S with aX := (aC bL (ai 11 s) []).2, lks := (aC cM (ai 13 s) []).2, code := eU (nm 3 0 (jn 15 s)), note := tx 2 (jn 15 s) })
def ia (r : Int × Sp) : V := if r.1 = 0 then .tuple [dk r.2, .int .i64 r.1] else .tuple [.agg kh, .int .i64 r.1]
theorem f_rIn (S : Sp) (s : List UInt8) (hs : s.length ≤ 9000) : OK 104 [.agg (nu S (.list false 7 (aV S.attrs)) (.list true 0 []) (.list true 0 [])), .buf 0] [.buf 4 0 ((aF s).map av)] (ia (eS S s)) none := by
 refine al (C := cx [(14, eK), (63, nq), (15, jv), (103, oL), (105, ve), (139, zk), (140, zm)]) (aq ⟨fg, pW, kL, rD, Cy, k_rEv, k_rLk, trivial⟩) (fn := Tryz.f104) rfl rfl rfl rfl fun hw _ => ?_
 have hos := cD hs
 have he := fJ (no := 11) (s := s)
 have hk := fJ (no := 13) (s := s)
 repeat' ((conv => whnf); apply aj)
 all_goals try conv => whnf
 all_goals try (refine ae.mk ?_; try dsimp only)
 all_goals (try simp only [bW, ib, jS, gV, gO, fT] at *)
 . exact ⟨⟨_, rfl⟩, by have := hos.2; omega⟩
 . exact ⟨⟨_, rfl⟩, by have := hos.2; omega⟩
 refine aT.mk (Nat × List Ev) (fun (i, acc) => i ≤ (ai 11 s).length ∧ acc.length = i ∧ aC bL ((ai 11 s).drop i) acc = aC bL (ai 11 s) []) (fun (i, acc) => ⟨91, [(1, .buf 0), (2, .ptr 1 0), (4, .ptr 2 0), (6, .buf 3), (7, .buf 5), (8, .int .i64 i)], [.buf 4 0 ((aF s).map av), .cells (nu S (.list false 7 (aV S.attrs)) (.buf 7) (.list true 0 [])), .cells kh, .buf 1 0 ((ai 11 s).map .str), .dead, .buf 1 0 ((ai 13 s).map .str), .dead, .buf 3 0 (acc.map er)], [1, 2, 3, 5, 7]⟩) (fun q => (ai 11 s).length - q.1) [.cell 1 38 3] (0, []) ⟨Nat.zero_le _, rfl, by rw [List.drop_zero]⟩ ?_ (fun ⟨i, acc⟩ ⟨hi, hn, hr⟩ _ _ => ?_)
 . refine Go.VG.Sub.mk rfl ?_ ?_ ?_ ?_ <;> (repeat' first | trivial)
   all_goals first
    | rfl
    | (simp; done)
 have hst := fun h => nc (f := bL) (L := ai 11 s) (acc := acc) (i := i) h
 rw [hr] at hst
 have hz : i = (ai 11 s).length → aC bL (ai 11 s) [] = (0, acc) := fun q => by rw [← hr, q, List.drop_length]; rfl
 have hbi := fun h => (he).2 _ (dX (l := ai 11 s) (i := i) h)
 repeat' ((conv => whnf); first | apply aj | apply aO | (apply aw <;> intro h) | with_reducible apply c9)
 all_goals try conv => whnf
 all_goals try (refine ae.mk ?_; try dsimp only)
 all_goals (try simp only [List.length_map] at *)
 all_goals first | refine stay ?_ | omega | (simp only [cL]; omega) | skip
 . have h9 := hst (by omega)
   rw [if_neg (fun z => z (by assumption))] at h9
   refine ⟨[], (i + 1, acc ++ [_]), ⟨by show i + 1 ≤ (ai 11 s).length; omega, by rw [List.length_append, List.length_singleton, hn], h9.symm⟩, ?_, by show (ai 11 s).length - (i + 1) < (ai 11 s).length - i; omega⟩
   refine Go.VG.Sub.mk rfl ?_ ?_ ?_ ?_ <;> (repeat' first | trivial | apply ax | apply aH | apply bo)
   all_goals first
    | (rw [bc]; omega)
    | (rw [List.map_append]; rfl)
 . have h9 := hst (by omega)
   rw [if_pos (by assumption)] at h9
   rw [show eS S s = ((bL ((ai 11 s).getD i default)).1, default) by unfold eS; rw [h9]; exact if_pos (by assumption)]
   unfold ia
   rw [if_neg (by assumption)]
   refine af.mk [] ?_ <;> (repeat' first | trivial)
 have hE : aC bL (ai 11 s) [] = (0, acc) := hz (by omega)
 obtain rfl : acc = (aC bL (ai 11 s) []).2 := by rw [hE]
 have hE1 : (aC bL (ai 11 s) []).1 = 0 := by rw [hE]
 clear hst hz hr hbi
 refine aT.mk (Nat × List Lk) (fun (i, acc) => i ≤ (ai 13 s).length ∧ acc.length = i ∧ aC cM ((ai 13 s).drop i) acc = aC cM (ai 13 s) []) (fun (i, acc) => ⟨91, [(1, .buf 0), (2, .ptr 1 0), (4, .ptr 2 0), (7, .buf 5), (11, .int .i64 i)], [.buf 4 0 ((aF s).map av), .cells (nu S (.list false 7 (aV S.attrs)) (.buf 7) (.buf 8)), .cells kh, .buf 1 0 ((ai 11 s).map .str), .dead, .buf 1 0 ((ai 13 s).map .str), .dead, .buf 3 0 ((aC bL (ai 11 s) []).2.map er), .buf 26 0 (acc.map eZ)], [1, 2, 3, 5, 7, 8]⟩) (fun q => (ai 13 s).length - q.1) [.cell 1 39 26] (0, []) ⟨Nat.zero_le _, rfl, by rw [List.drop_zero]⟩ ?_ (fun ⟨i, acc⟩ ⟨hi, hn, hr⟩ _ _ => ?_)
 . refine Go.VG.Sub.mk rfl ?_ ?_ ?_ ?_ <;> (repeat' first | trivial)
   all_goals first
    | rfl
    | (simp; done)
 have hst := fun h => nc (f := cM) (L := ai 13 s) (acc := acc) (i := i) h
 rw [hr] at hst
 have hz : i = (ai 13 s).length → aC cM (ai 13 s) [] = (0, acc) := fun q => by rw [← hr, q, List.drop_length]; rfl
 have hbi := fun h => (hk).2 _ (dX (l := ai 13 s) (i := i) h)
 repeat' ((conv => whnf); first | apply aj | apply aO | (apply aw <;> intro h) | with_reducible apply c9)
 all_goals try conv => whnf
 all_goals try (refine ae.mk ?_; try dsimp only)
 all_goals (try simp only [List.length_map] at *)
 all_goals first | refine stay ?_ | trivial | omega | (simp only [cL]; omega) | skip
 . have h9 := hst (by omega)
   rw [if_neg (fun z => z (by assumption))] at h9
   refine ⟨[], (i + 1, acc ++ [_]), ⟨by show i + 1 ≤ (ai 13 s).length; omega, by rw [List.length_append, List.length_singleton, hn], h9.symm⟩, ?_, by show (ai 13 s).length - (i + 1) < (ai 13 s).length - i; omega⟩
   refine Go.VG.Sub.mk rfl ?_ ?_ ?_ ?_ <;> (repeat' first | trivial | apply ax | apply aH | apply bo)
   all_goals first
    | (rw [bc]; omega)
    | (rw [List.map_append]; rfl)
 . have h9 := hst (by omega)
   rw [if_pos (by assumption)] at h9
   rw [show eS S s = ((cM ((ai 13 s).getD i default)).1, default) by unfold eS; rw [if_neg (fun z => z hE1), h9]; exact if_pos (by assumption)]
   unfold ia
   rw [if_neg (by assumption)]
   refine af.mk [] ?_ <;> (repeat' first | trivial)
 all_goals (try simp only [bW, ib, jS, gV] at *)
 . have hj := je (no := 15) (s := s)
   omega
 . have hj := je (no := 15) (s := s)
   have hoj := cD (s := jn 15 s) (by omega)
   exact ⟨⟨_, rfl⟩, by have := (fits (jn 15 s)).l; omega⟩
 . have hj := je (no := 15) (s := s)
   have hoj := cD (s := jn 15 s) (by omega)
   exact ⟨⟨_, rfl⟩, by have := (fits (jn 15 s)).l; omega⟩
 . have hL : aC cM (ai 13 s) [] = (0, acc) := hz (by omega)
   obtain rfl : acc = (aC cM (ai 13 s) []).2 := by rw [hL]
   have hL1 : (aC cM (ai 13 s) []).1 = 0 := by rw [hL]
   clear hst hz hr hbi
   rw [show eS S s = (0, { S with aX := (aC bL (ai 11 s) []).2, lks := (aC cM (ai 13 s) []).2, code := eU (nm 3 0 (jn 15 s)), note := tx 2 (jn 15 s) }) by unfold eS; rw [if_neg (fun z => z hE1), if_neg (fun z => z hL1)]; exact if_neg (fun z => z (by assumption))]
   unfold ia
   rw [if_pos rfl]
   refine af.mk [.bk 7, .bk 8] ?_ <;> (repeat' first | trivial)
 . have hL : aC cM (ai 13 s) [] = (0, acc) := hz (by omega)
   obtain rfl : acc = (aC cM (ai 13 s) []).2 := by rw [hL]
   have hL1 : (aC cM (ai 13 s) []).1 = 0 := by rw [hL]
   clear hst hz hr hbi
   rw [show eS S s = (ao (jn 15 s), default) by unfold eS; rw [if_neg (fun z => z hE1), if_neg (fun z => z hL1)]; exact if_pos (by assumption)]
   unfold ia
   rw [if_neg (by assumption)]
   refine af.mk [] ?_ <;> (repeat' first | trivial)
theorem EB (r : Int × Sp) (h : r.1 ≠ 0 → r.2 = default) : Wk (ia r) (.tuple [dk r.2, .int .i64 r.1]) := by
 unfold ia
 split
 . exact Wk.refl _
 . rename_i q
   rw [h q]
   repeat' first
    | exact Wk.refl _
    | exact aE.nil
    | exact Wk.nil (.inl rfl)
    | refine Wk.tuple (aE.cons (Wk.agg ?_) (aE.refl _))
    | refine aE.cons ?_ ?_
theorem Ny (S : Sp) (s : List UInt8) (h : (eS S s).1 ≠ 0) : (eS S s).2 = default := by
 unfold eS at h ⊢
 split
 . rfl
 split
 . rfl
 split
 . rfl
 . rename_i a b c
   rw [if_neg a, if_neg b, if_neg c] at h
   exact absurd rfl h
def zl (S : Sp) (s : List UInt8) : Sm := fun args σ => match args, σ with
 | [a, .buf 0], [.buf 4 0 l] => some (a = .agg (nu S (.list false 7 (aV S.attrs)) (.list true 0 []) (.list true 0 [])) ∧ l = (aF s).map av ∧ s.length ≤ 9000, .tuple [dk (eS S s).2, .int .i64 (eS S s).1], none)
 | _, _ => none
-- #name rIn truchmanref36.inner
theorem k_rIn (S : Sp) (s : List UInt8) : au 104 (zl S s) := by
 intro args sg pre x r he hp
 unfold zl at he
 split at he <;> cases he
 obtain ⟨rfl, rfl, h⟩ := hp
 exact (f_rIn S s h).res (EB _ (Ny S s))
end Go.Proofs.YtdjolnjlhbfnmaaGreatDoor
