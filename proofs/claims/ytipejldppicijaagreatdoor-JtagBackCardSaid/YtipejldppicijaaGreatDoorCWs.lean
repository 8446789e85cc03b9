/-
  A part of the proof.
-/
import Derived.Test.YtipejldppicijaaGreatDoorCWr
set_option linter.unusedSimpArgs false
set_option linter.unusedVariables false
set_option maxHeartbeats 4000000
namespace Go.Proofs.YtipejldppicijaaGreatDoor
open Go Go.VG
set_option maxRecDepth 100000
theorem Io {w : CS} {c : Int} (h : ¬ c = 0) : ¬ (w.fail c).code = 0 := by unfold CS.fail; split <;> simp_all
theorem zx (n : Int) : IntKind.u8.wrap (ez n 8) = ((byte (ez n 8)).toNat : Int) := by
 have h : 0 ≤ ez n 8 ∧ ez n 8 ≤ 255 := by
  unfold ez
  split
  . rw [show bO 8 = 256 from rfl]; omega
  . omega
 rw [cE h, iZ]; omega
theorem Gm (w : CS) (id k n : Int) (hp : w.out.length ≤ 1800000000 ∧ w.l.length ≤ 800) : OK 59 ([.ptr 0 0, .int .i64 id, .int .u8 k, .int .i64 n]) (aN w) (.tuple []) (some (aN (w.whole id k n))) := by
  refine af (C := cx [(117, tL), (98, lD), (99, lB), (100, jY), (118, tO), (116, oE)]) (ah ⟨AX, nU, nS, my, B0, s6, trivial⟩) (fn := Tryz.f59) rfl rfl rfl rfl fun hw hs => ?_
  have e1 : (w.l.map eP).length = w.l.length := by simp
  have m1 := fP w id k
  have hz := iz (n := n) hw.2.2.2.1
  have hv := dM hz
  have hk : 0 ≤ k ∧ k ≤ 255 := hw.2.2.1
  have f1 : (if (1 : Int) > 8 then (1 : Int) else 8) = 8 := rfl
  have f2 : (if (1 : Int) > 16 then (1 : Int) else 16) = 16 := rfl
  have f3 : (if (1 : Int) > 32 then (1 : Int) else 32) = 32 := rfl
  have f4 : (if (1 : Int) > 64 then (1 : Int) else 64) = 64 := rfl
  have hfl := Iq w
  repeat' ((conv => whnf); first | apply a9 | apply aJ | ((first | apply al | apply bu) <;> intro h))
  all_goals try conv => whnf
  all_goals try (refine a8.mk ?_; try dsimp only)
  all_goals (try simp only [f1, f2, f3, f4, jl (show ¬ (7 : Int) = 0 by decide)] at *)
  all_goals first | refine stay ?_ | trivial | skip
  all_goals (try simp only [bD, bN, cond_true, Int.toNat_natCast, List.length_append, List.length_map, List.length_singleton] at *)
  all_goals first
   | (show a7 _ _ _ _ _ _
      skip)
   | exact ⟨aR (by omega) (by omega), trivial⟩
   | exact ⟨trivial, aR (by omega) (by omega), by omega, by omega⟩
   | exact ⟨aR (by omega) (by omega), by omega, by omega⟩
   | exact ⟨aR (by omega) (by omega), by omega⟩
   | omega
   | exact ⟨by omega, by omega⟩
   | exact (fu (by assumption)).2.1 (by assumption)
   | (have := (fu (by assumption)).2.1; omega)
   | skip
  all_goals (try (exfalso; first
   | omega
   | exact absurd (fu (by assumption)).2.2 (by assumption)
   | exact absurd (by assumption) (Io (w := w) (c := 7) (by decide))
   | exact absurd (show ((w.fail (bc n 8)).may id k).2 = true by assumption) (by rw [jl (c := bc n 8) (by assumption)]; exact Bool.false_ne_true)
   | exact absurd (show ((w.fail (bc n 16)).may id k).2 = true by assumption) (by rw [jl (c := bc n 16) (by assumption)]; exact Bool.false_ne_true)
   | exact absurd (show ((w.fail (bc n 32)).may id k).2 = true by assumption) (by rw [jl (c := bc n 32) (by assumption)]; exact Bool.false_ne_true)
   | exact absurd (show ((w.fail (bc n 64)).may id k).2 = true by assumption) (by rw [jl (c := bc n 64) (by assumption)]; exact Bool.false_ne_true)))
  all_goals clear f1 f2 f3 f4
  all_goals (try (rw [(hfl _).1, (hfl _).2]; exact ⟨aR (by omega) (by omega), by omega, by omega⟩))
  all_goals (try (exact ⟨⟨by omega, by omega⟩, by omega⟩))
  all_goals (try (rw [(hfl _).1, (hfl _).2]; exact ⟨aR (by omega) (by omega), trivial⟩))
  all_goals
   show a7 _ _ _ _ _ _
   have he : w.whole id k n = w.whole id k n := rfl
   conv at he => rhs; unfold CS.whole
   first
   | (rw [if_pos (show w.code ≠ 0 by assumption)] at he
      rw [he]
      rw [Bt (w := w) (by assumption)])
   | (rw [if_neg (show ¬ w.code ≠ 0 by omega), Ec (by assumption) (by assumption) (by assumption) (by assumption), if_pos rfl] at he
      rw [he, jl (c := 7) (by decide), jE (by assumption)])
   | (rw [if_neg (show ¬ w.code ≠ 0 by omega), show c7 k = 8 by (rw [show k = 3 by assumption]; rfl), if_neg (by decide)] at he
      first
       | (rw [if_neg (show ¬ bc n 8 ≠ 0 by omega)] at he
          rw [he]
          unfold CS.put
          first | rw [if_pos (by assumption)] | rw [if_neg (fO (by assumption))]
          first | rw [if_pos (show k = 3 by assumption)] | rw [if_neg (show ¬ k = 3 by assumption)] | skip)
       | (rw [if_pos (show bc n 8 ≠ 0 by assumption)] at he
          rw [he, jl (c := bc n 8) (by assumption), jE (by assumption)]))
   | (rw [if_neg (show ¬ w.code ≠ 0 by omega), show c7 k = 16 by (rw [show k = 4 by assumption]; rfl), if_neg (by decide)] at he
      first
       | (rw [if_neg (show ¬ bc n 16 ≠ 0 by omega)] at he
          rw [he]
          unfold CS.put
          first | rw [if_pos (by assumption)] | rw [if_neg (fO (by assumption))]
          first | rw [if_pos (show k = 3 by assumption)] | rw [if_neg (show ¬ k = 3 by assumption)] | skip)
       | (rw [if_pos (show bc n 16 ≠ 0 by assumption)] at he
          rw [he, jl (c := bc n 16) (by assumption), jE (by assumption)]))
   | (rw [if_neg (show ¬ w.code ≠ 0 by omega), show c7 k = 32 by (rw [show k = 5 by assumption]; rfl), if_neg (by decide)] at he
      first
       | (rw [if_neg (show ¬ bc n 32 ≠ 0 by omega)] at he
          rw [he]
          unfold CS.put
          first | rw [if_pos (by assumption)] | rw [if_neg (fO (by assumption))]
          first | rw [if_pos (show k = 3 by assumption)] | rw [if_neg (show ¬ k = 3 by assumption)] | skip)
       | (rw [if_pos (show bc n 32 ≠ 0 by assumption)] at he
          rw [he, jl (c := bc n 32) (by assumption), jE (by assumption)]))
   | (rw [if_neg (show ¬ w.code ≠ 0 by omega), show c7 k = 64 by (rw [show k = 6 by assumption]; rfl), if_neg (by decide)] at he
      first
       | (rw [if_neg (show ¬ bc n 64 ≠ 0 by omega)] at he
          rw [he]
          unfold CS.put
          first | rw [if_pos (by assumption)] | rw [if_neg (fO (by assumption))]
          first | rw [if_pos (show k = 3 by assumption)] | rw [if_neg (show ¬ k = 3 by assumption)] | skip)
       | (rw [if_pos (show bc n 64 ≠ 0 by assumption)] at he
          rw [he, jl (c := bc n 64) (by assumption), jE (by assumption)]))
   first
   | (refine a7.mk [] ?_ <;> (repeat' first | trivial | rfl | exact cZ _ _ | apply ab | apply aV | apply au | apply bX | apply aE | apply cw | apply cJ | apply cK | apply bZ | apply aM)
      all_goals (first | rfl | (simp [cN, bl, bv, zx]; done)))
   | (refine a7.mk [.swap 1 3] ?_ <;> (repeat' first | trivial | rfl | exact cZ _ _ | apply ab | apply aV | apply au | apply bX | apply aE | apply cw | apply cJ | apply cK | apply bZ | apply aM)
      all_goals (first | rfl | (simp [cN]; done)))
def lF : Sm := fun args σ => match args, σ with
 | [.ptr 0 0, .int .i64 id, .int .u8 k, .int .i64 n], [.cells [.buf 1, .buf 2, .int .i64 c_w], .buf 1 0 o_w, .buf 4 0 l_w] => some (dk o_w l_w ∧ ((b9 o_w l_w c_w).out.length ≤ 1800000000 ∧ (b9 o_w l_w c_w).l.length ≤ 800), .tuple [], some (aN ((b9 o_w l_w c_w).whole id k n)))
 | _, _ => none
theorem nW : aa 59 lF := by
 intro args sg pre x r he hp
 unfold lF at he
 split at he <;> cases he
 . rw [eL (hp).1]; exact Gm (hp := hp.2) ..
end Go.Proofs.YtipejldppicijaaGreatDoor
namespace Go.Proofs.YtipejldppicijaaGreatDoor
open Go Go.VG
set_option maxRecDepth 100000
def kindOf (o : aU) : Int := if o.kind = 123 then 12 else if o.kind = 91 then 9 else if o.kind = 102 then (if o.n = 1 then 1 else 2) else if o.kind = 100 then 7 else if o.kind = 115 then 8 else o.what
def eh (m : Nat) (o : aU) : Int :=
 if (o.kind = 123 ∨ o.kind = 91) ∧ m ≥ 32 then 33
 else if o.kind = 91 ∧ c9 o.n (byte o.what) = [] then 4
 else if o.kind = 110 then (if c7 o.what = 0 then 7 else bc o.n (c7 o.what))
 else 0
def aU.content (o : aU) (li : Bool) : List UInt8 :=
 if o.kind = 91 then c9 o.n (byte o.what)
 else if o.kind = 102 ∧ li = true then [byte (kindOf o)]
 else if o.kind = 110 ∧ o.what = 3 then [byte (ez o.n 8)]
 else if o.kind = 110 then aF (cA o.n)
 else if o.kind = 100 then low 8 o.bits.toNat
 else if o.kind = 115 then aF o.text.length ++ o.text
 else []
def CS.begun (s : CS) (o : aU) : CS :=
 if o.kind = 123 then { s with l := s.l ++ [⟨false, 0, 0, 0⟩] } else if o.kind = 91 then { s with l := s.l ++ [⟨true, 0, o.n, o.what⟩] } else s
def CS.gX (s : CS) (o : aU) : CS :=
 if s.code ≠ 0 then s
 else if o.kind = 101 then s.fin
 else if eh s.l.length o ≠ 0 then { s with code := eh s.l.length o }
 else if s.l.length = 0 then (if o.kind ≠ 123 then { s with code := 12 } else s.begun o)
 else if (s.may o.id (kindOf o)).2 = true then CS.begun { (s.may o.id (kindOf o)).1 with out := (s.may o.id (kindOf o)).1.out ++ o.content s.top.li } o
 else (s.may o.id (kindOf o)).1
def dC (out : List UInt8) (l : List V) (c : Int) : CS := ⟨out, kf l, c⟩
@[simp] theorem uH (out : List UInt8) (L : List Pl) (c : Int) : dC out (L.map eP) c = ⟨out, L, c⟩ := by simp [dC]
def iR (l : List V) : Prop := l = (kf l).map eP ∧ l.length ≤ 1000
theorem vS {L : List Pl} (h : L.length ≤ 1000) : iR (L.map eP) := ⟨by simp, by simpa using h⟩
theorem su {l : List V} (h : iR l) : ∃ L : List Pl, l = L.map eP ∧ L.length ≤ 1000 := ⟨kf l, h.1, by have := h.2; rw [h.1] at this; simpa using this⟩
theorem B3 {o : aU} (h : 0 ≤ o.what ∧ o.what ≤ 255) : 0 ≤ kindOf o ∧ kindOf o ≤ 255 := by
 unfold kindOf
 repeat' split
 all_goals omega
theorem Hi (out : List UInt8) (l : List V) (c k : Int) (hp : True) : OK 106 ([.agg [.str out, .buf 0, .int .i64 c], .int .i64 k]) ([.buf 4 0 l]) (.agg [.str out, .buf 0, .int .i64 k]) (none) := by
 refine af (C := cx []) (ah trivial) (fn := Tryz.f106) rfl rfl rfl rfl fun hw hs => ?_
 all_goals try conv => whnf
 all_goals try (refine a8.mk ?_; try dsimp only)
 all_goals try refine stay ?_
 refine a7.mk [] ?_ <;> (repeat' first | trivial)
def tB : Sm := fun args σ => match args, σ with
 | [.agg [.str out, .buf 0, .int .i64 c], .int .i64 k], [.buf 4 0 l] => some (True, .agg [.str out, .buf 0, .int .i64 k], none)
 | _, _ => none
theorem AK : aa 106 tB := by
 intro args sg pre x r he hp
 unfold tB at he
 split at he <;> cases he
 . exact Hi (hp := hp) ..
theorem Hn (o : aU) (hp : True) : OK 109 ([c8 o]) ([]) (.int .u8 (kindOf o)) (none) := by
 refine af (C := cx []) (ah trivial) (fn := Tryz.f109) rfl rfl rfl rfl fun hw hs => ?_
 repeat' ((conv => whnf); (apply al <;> intro h))
 all_goals try conv => whnf
 all_goals try (refine a8.mk ?_; try dsimp only)
 all_goals try refine stay ?_
 all_goals
  have he : kindOf o = kindOf o := rfl
  conv at he => rhs; unfold kindOf
  repeat (first | rw [if_pos (by omega)] at he | rw [if_neg (by omega)] at he)
  rw [he]
  refine a7.mk [] ?_ <;> (repeat' first | trivial)
def tC : Sm := fun args σ => match args, σ with
 | [.agg [.int .u8 k_o, .int .i64 i_o, .int .i64 n_o, .int .u8 w_o, .int .u64 b_o, .str t_o]], [] => some (True ∧ (True), .int .u8 (kindOf (aU.mk k_o i_o n_o w_o b_o t_o)), none)
 | _, _ => none
theorem AL : aa 109 tC := by
 intro args sg pre x r he hp
 unfold tC at he
 split at he <;> cases he
 . rw [r8 (hp).1]; exact Hn (hp := hp.2) ..
theorem Hk (k : Int) (hp : True) : OK 136 ([.int .u8 k]) ([]) (.int .i64 (c7 k)) (none) := by
 refine af (C := cx []) (ah trivial) (fn := Tryz.f136) rfl rfl rfl rfl fun hw hs => ?_
 repeat' ((conv => whnf); (apply al <;> intro h))
 all_goals try conv => whnf
 all_goals try (refine a8.mk ?_; try dsimp only)
 all_goals try refine stay ?_
 all_goals
  have he : c7 k = c7 k := rfl
  conv at he => rhs; unfold c7
  repeat (first | rw [if_pos (by omega)] at he | rw [if_neg (by omega)] at he)
  rw [he]
  refine a7.mk [] ?_ <;> (repeat' first | trivial)
def xk : Sm := fun args σ => match args, σ with
 | [.int .u8 k], [] => some (True, .int .i64 (c7 k), none)
 | _, _ => none
theorem Jo : aa 136 xk := by
 intro args sg pre x r he hp
 unfold xk at he
 split at he <;> cases he
 . exact Hk (hp := hp) ..
theorem Ed {k : Int} (h : ¬ c7 k = 0) : c7 k = 1 ∨ c7 k = 8 ∨ c7 k = 16 ∨ c7 k = 32 ∨ c7 k = 64 := by
 revert h; unfold c7
 repeat' split
 all_goals omega
theorem Hh (out : List UInt8) (l : List V) (c : Int) (o : aU) (hp : l.length ≤ 1000) : OK 105 ([.agg [.str out, .buf 0, .int .i64 c], c8 o]) ([.buf 4 0 l]) (.int .i64 (eh l.length o)) (none) := by
 refine af (C := cx [(135, tv), (136, xk), (90, tk)]) (ah ⟨AI, Jo, AD, trivial⟩) (fn := Tryz.f105) rfl rfl rfl rfl fun hw hs => ?_
 have hk : 0 ≤ o.what ∧ o.what ≤ 255 := hw.2.1.2.2.2.1
 repeat' ((conv => whnf); first | apply a9 | ((first | apply al | apply gk) <;> intro h))
 all_goals try conv => whnf
 all_goals try (refine a8.mk ?_; try dsimp only)
 all_goals first | refine stay ?_ | trivial | omega | skip
 all_goals first
  | exact hk
  | exact ⟨hk, trivial⟩
  | exact Ed (by assumption)
  | (exfalso; omega)
  | (show a7 _ _ _ _ _ _
     have he : eh l.length o = eh l.length o := rfl
     conv at he => rhs; unfold eh
     repeat (first | rw [if_pos (by first | assumption | omega | exact ⟨by omega, by omega⟩ | exact ⟨by omega, by assumption⟩)] at he | rw [if_neg (by first | assumption | omega | exact fun q => absurd q.2 (by assumption))] at he)
     rw [he]
     refine a7.mk [] ?_ <;> (repeat' first | trivial)
     done)
  | skip
def xi : Sm := fun args σ => match args, σ with
 | [.agg [.str out, .buf 0, .int .i64 c], .agg [.int .u8 k_o, .int .i64 i_o, .int .i64 n_o, .int .u8 w_o, .int .u64 b_o, .str t_o]], [.buf 4 0 l] => some (True ∧ (l.length ≤ 1000), .int .i64 (eh l.length (aU.mk k_o i_o n_o w_o b_o t_o)), none)
 | _, _ => none
theorem Jm : aa 105 xi := by
 intro args sg pre x r he hp
 unfold xi at he
 split at he <;> cases he
 . rw [r8 (hp).1]; exact Hh (hp := hp.2) ..
theorem Hl (o : aU) (li : Bool) (hp : o.text.length ≤ 90000000) : OK 112 ([c8 o, .bool li]) ([]) (.str (o.content li)) (none) := by
 refine af (C := cx [(135, tv), (109, tC), (90, tk), (139, tn), (138, qS), (140, xb)]) (ah ⟨AI, AL, AD, AE, vt, Jf, trivial⟩) (fn := Tryz.f112) rfl rfl rfl rfl fun hw hs => ?_
 have hk : 0 ≤ o.what ∧ o.what ≤ 255 := hw.1.2.2.2.1
 have hn : -9223372036854775808 ≤ o.n ∧ o.n ≤ 9223372036854775807 := hw.1.2.2.1
 have hb : 0 ≤ o.bits ∧ o.bits ≤ 18446744073709551615 := hw.1.2.2.2.2.1
 have hz := iz hn
 have hu : IntKind.u64.wrap o.text.length = o.text.length := by (simp (discharger := omega) only [wR]; omega)
 have hv := dM (u := o.text.length) (by omega)
 have hko := B3 hk
 have hf8 := zx o.n
 repeat' ((conv => whnf); first | apply a9 | ((first | apply al | apply bu) <;> intro h) | apply i6)
 all_goals try conv => whnf
 all_goals try (refine a8.mk ?_; try dsimp only)
 all_goals (try simp only [hu, Int.toNat_natCast] at *)
 all_goals first | refine stay ?_ | trivial | omega | (simp (discharger := omega) only [wR]; omega) | skip
 all_goals first
  | exact hk
  | exact hko
  | exact hb
  | exact ⟨hk, trivial⟩
  | exact ⟨by omega, by omega⟩
  | (show a7 _ _ _ _ _ _
     have he : o.content li = o.content li := rfl
     conv at he => rhs; unfold aU.content
     repeat (first | rw [if_pos (by first | assumption | omega | exact ⟨by omega, by omega⟩ | exact ⟨by omega, by assumption⟩)] at he | rw [if_neg (by first | assumption | omega | exact fun q => absurd q.2 (fO (by assumption)))] at he)
     rw [he]
     refine a7.mk [] ?_ <;> (repeat' first | trivial | apply ab | apply aV | apply aM)
     all_goals (rw [hf8, m5]; done))
  | skip
def xl : Sm := fun args σ => match args, σ with
 | [.agg [.int .u8 k_o, .int .i64 i_o, .int .i64 n_o, .int .u8 w_o, .int .u64 b_o, .str t_o], .bool li], [] => some (True ∧ ((aU.mk k_o i_o n_o w_o b_o t_o).text.length ≤ 90000000), .str ((aU.mk k_o i_o n_o w_o b_o t_o).content li), none)
 | _, _ => none
theorem Jp : aa 112 xl := by
 intro args sg pre x r he hp
 unfold xl at he
 split at he <;> cases he
 . rw [r8 (hp).1]; exact Hl (hp := hp.2) ..
theorem Hj (out : List UInt8) (l : List V) (c : Int) (o : aU) (hp : iR l) : OK 107 ([.agg [.str out, .buf 0, .int .i64 c], c8 o]) ([.buf 4 0 l]) (.agg [.str out, .buf 0, .int .i64 c]) (some [.buf 4 0 (((dC out l c).begun o).l.map eP)]) := by
 refine af (C := cx []) (ah trivial) (fn := Tryz.f107) rfl rfl rfl rfl fun hw hs => ?_
 obtain ⟨L, rfl, hl⟩ := su hp
 rw [uH]
 have e1 : (L.map eP).length = L.length := by simp
 repeat' ((conv => whnf); first | apply a9 | (apply al <;> intro h))
 all_goals try conv => whnf
 all_goals try (refine a8.mk ?_; try dsimp only)
 all_goals first | refine stay ?_ | omega | (simp only [aW]; omega) | (simp (discharger := omega) [-List.getD_eq_getElem?_getD, wR] <;> omega) | skip
 all_goals first
  | (exfalso; omega)
  | (show a7 _ _ _ _ _ _
     unfold CS.begun
     repeat (first | rw [if_pos (by omega)] | rw [if_neg (by omega)])
     first
     | (refine a7.mk [] ?_ <;> (repeat' first | trivial | rfl | exact cZ _ _ | apply ab | apply aV | apply au | apply bX | apply aE | apply cw | apply cJ | apply cK | apply bZ | apply aM)
        all_goals (first | rfl | (simp; done))
        done)
     | (refine a7.mk [.swap 0 4] ?_ <;> (repeat' first | trivial | rfl | exact cZ _ _ | apply ab | apply aV | apply au | apply bX | apply aE | apply cw | apply cJ | apply cK | apply bZ | apply aM)
        all_goals (first | rfl | (simp; done))))
  | skip
def xj : Sm := fun args σ => match args, σ with
 | [.agg [.str out, .buf 0, .int .i64 c], .agg [.int .u8 k_o, .int .i64 i_o, .int .i64 n_o, .int .u8 w_o, .int .u64 b_o, .str t_o]], [.buf 4 0 l] => some (True ∧ (iR l), .agg [.str out, .buf 0, .int .i64 c], some [.buf 4 0 (((dC out l c).begun (aU.mk k_o i_o n_o w_o b_o t_o)).l.map eP)])
 | _, _ => none
theorem Jn : aa 107 xj := by
 intro args sg pre x r he hp
 unfold xj at he
 split at he <;> cases he
 . rw [r8 (hp).1]; exact Hj (hp := hp.2) ..
theorem Hp (l : List V) (p : Pl) (hp : 1 ≤ l.length ∧ l.length ≤ 1000) : OK 111 ([.buf 0, eP p]) ([.buf 4 0 l]) (.buf 0) (some [.buf 4 0 (l.take (l.length - 1) ++ [eP p])]) := by
 refine af (C := cx []) (ah trivial) (fn := Tryz.f111) rfl rfl rfl rfl fun hw hs => ?_
 repeat' ((conv => whnf); apply a9)
 all_goals try conv => whnf
 all_goals try (refine a8.mk ?_; try dsimp only)
 all_goals first | refine stay ?_ | (simp (discharger := omega) only [wR]; omega) | (simp only [aW]; omega) | (simp (discharger := omega) [-List.getD_eq_getElem?_getD, wR] <;> omega) | skip
 have ht : (IntKind.i64.wrap (↑l.length - 1)).toNat = l.length - 1 := by (simp (discharger := omega) only [wR]; omega)
 refine a7.mk [.swap 0 2] ?_ <;> (repeat' first | trivial | apply ab | apply aE)
 all_goals (rw [ht]; rfl)
def xo : Sm := fun args σ => match args, σ with
 | [.buf 0, .agg [.bool b_p, .int .i64 m_p, .int .i64 n_p, .int .u8 k_p]], [.buf 4 0 l] => some (True ∧ (1 ≤ l.length ∧ l.length ≤ 1000), .buf 0, some [.buf 4 0 (l.take (l.length - 1) ++ [eP (Pl.mk b_p m_p n_p k_p)])])
 | _, _ => none
theorem Js : aa 111 xo := by
 intro args sg pre x r he hp
 unfold xo at he
 split at he <;> cases he
 . rw [Dw (hp).1]; exact Hp (hp := hp.2) ..
end Go.Proofs.YtipejldppicijaaGreatDoor
