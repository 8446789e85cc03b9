/-
  A part of the proof.
-/
import Derived.Test.YtllncocibkgjkaaGreatKE
set_option linter.unusedSimpArgs false
set_option linter.unusedVariables false
set_option maxHeartbeats 4000000
namespace Go.Proofs.YtllncocibkgjkaaGreat
open Go Go.VG
set_option maxRecDepth 100000
theorem D4 (q : UInt8 → Bool) : ∀ (l : List UInt8) (j : Nat), j < (l.takeWhile q).length → j < l.length ∧ q (l.getD j 0) = true
 | [], j, h => by simp at h
 | b :: l, j, h => by
   rw [List.takeWhile_cons] at h
   split at h
   . rename_i hb
     cases j with
     | zero => exact ⟨by simp, hb⟩
     | succ j =>
       have := D4 q l j (by simpa using h)
       exact ⟨by simp; omega, this.2⟩
   . simp at h
theorem D3 (q : UInt8 → Bool) : ∀ (l : List UInt8), (l.takeWhile q).length < l.length → q (l.getD (l.takeWhile q).length 0) = false
 | [], h => by simp at h
 | b :: l, h => by
   rw [List.takeWhile_cons] at h ⊢
   split at h
   . rename_i hb
     rw [if_pos hb]
     exact D3 q l (by simpa using h)
   . rename_i hb
     rw [if_neg hb]
     simpa using hb
def eV (d : List UInt8) : Nat := (d.reverse.takeWhile (· == 48)).length
theorem Cg {d : List UInt8} {j : Nat} (h : j < d.length) : d.reverse.getD j 0 = d.getD (d.length - 1 - j) 0 := by
 rw [List.getD_eq_getElem?_getD, List.getD_eq_getElem?_getD, List.getElem?_reverse h]
theorem yn {d : List UInt8} {j : Nat} (h : j < eV d) : j < d.length ∧ (d.getD (d.length - 1 - j) 0).toNat = 48 := by
 obtain ⟨h1, h2⟩ := D4 _ _ _ h
 rw [List.length_reverse] at h1
 rw [Cg h1, beq_iff_eq] at h2
 exact ⟨h1, by rw [h2]; rfl⟩
theorem Dx {d : List UInt8} (h : eV d < d.length) : (d.getD (d.length - 1 - eV d) 0).toNat ≠ 48 := by
 have := D3 (· == 48) d.reverse (by rw [List.length_reverse]; exact h)
 rw [show (d.reverse.takeWhile (· == 48)).length = eV d from rfl, Cg h, beq_eq_false_iff_ne] at this
 exact fun e => this (UInt8.toNat_inj.1 e)
theorem Dy (d : List UInt8) : eV d ≤ d.length := by
 have := (List.takeWhile_sublist (p := fun b : UInt8 => b == 48) (l := d.reverse)).length_le
 rw [List.length_reverse] at this; exact this
theorem M8 {s : List UInt8} (h : dN s ≠ []) : ((dN s).getD 0 0).toNat ≠ 48 := by
 induction s with
 | nil => exact absurd rfl h
 | cons b s ih =>
   unfold dN at h ⊢
   rw [List.dropWhile_cons] at h ⊢
   split
   . rename_i q; rw [if_pos q] at h; exact ih h
   . rename_i q
     rw [beq_iff_eq] at q
     exact fun e => q (UInt8.toNat_inj.1 e)
theorem M7 {s : List UInt8} (h : aL s) : aL (dN s) := fun b hb => h b ((List.dropWhile_sublist _).subset hb)
theorem M9 (s : List UInt8) : (dN s).length ≤ s.length := (List.dropWhile_sublist _).length_le
def kP (m : Bool) (l : List UInt8) : List UInt8 := if m = true then 45 :: l else l
def gu (d : List UInt8) (q : Int) (m : Bool) : Int × Int :=
 if q < -(eV d : Int) then (0, 7) else if (d.length : Int) + q > 20 then (0, 4)
 else c9 (kP m (d.take ((d.length : Int) + min q 0).toNat ++ List.replicate q.toNat 48))
instance (s : List UInt8) : Decidable (jX s) := by unfold jX; infer_instance
def cX (s : List UInt8) : Int × Int :=
 if jX s then (if dN ((aO s 0).w ++ (aO s 0).b) = [] then (0, 0) else gu (dN ((aO s 0).w ++ (aO s 0).b)) (bZ (aO s 0).p - (aO s 0).b.length) (bI s 0 45 45)) else (0, 3)
theorem Ej (s : List UInt8) : (Cu.new s).fD.1.fin = 0 ↔ jX s := by
 have hk : (Cu.new s).ok := ⟨Nat.zero_le _, Nat.le_refl _⟩
 have h := BV hk rfl
 have e : (Cu.new s).aa = s := List.take_length
 rw [e] at h
 have g := qx s 0 (Nat.zero_le _)
 unfold jX
 by_cases z : (bR s 0).2 = 0
 . obtain ⟨h1, h2, h3, h4, h5, h6, h7⟩ := h.ok z
   have h2 : (Cu.new s).fD.1.e = s.length := h2
   have h4 : (Cu.new s).fD.1.p = (bR s 0).1 := h4
   unfold Cu.fin
   rw [if_neg (by omega), h2, h4]
   split <;> constructor <;> intro k <;> first | (exact absurd k (by decide)) | omega
 . have hb := h.bad z
   unfold Cu.fin
   rw [if_pos (by rw [hb]; exact z)]
   exact ⟨fun k => absurd (hb.symm.trans k) z, fun k => absurd k.2 z⟩
theorem Kg {c : Cu} (h : c.ok) : c.fD.1.ok := by
 unfold Cu.fD CO.whole CO.behind CO.m6
 repeat' split
 all_goals
  refine Gd.aq (c := c) ?_
  repeat' (first | exact Gd.self h | refine Gd.dn ?_ | refine Gd.aL ?_)
theorem Kf (s : List UInt8) : (Cu.new s).ok := ⟨Nat.zero_le _, Nat.le_refl _⟩
theorem C2 (p : List UInt8) : -1099511627776 ≤ bZ p ∧ bZ p ≤ 1099511627776 := by
 have := nB (p.filter aN)
 unfold bZ e9; repeat' split
 all_goals omega
theorem qy {s : List UInt8} (h : jX s) : (aO s 0).w.length + (aO s 0).b.length ≤ s.length := by
 obtain ⟨e, hp⟩ := vI h.1 h.2
 have h1 := congrArg List.length hp.eq
 rw [List.length_append, List.length_append, List.length_append] at h1
 generalize (aO s 0).b = b at *
 by_cases q : b = []
 . rw [q] at h1 ⊢; simp at h1 ⊢; omega
 . rw [if_neg q, List.length_cons] at h1; omega
theorem Dz {d : List UInt8} (h0 : d ≠ []) (h : (d.getD 0 0).toNat ≠ 48) : eV d < d.length := by
 rcases Nat.lt_or_ge (eV d) d.length with q | q
 . exact q
 . have hl : 0 < d.length := by cases d; exact absurd rfl h0; simp
   have := (yn (d := d) (j := d.length - 1) (by omega)).2
   rw [show d.length - 1 - (d.length - 1) = 0 by omega] at this
   exact absurd this h
structure iL (d : List UInt8) (q : Int) (j : Nat) : Prop where
 z : j ≤ eV d
 q : j = 0 ∨ q + j ≤ 0
theorem iL.last {d : List UInt8} {q : Int} {j : Nat} (hz : eV d < d.length) (h : iL d q j) : (d.take (d.length - j)).getD (d.length - j - 1) 0 = d.getD (d.length - 1 - j) 0 := by
 have := h.z
 rw [List.getD_eq_getElem?_getD, List.getElem?_take_of_lt (by omega), ← List.getD_eq_getElem?_getD, show d.length - j - 1 = d.length - 1 - j by omega]
theorem iL.next {d : List UInt8} {q : Int} {j : Nat} (hz : eV d < d.length) (h : iL d q j) (hq : q + j < 0) (hl : ((d.take (d.length - j)).getD (d.length - j - 1) 0).toNat = 48) : iL d q (j + 1) := by
 refine ⟨?_, .inr (by omega)⟩
 rcases Nat.lt_or_eq_of_le h.z with k | k
 . exact k
 . rw [h.last hz, k] at hl
   exact absurd hl (Dx hz)
theorem iL.kind {d : List UInt8} {q : Int} {m : Bool} {j : Nat} (hz : eV d < d.length) (h : iL d q j) (hq : q + j < 0) (hl : ((d.take (d.length - j)).getD (d.length - j - 1) 0).toNat ≠ 48) : gu d q m = (0, 7) := by
 have k : j = eV d := by
  rcases Nat.lt_or_eq_of_le h.z with k | k
  . rw [h.last hz] at hl; exact absurd (yn k).2 hl
  . exact k
 unfold gu; rw [if_pos (by omega)]
theorem iL.big {d : List UInt8} {q : Int} {m : Bool} {j : Nat} (h : iL d q j) (hq : ¬ q + j < 0) (hl : (d.length : Int) + q > 20) : gu d q m = (0, 4) := by
 have := h.z
 have := h.q
 unfold gu; rw [if_neg (by omega), if_pos hl]
theorem iL.read {d : List UInt8} {q : Int} {m : Bool} {j : Nat} (h : iL d q j) (hq : ¬ q + j < 0) (hl : ¬ (d.length : Int) + q > 20) : gu d q m = c9 (kP m (d.take (d.length - j) ++ List.replicate (q + j).toNat 48)) := by
 have h1 := h.z
 have h2 := h.q
 unfold gu
 rw [if_neg (by omega), if_neg hl]
 rcases Nat.lt_or_ge 0 j with k | k
 . rw [show q + j = 0 by omega, show ((d.length : Int) + min q 0).toNat = d.length - j by omega, show q.toNat = 0 by omega]; rfl
 . have : j = 0 := by omega
   subst this
   rw [show ((d.length : Int) + min q 0).toNat = d.length - 0 by omega, show q + ((0 : Nat) : Int) = q by omega]
theorem FQ (s : List UInt8) (hp : s.length ≤ 10000000) : OK 51 ([.str s]) ([]) (.tuple [.int .i64 (cX s).1, .int .i64 (cX s).2]) (none) := by
 refine au (C := la [(39, sZ), (76, tq), (77, wy), (78, wV), (79, wW), (80, wE)] [(3, [.cell 1 1 1])]) (aq ⟨AA, AK, HM, I4, I5, HQ, trivial⟩) (fn := Tryz.f51) rfl rfl rfl rfl fun hw hs => ?_
 have hok := Kf s
 have hen := Ej s
 repeat' ((conv => whnf); first | apply ak | apply aW | ((first | apply al | apply ga) <;> intro h))
 all_goals try conv => whnf
 all_goals try (refine a9.mk ?_; try dsimp only)
 all_goals (try simp only [aK, cI, cJ] at *)
 all_goals try refine stay ?_
 . exact ⟨trivial, hok, by decide, by show s.length ≤ _; omega⟩
 . exact ⟨trivial, Kg hok⟩
 . exact ⟨hen.1 ‹_›, by omega⟩
 . have := qy (hen.1 ‹_›); omega
 . have := qy (hen.1 ‹_›); rw [List.length_append]; omega
 . rw [show cX s = (0, 0) by unfold cX; rw [if_pos (hen.1 ‹_›), if_pos ‹_›]]
   refine a8.mk [] ?_ <;> (repeat' first | trivial)
 . have hn := hen.1 ‹_›
   have hwi : cX s = gu (dN ((aO s 0).w ++ (aO s 0).b)) (bZ (aO s 0).p - (aO s 0).b.length) (bI s 0 45 45) := by unfold cX; rw [if_pos hn, if_neg ‹_›]
   rw [hwi]
   have hl := qy hn
   have hp0 := C2 (aO s 0).p
   have ht := M9 ((aO s 0).w ++ (aO s 0).b)
   rw [List.length_append] at ht
   have hz := Dz ‹_› (M8 ‹_›)
   have hq0 : IntKind.i64.wrap (bZ (aO s 0).p - (aO s 0).b.length) = bZ (aO s 0).p - (aO s 0).b.length := by rw [c5]; omega
   rw [hq0]
   have hq1 : -1199511627776 ≤ bZ (aO s 0).p - (aO s 0).b.length ∧ bZ (aO s 0).p - (aO s 0).b.length ≤ 1099511627776 := by omega
   generalize dN ((aO s 0).w ++ (aO s 0).b) = d at *
   generalize bZ (aO s 0).p - (aO s 0).b.length = q at *
   generalize bI s 0 45 45 = m at *
   generalize (aO s 0).w = w at *
   generalize (aO s 0).b = b at *
   refine aU.mk Nat (iL d q) (fun j => ⟨82, [(6, .ptr 3 0), (7, .str (d.take (d.length - j)))], [.dead, .dead, .dead, .cells [.bool m, .str w, .str b, .int .i64 (q + j)]], [2]⟩) (fun j => d.length - j) [] 0 ⟨Nat.zero_le _, .inl rfl⟩ ?_ (fun j hI _ _ => ?_)
   . refine Go.VG.Sub.mk rfl ?_ ?_ ?_ ?_ <;> (repeat' first | trivial | apply ae | apply cC | apply aI | apply gC | apply bU)
     . exact List.take_length.symm
     . exact (Int.add_zero q).symm
   have hz1 := hI.z
   have hq2 := hI.q
   have hdl : (d.take (d.length - j)).length = d.length - j := by rw [List.length_take]; omega
   have hw1 : IntKind.i64.wrap (((d.take (d.length - j)).length : Int) - 1) = ((d.length - j - 1 : Nat) : Int) := by rw [c5, hdl]; omega
   have hw2 : IntKind.i64.wrap (q + j + 1) = q + j + 1 := by rw [c5]; omega
   have hw3 : ¬ q + j < 0 → (IntKind.i64.wrap (((d.take (d.length - j)).length : Int) + if 1099511627776 < q + j then 1099511627776 else q + j) > 20 ↔ (d.length : Int) + q > 20) := fun h => by
    rw [c5, hdl]
    split <;> constructor <;> intro k <;> omega
   repeat' ((conv => whnf); first | apply ak | (apply al <;> intro h) | with_reducible refine eH ?_ fun hc => ?_)
   all_goals try conv => whnf
   all_goals try (refine a9.mk ?_; try dsimp only)
   all_goals (try simp only [hw1, hw2, Int.toNat_natCast] at *)
   all_goals first | refine stay ?_ | omega | skip
   all_goals (try (exfalso; omega))
   . refine ⟨[], j + 1, hI.next hz ‹_› (by omega), ?_, by omega⟩
     refine Go.VG.Sub.mk rfl ?_ ?_ ?_ ?_ <;> (repeat' first | trivial | apply ae | apply cC | apply aI | apply gC | apply bU)
     all_goals first
      | (rw [List.take_take, show min (d.length - j - 1) (d.length - j) = d.length - (j + 1) by omega])
      | omega
   . rw [hI.kind hz ‹_› (by omega)]
     refine a8.mk [] ?_ <;> (repeat' first | trivial)
   . rw [hI.big (by omega) ((hw3 (by omega)).1 ‹_›)]
     refine a8.mk [] ?_ <;> (repeat' first | trivial)
   . have hb := fun k => ‹¬ IntKind.i64.wrap _ > 20› ((hw3 (by omega)).2 k)
     rw [hI.read (by omega) hb]
     generalize d.take (d.length - j) = D at *
     refine aU.mk Nat (fun k => k ≤ (q + j).toNat) (fun k => ⟨82, [(6, .ptr 3 0), (7, .str (D ++ List.replicate k 48))], [.dead, .dead, .dead, .cells [.bool m, .str w, .str b, .int .i64 (q + j - k)]], [2]⟩) (fun k => (q + j).toNat - k) [] 0 (Nat.zero_le _) ?_ (fun k hk _ _ => ?_)
     . refine Go.VG.Sub.mk rfl ?_ ?_ ?_ ?_ <;> (repeat' first | trivial | apply ae | apply cC | apply aI | apply gC | apply bU)
       . exact (List.append_nil D).symm
       . exact (Int.sub_zero _).symm
     have hrl : (D ++ List.replicate k (48 : UInt8)).length = D.length + k := by rw [List.length_append, List.length_replicate]
     repeat' ((conv => whnf); first | apply ak | ((first | apply al | apply jN) <;> intro h))
     all_goals try conv => whnf
     all_goals try (refine a9.mk ?_; try dsimp only)
     all_goals (try simp only [aK, cI, cJ] at *)
     all_goals first | refine stay ?_ | omega | (simp (discharger := omega) [-List.getD_eq_getElem?_getD, wR] <;> omega) | skip
     . refine ⟨[], k + 1, by omega, ?_, by omega⟩
       refine Go.VG.Sub.mk rfl ?_ ?_ ?_ ?_ <;> (repeat' first | trivial | apply ae | apply cC | apply aI | apply gC | apply bU)
       all_goals first
        | (rw [List.append_assoc, ← List.replicate_succ'])
        | (simp (discharger := omega) only [wR]; omega)
     . have em := ‹m = true›
       rw [← show k = (q + j).toNat by omega, show ∀ l, kP m l = 45 :: l from fun l => by unfold kP; rw [if_pos em]]
       refine a8.mk [] ?_ <;> (repeat' first | trivial)
     . have em := ‹m = false›
       rw [← show k = (q + j).toNat by omega, show ∀ l, kP m l = l from fun l => by unfold kP; rw [if_neg (by rw [em]; decide)]]
       refine a8.mk [] ?_ <;> (repeat' first | trivial)
 . rw [show cX s = (0, 3) by unfold cX; rw [if_neg (fun k => absurd (hen.2 k) ‹_›)]]
   refine a8.mk [] ?_ <;> (repeat' first | trivial)
def wX : Sm := fun args σ => match args, σ with
 | [.str s], [] => some (s.length ≤ 10000000, .tuple [.int .i64 (cX s).1, .int .i64 (cX s).2], none)
 | _, _ => none
theorem I6 : aw 51 wX := by
 intro args sg pre x r he hp
 unfold wX at he
 split at he <;> cases he
 . exact FQ (hp := hp) ..
end Go.Proofs.YtllncocibkgjkaaGreat
