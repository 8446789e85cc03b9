/-
  A part of the proof.
-/
import Derived.Test.YtllncocibkgjkaaGreatKF
set_option linter.unusedSimpArgs false
set_option linter.unusedVariables false
set_option maxHeartbeats 4000000
namespace Go.Proofs.YtllncocibkgjkaaGreat
open Go Go.VG
set_option maxRecDepth 100000
theorem yV {p : List UInt8} {i : Nat} (hi : i < p.length) (h : 48 ≤ (p.getD i 0).toNat ∧ (p.getD i 0).toNat ≤ 57) : bO ((p.take (i + 1)).filter aN) = min 1099511627776 (10 * bO ((p.take i).filter aN) + ((p.getD i 0).toNat - 48)) := by
 rw [p9 hi, List.filter_append, List.filter_cons_of_pos (by unfold aN; rw [decide_eq_true_eq]; exact h)]
 exact uf _ _
theorem rF {p : List UInt8} {i : Nat} (hi : i < p.length) (h : ¬ (48 ≤ (p.getD i 0).toNat ∧ (p.getD i 0).toNat ≤ 57)) : bO ((p.take (i + 1)).filter aN) = bO ((p.take i).filter aN) := by
 rw [p9 hi, List.filter_append, List.filter_cons_of_neg (by unfold aN; rw [decide_eq_true_eq]; exact h)]
 simp
theorem Gz (p : List UInt8) (hp : p.length ≤ 100000000) : OK 82 ([.str p]) ([]) (.int .i64 (bZ p)) (none) := by
 refine au (C := cx []) (aq trivial) (fn := Tryz.f82) rfl rfl rfl rfl fun hw hs => ?_
 have hne : p ≠ [] → 0 < p.length := fun h => by cases p; exact absurd rfl h; simp
 repeat' ((conv => whnf); first | apply ak | ((first | apply al | apply ga) <;> intro h) | with_reducible refine eH ?_ fun hc => ?_)
 all_goals try conv => whnf
 all_goals try (refine a9.mk ?_; try dsimp only)
 all_goals (try simp only [aK, cI, cJ] at *)
 all_goals first | refine stay ?_ | trivial | skip
 . have e := ‹p = _›
   subst e
   refine a8.mk [] ?_ <;> (repeat' first | trivial)
 . exact hne ‹_›
 . refine aU.mk Nat (fun i => i ≤ p.length) (fun i => ⟨39, [(0, .str p), (3, .int .i64 (-1)), (4, .int .i64 (bO ((p.take i).filter aN))), (5, .int .i64 i)], [], []⟩) (fun i => p.length - i) [] 0 (Nat.zero_le _) ?_ (fun i hle _ _ => ?_)
   . refine Go.VG.Sub.mk rfl ?_ ?_ ?_ ?_ <;> (repeat' first | trivial)
   have hcl := nB ((p.take i).filter aN)
   have hb : (p.getD i 0).toNat < 256 := UInt8.toNat_lt _
   have e1 : IntKind.i64.wrap (10 * (bO ((p.take i).filter aN) : Int)) = 10 * (bO ((p.take i).filter aN) : Int) := wI (by omega) (by omega)
   have e2 : IntKind.i64.wrap ((p.getD i 0).toNat : Int) = ((p.getD i 0).toNat : Int) := wI (by omega) (by omega)
   have e3 : IntKind.i64.wrap (10 * (bO ((p.take i).filter aN) : Int) + ((p.getD i 0).toNat : Int)) = 10 * (bO ((p.take i).filter aN) : Int) + ((p.getD i 0).toNat : Int) := wI (by omega) (by omega)
   have e4 : IntKind.i64.wrap (10 * (bO ((p.take i).filter aN) : Int) + ((p.getD i 0).toNat : Int) - 48) = 10 * (bO ((p.take i).filter aN) : Int) + ((p.getD i 0).toNat : Int) - 48 := by rw [c5]; omega
   repeat' ((conv => whnf); first | apply ak | (apply al <;> intro h) | with_reducible refine c8 ?_ fun hc => ?_)
   all_goals try conv => whnf
   all_goals try (refine a9.mk ?_; try dsimp only)
   all_goals (try simp only [e1, e2, e3, e4] at *)
   all_goals first | refine stay ?_ | omega | skip
   . refine ⟨[], i + 1, by omega, ?_, by omega⟩
     refine Go.VG.Sub.mk rfl ?_ ?_ ?_ ?_ <;> (repeat' first | trivial | apply ae | apply aI)
     all_goals first
      | (rw [yV (by omega) (by omega)]; split <;> omega)
      | (simp (discharger := omega) only [wR]; omega)
   . refine ⟨[], i + 1, by omega, ?_, by omega⟩
     refine Go.VG.Sub.mk rfl ?_ ?_ ?_ ?_ <;> (repeat' first | trivial | apply ae | apply aI)
     all_goals first
      | (rw [rF (by omega) (by omega)])
      | (simp (discharger := omega) only [wR]; omega)
   . refine ⟨[], i + 1, by omega, ?_, by omega⟩
     refine Go.VG.Sub.mk rfl ?_ ?_ ?_ ?_ <;> (repeat' first | trivial | apply ae | apply aI)
     all_goals first
      | (rw [rF (by omega) (by omega)])
      | (simp (discharger := omega) only [wR]; omega)
   . rw [show bZ p = (-1) * (bO (p.filter aN) : Int) by unfold bZ e9; rw [if_neg ‹p ≠ []›]; (first | rw [if_pos (by omega)] | rw [if_neg (by omega)]); omega]
     rw [List.take_of_length_le (by omega)] at hcl ⊢
     refine a8.mk [] ?_ <;> (repeat' first | trivial | apply ae | apply aI)
     all_goals (rw [c5]; omega)
 . refine aU.mk Nat (fun i => i ≤ p.length) (fun i => ⟨39, [(0, .str p), (3, .int .i64 1), (4, .int .i64 (bO ((p.take i).filter aN))), (5, .int .i64 i)], [], []⟩) (fun i => p.length - i) [] 0 (Nat.zero_le _) ?_ (fun i hle _ _ => ?_)
   . refine Go.VG.Sub.mk rfl ?_ ?_ ?_ ?_ <;> (repeat' first | trivial)
   have hcl := nB ((p.take i).filter aN)
   have hb : (p.getD i 0).toNat < 256 := UInt8.toNat_lt _
   have e1 : IntKind.i64.wrap (10 * (bO ((p.take i).filter aN) : Int)) = 10 * (bO ((p.take i).filter aN) : Int) := wI (by omega) (by omega)
   have e2 : IntKind.i64.wrap ((p.getD i 0).toNat : Int) = ((p.getD i 0).toNat : Int) := wI (by omega) (by omega)
   have e3 : IntKind.i64.wrap (10 * (bO ((p.take i).filter aN) : Int) + ((p.getD i 0).toNat : Int)) = 10 * (bO ((p.take i).filter aN) : Int) + ((p.getD i 0).toNat : Int) := wI (by omega) (by omega)
   have e4 : IntKind.i64.wrap (10 * (bO ((p.take i).filter aN) : Int) + ((p.getD i 0).toNat : Int) - 48) = 10 * (bO ((p.take i).filter aN) : Int) + ((p.getD i 0).toNat : Int) - 48 := by rw [c5]; omega
   repeat' ((conv => whnf); first | apply ak | (apply al <;> intro h) | with_reducible refine c8 ?_ fun hc => ?_)
   all_goals try conv => whnf
   all_goals try (refine a9.mk ?_; try dsimp only)
   all_goals (try simp only [e1, e2, e3, e4] at *)
   all_goals first | refine stay ?_ | omega | skip
   . refine ⟨[], i + 1, by omega, ?_, by omega⟩
     refine Go.VG.Sub.mk rfl ?_ ?_ ?_ ?_ <;> (repeat' first | trivial | apply ae | apply aI)
     all_goals first
      | (rw [yV (by omega) (by omega)]; split <;> omega)
      | (simp (discharger := omega) only [wR]; omega)
   . refine ⟨[], i + 1, by omega, ?_, by omega⟩
     refine Go.VG.Sub.mk rfl ?_ ?_ ?_ ?_ <;> (repeat' first | trivial | apply ae | apply aI)
     all_goals first
      | (rw [rF (by omega) (by omega)])
      | (simp (discharger := omega) only [wR]; omega)
   . refine ⟨[], i + 1, by omega, ?_, by omega⟩
     refine Go.VG.Sub.mk rfl ?_ ?_ ?_ ?_ <;> (repeat' first | trivial | apply ae | apply aI)
     all_goals first
      | (rw [rF (by omega) (by omega)])
      | (simp (discharger := omega) only [wR]; omega)
   . rw [show bZ p = 1 * (bO (p.filter aN) : Int) by unfold bZ e9; rw [if_neg ‹p ≠ []›]; (first | rw [if_pos (by omega)] | rw [if_neg (by omega)]); omega]
     rw [List.take_of_length_le (by omega)] at hcl ⊢
     refine a8.mk [] ?_ <;> (repeat' first | trivial | apply ae | apply aI)
     all_goals (rw [c5]; omega)
def xB : Sm := fun args σ => match args, σ with
 | [.str p], [] => some (p.length ≤ 100000000, .int .i64 (bZ p), none)
 | _, _ => none
theorem IG : aw 82 xB := by
 intro args sg pre x r he hp
 unfold xB at he
 split at he <;> cases he
 . exact Gz (hp := hp) ..
theorem GB (d : List UInt8) (hp : d.length ≤ 100000000) : OK 83 ([.str d]) ([]) (.int .i64 (eV d)) (none) := by
 refine au (C := cx []) (aq trivial) (fn := Tryz.f83) rfl rfl rfl rfl fun hw hs => ?_
 all_goals try conv => whnf
 all_goals try (refine a9.mk ?_; try dsimp only)
 refine aU.mk Nat (fun i => i ≤ eV d) (fun i => ⟨21, [(0, .str d), (3, .int .i64 i)], [], []⟩) (fun i => d.length - i) [] 0 (Nat.zero_le _) ?_ (fun i hi _ _ => ?_)
 . refine Go.VG.Sub.mk rfl ?_ ?_ ?_ ?_ <;> (repeat' first | trivial)
 have hz := Dy d
 have hw1 : IntKind.i64.wrap ((d.length : Int) - 1) = (d.length : Int) - 1 := by rw [c5]; omega
 have hw2 : IntKind.i64.wrap ((d.length : Int) - 1 - i) = (d.length : Int) - 1 - i := by rw [c5]; omega
 have hx : ((d.length : Int) - 1 - i).toNat = d.length - 1 - i := by omega
 repeat' ((conv => whnf); first | apply ak | (apply al <;> intro h) | with_reducible refine eH ?_ fun hc => ?_)
 all_goals try conv => whnf
 all_goals try (refine a9.mk ?_; try dsimp only)
 all_goals (try simp only [hw1, hw2, hx] at *)
 all_goals first | refine stay ?_ | omega | skip
 . refine ⟨[], i + 1, ?_, ?_, by omega⟩
   . rcases Nat.lt_or_eq_of_le hi with k | k
     . exact k
     . have := Dx (d := d) (by omega)
       rw [← k] at this
       omega
   refine Go.VG.Sub.mk rfl ?_ ?_ ?_ ?_ <;> (repeat' first | trivial | apply ae | apply aI)
   all_goals (simp (discharger := omega) only [wR]; omega)
 . rw [show eV d = i by
     rcases Nat.lt_or_eq_of_le hi with k | k
     . have := (yn k).2; omega
     . exact k.symm]
   refine a8.mk [] ?_ <;> (repeat' first | trivial)
 . rw [show eV d = i by omega]
   refine a8.mk [] ?_ <;> (repeat' first | trivial)
def xD : Sm := fun args σ => match args, σ with
 | [.str d], [] => some (d.length ≤ 100000000, .int .i64 (eV d), none)
 | _, _ => none
theorem IJ : aw 83 xD := by
 intro args sg pre x r he hp
 unfold xD at he
 split at he <;> cases he
 . exact GB (hp := hp) ..
theorem Hp {d : List UInt8} {k : Nat} (h0 : d ≠ []) (hd : aL d) (h1 : (d.getD 0 0).toNat ≠ 48) : cn (d ++ List.replicate k 48) = true := by
 have hl : 0 < d.length := by cases d; exact absurd rfl h0; simp
 refine uM (by simp [h0]) (fun q => ?_) fun b hb => ?_
 . rw [pX hl] at q; exact absurd q h1
 . rcases List.mem_append.1 hb with hb | hb
   . exact hd b hb
   . rw [(List.mem_replicate.1 hb).2]; decide
theorem KD {E : List UInt8} {m : Bool} (hf : cn E = true) (hl : 20 < E.length) : c9 (kP m E) = (0, 4) := by
 have hv := uK (n := 19) hf (by omega)
 have hd := mP hf
 have h0 := iN hd (i := 0) (by omega)
 have p : (10 : Nat) ^ (19 + 1) = 100000000000000000000 := by decide
 rw [p] at hv
 cases m with
 | true =>
   unfold c9 kP cM
   rw [if_pos rfl, if_neg (by simp), if_pos ⟨hf, fun e => by rw [show List.drop 1 (45 :: E) = E from rfl] at e; rw [e] at hl; simp at hl⟩, if_neg (by show ¬ bh E ≤ _; omega)]
   rfl
 | false =>
   show c9 E = (0, 4)
   unfold c9 cM
   rw [if_pos (.inr (by omega)), if_pos hf, if_neg (by omega)]
theorem Dk {d : List UInt8} {q : Int} {m : Bool} (h0 : d ≠ []) (hd : aL d) (h1 : (d.getD 0 0).toNat ≠ 48) (hq : ¬ q < -(eV d : Int)) : gu d q m = c9 (kP m (d.take ((d.length : Int) + min q 0).toNat ++ List.replicate q.toNat 48)) := by
 have hz := Dz h0 h1
 unfold gu
 rw [if_neg hq]
 split
 . rename_i hl
   have hp : 0 < ((d.length : Int) + min q 0).toNat := by omega
   refine (KD (Hp ?_ ?_ ?_) ?_).symm
   . intro e
     have := congrArg List.length e
     rw [List.length_take, List.length_nil] at this
     omega
   . exact fun b hb => hd b (List.mem_of_mem_take hb)
   . rw [List.getD_eq_getElem?_getD, List.getElem?_take_of_lt hp, ← List.getD_eq_getElem?_getD]; exact h1
   . rw [List.length_append, List.length_take, List.length_replicate]; omega
 . rfl
theorem p_len (s : List UInt8) : (aO s 0).p.length ≤ s.length := by
 unfold aO
 dsimp only
 split
 . unfold sub; rw [List.length_drop, List.length_take]; omega
 . exact Nat.zero_le _
theorem Dc {s : List UInt8} (h : jX s) : aL ((aO s 0).w ++ (aO s 0).b) ∧ 0 < s.length := by
 obtain ⟨e, hp⟩ := vI h.1 h.2
 refine ⟨fun b hb => (List.mem_append.1 hb).elim (hp.wd b) (hp.bd b), ?_⟩
 have h1 := congrArg List.length hp.eq
 have h2 : 0 < (aO s 0).w.length := by have := hp.w0; revert this; cases (aO s 0).w <;> simp
 rw [List.length_append, List.length_append] at h1
 omega
theorem Gw (s : List UInt8) (hp : s.length ≤ 10000000) : OK 54 ([.str s]) ([]) (.tuple [.int .i64 (cX s).1, .int .i64 (cX s).2]) (none) := by
 refine au (C := cx [(81, xz), (82, xB), (83, xD), (84, xn)]) (aq ⟨IE, IG, IJ, Iv, trivial⟩) (fn := Tryz.f54) rfl rfl rfl rfl fun hw hs => ?_
 repeat' ((conv => whnf); first | apply ak | apply aW | (apply al <;> intro h))
 all_goals try conv => whnf
 all_goals try (refine a9.mk ?_; try dsimp only)
 all_goals (try simp only [aK, cI, cJ] at *)
 all_goals first | refine stay ?_ | omega | skip
 . have := qy (s := s) ⟨by have := ‹((aO s 0).e : Int) = s.length›; exact Int.ofNat.inj this, ‹_›⟩; omega
 . have hn : jX s := ⟨by have := ‹((aO s 0).e : Int) = s.length›; exact Int.ofNat.inj this, ‹_›⟩
   have hl := qy hn
   generalize hv : (aO s 0).w ++ (aO s 0).b = v
   have hvl : v.length ≤ 10000000 := by rw [← hv, List.length_append]; omega
   refine aU.mk (List UInt8) (fun x => dN v = dN x ∧ x.length ≤ v.length) (fun x => ⟨77, [(0, .str s), (4, .ptr 0 0), (5, .str x)], [.cells (eNP (aO s 0))], []⟩) (fun x => x.length) [] v ⟨rfl, Nat.le_refl _⟩ ?_ (fun x ⟨hx, hl⟩ _ _ => ?_)
   . refine Go.VG.Sub.mk rfl ?_ ?_ ?_ ?_ <;> (repeat' first | trivial)
   have hne : x ≠ [] → 0 < x.length := fun h => by cases x; exact absurd rfl h; simp
   have hdl : (x.drop 1).length = x.length - 1 := List.length_drop
   have hzl := Dy x
   have hp0 := C2 (aO s 0).p
   have hq1 : -1199511627776 ≤ bZ (aO s 0).p - (aO s 0).b.length ∧ bZ (aO s 0).p - (aO s 0).b.length ≤ 1099511627776 := by omega
   have hq0 : IntKind.i64.wrap (bZ (aO s 0).p - (aO s 0).b.length) = bZ (aO s 0).p - (aO s 0).b.length := by rw [c5]; omega
   have hq2 : IntKind.i64.wrap ((x.length : Int) + (bZ (aO s 0).p - (aO s 0).b.length)) = (x.length : Int) + (bZ (aO s 0).p - (aO s 0).b.length) := by rw [c5]; omega
   have hq3 : IntKind.i64.wrap (0 - (eV x : Int)) = -(eV x : Int) := by rw [c5]; omega
   have hR : dN v ≠ [] → cX s = gu (dN v) (bZ (aO s 0).p - (aO s 0).b.length) (bI s 0 45 45) := fun h => by unfold cX; rw [if_pos hn, hv, if_neg h]
   repeat' ((conv => whnf); first | apply ak | apply aW | ((first | apply al | apply ga) <;> intro h) | with_reducible refine eH ?_ fun hc => ?_)
   all_goals try conv => whnf
   all_goals try (refine a9.mk ?_; try dsimp only)
   all_goals (try simp only [hq0, hq2, hq3] at *)
   all_goals generalize bZ (aO s 0).p - (aO s 0).b.length = q at *
   all_goals (try simp only [aK, cI, cJ] at *)
   all_goals first | refine stay ?_ | trivial | omega | skip
   all_goals (try (exfalso; exact ‹x ≠ []› ‹x = []›))
   . have e : dN v = [] := by rw [hx, ‹x = []›]; rfl
     rw [show cX s = (0, 0) by unfold cX; rw [if_pos hn, hv, if_pos e]]
     refine a8.mk [] ?_ <;> (repeat' first | trivial)
   . exact hne ‹_›
   . have := hne ‹_›
     exact ⟨by omega, by omega⟩
   . have := hne ‹_›
     refine ⟨[], x.drop 1, ⟨by rw [hx, CX ‹_› (by omega)], by omega⟩, ?_, by omega⟩
     refine Go.VG.Sub.mk rfl ?_ ?_ ?_ ?_ <;> (repeat' first | trivial)
   . have := p_len s; omega
   all_goals
    have e : dN v = x := by rw [hx, yc (.inr (by omega))]
    rw [e] at hR
    have hR := hR ‹x ≠ []›
    have hd : aL x := by rw [← e]; exact M7 (by rw [← hv]; exact (Dc hn).1)
    have hs0 := (Dc hn).2
   . rw [hR, show gu x q (bI s 0 45 45) = (0, 7) by unfold gu; rw [if_pos (by omega)]]
     refine a8.mk [] ?_ <;> (repeat' first | trivial)
   . rw [hR, show gu x q (bI s 0 45 45) = (0, 4) by unfold gu; rw [if_neg (by omega), if_pos (by omega)]]
     refine a8.mk [] ?_ <;> (repeat' first | trivial)
   . rw [Dk ‹x ≠ []› hd (by omega) (by omega), show ((x.length : Int) + min q 0) = x.length + q by omega] at hR
     have hyl : (x.take ((x.length : Int) + q).toNat).length ≤ 10000000 := by first | omega | (rw [List.length_take]; omega)
     generalize hD : x.take ((x.length : Int) + q).toNat = y at *
     refine aU.mk Nat (fun i => i ≤ q.toNat) (fun i => ⟨77, [(0, .str s), (5, .str (y ++ List.replicate i 48)), (6, .int .i64 q), (7, .int .i64 i)], [.dead], []⟩) (fun i => q.toNat - i) [] 0 (Nat.zero_le _) ?_ (fun i hi _ _ => ?_)
     . refine Go.VG.Sub.mk rfl ?_ ?_ ?_ ?_ <;> (repeat' first | trivial | apply ae | apply cC)
       all_goals exact (List.append_nil y).symm
     have hrl : (y ++ List.replicate i (48 : UInt8)).length = y.length + i := by rw [List.length_append, List.length_replicate]
     repeat' ((conv => whnf); first | apply ak | (apply al <;> intro h) | with_reducible refine eH ?_ fun hc => ?_)
     all_goals try conv => whnf
     all_goals try (refine a9.mk ?_; try dsimp only)
     all_goals (try simp only [aK, cI, cJ] at *)
     all_goals first | refine stay ?_ | trivial | omega | (simp (discharger := omega) [-List.getD_eq_getElem?_getD, wR] <;> omega) | skip
     . refine ⟨[], i + 1, by omega, ?_, by omega⟩
       refine Go.VG.Sub.mk rfl ?_ ?_ ?_ ?_ <;> (repeat' first | trivial | apply ae | apply cC | apply aI)
       all_goals first
        | (rw [List.append_assoc, ← List.replicate_succ'])
        | omega
     . rw [hR, ← show i = q.toNat by omega, eM.2 ⟨hs0, .inl (by omega)⟩]
       refine a8.mk [] ?_ <;> (repeat' first | trivial)
     . rw [hR, ← show i = q.toNat by omega, oN.2 (fun k => by rcases k.2 with k | k <;> omega)]
       refine a8.mk [] ?_ <;> (repeat' first | trivial)
   . rw [Dk ‹x ≠ []› hd (by omega) (by omega), show ((x.length : Int) + min q 0) = x.length by omega, Int.toNat_natCast, List.take_length] at hR
     have hyl : (x).length ≤ 10000000 := by first | omega | (rw [List.length_take]; omega)
     generalize hD : x = y at *
     refine aU.mk Nat (fun i => i ≤ q.toNat) (fun i => ⟨77, [(0, .str s), (5, .str (y ++ List.replicate i 48)), (6, .int .i64 q), (7, .int .i64 i)], [.dead], []⟩) (fun i => q.toNat - i) [] 0 (Nat.zero_le _) ?_ (fun i hi _ _ => ?_)
     . refine Go.VG.Sub.mk rfl ?_ ?_ ?_ ?_ <;> (repeat' first | trivial | apply ae | apply cC)
       all_goals exact (List.append_nil y).symm
     have hrl : (y ++ List.replicate i (48 : UInt8)).length = y.length + i := by rw [List.length_append, List.length_replicate]
     repeat' ((conv => whnf); first | apply ak | (apply al <;> intro h) | with_reducible refine eH ?_ fun hc => ?_)
     all_goals try conv => whnf
     all_goals try (refine a9.mk ?_; try dsimp only)
     all_goals (try simp only [aK, cI, cJ] at *)
     all_goals first | refine stay ?_ | trivial | omega | (simp (discharger := omega) [-List.getD_eq_getElem?_getD, wR] <;> omega) | skip
     . refine ⟨[], i + 1, by omega, ?_, by omega⟩
       refine Go.VG.Sub.mk rfl ?_ ?_ ?_ ?_ <;> (repeat' first | trivial | apply ae | apply cC | apply aI)
       all_goals first
        | (rw [List.append_assoc, ← List.replicate_succ'])
        | (simp (discharger := omega) only [wR]; omega)
     . rw [hR, ← show i = q.toNat by omega, eM.2 ⟨hs0, .inl (by omega)⟩]
       refine a8.mk [] ?_ <;> (repeat' first | trivial)
     . rw [hR, ← show i = q.toNat by omega, oN.2 (fun k => by rcases k.2 with k | k <;> omega)]
       refine a8.mk [] ?_ <;> (repeat' first | trivial)
 . rw [show cX s = (0, 3) by unfold cX; rw [if_neg (fun k => by have e : (aO s 0).e = s.length := k.1; omega)]]
   refine a8.mk [] ?_ <;> (repeat' first | trivial)
 . rw [show cX s = (0, 3) by unfold cX; rw [if_neg (fun k => by have e : (aO s 0).c = 0 := k.2; omega)]]
   refine a8.mk [] ?_ <;> (repeat' first | trivial)
def xA : Sm := fun args σ => match args, σ with
 | [.str s], [] => some (s.length ≤ 10000000, .tuple [.int .i64 (cX s).1, .int .i64 (cX s).2], none)
 | _, _ => none
theorem IF : aw 54 xA := by
 intro args sg pre x r he hp
 unfold xA at he
 split at he <;> cases he
 . exact Gw (hp := hp) ..
end Go.Proofs.YtllncocibkgjkaaGreat
