/-
  A part of the proof.
-/
import Derived.Test.YtllncocibkgjkaaTRc
set_option linter.unusedSimpArgs false
set_option linter.unusedVariables false
set_option maxHeartbeats 4000000
namespace Go.Proofs.Ytllncocibkgjkaa
open Go Go.VG
set_option maxRecDepth 100000
theorem jY (t : Tk) : (⟨byte (t.k.toNat : Int), t.t⟩ : Tk) = t := by
 have h : byte (t.k.toNat : Int) = t.k := UInt8.toNat_inj.1 (by have := mB (n := t.k.toNat) ⟨by omega, by have := t.k.toNat_lt; omega⟩; omega)
 rw [h]
theorem l0 : ({ data := #[] } : ByteArray).data.toList = [] := rfl
theorem np {l : List V} {L a : List Nd} (h : l = L.map aX) : ∃ M : List Nd, l ++ a.map aX = M.map aX := ⟨L ++ a, by rw [h, List.map_append]⟩
structure LInv (k : Nat) (c : Cu) (x : Nat × Tk × Cu × List Nd) : Prop where
 live : x.2.2.1.live
 s : x.2.2.1.s = c.s
 e : x.2.2.1.e = c.e
 acc : x.2.2.2.length + 1 + c.p ≤ x.2.2.1.p
 n : x.2.2.1.e - x.2.2.1.p + 1 ≤ x.1
 r : aV (gv k) c = er (gv k) x.1 x.2.1 x.2.2.1 x.2.2.2
-- #name trValue (*jtree.reader).value
def gH (k : Nat) : dC := fun args σ => match args, σ with
 | [.ptr 0 0, .agg [.int .u8 a, .str tt], .str key, .int .i64 d], [.cells [.ptr 1 0, .buf 2], .cells [.str s, .int .i64 (.ofNat p), .int .i64 (.ofNat e), .int .i64 cc], .buf 4 0 l] =>
   some ((0 ≤ a ∧ a ≤ 255) ∧ (⟨s, p, e, cc⟩ : Cu).live ∧ d + k = 32 ∧ (∃ L : List Nd, l = L.map aX) ∧ l.length + (e - p) + 1 ≤ 100000000,
    (gv k ⟨byte a, tt⟩ key ⟨s, p, e, cc⟩).1 ≠ 0, .iface 100 (.int .i64 (gv k ⟨byte a, tt⟩ key ⟨s, p, e, cc⟩).1), some [.dead, .dead, .dead, .buf 1 0 []],
    .tuple [], some [.cells [.ptr 1 0, .buf 2], .cells (eC (gv k ⟨byte a, tt⟩ key ⟨s, p, e, cc⟩).2.2), .buf 4 0 (l ++ (gv k ⟨byte a, tt⟩ key ⟨s, p, e, cc⟩).2.1.map aX)])
 | _, _ => none
theorem DI (k : Nat) (hv : dP 56 (gH k)) (c : Cu) (l : List V) (d : Int) (hp : c.live ∧ d + k = 32 ∧ (∃ L : List Nd, l = L.map aX) ∧ l.length + (c.e - c.p) ≤ 100000000) (hc : ¬ ((aV (gv k) c).1 ≠ 0)) : OK 83 ([.ptr 0 0, .int .i64 d]) ([.cells [.ptr 1 0, .buf 2], .cells (eC c), .buf 4 0 l]) (.tuple []) (some [.cells [.ptr 1 0, .buf 2], .cells (eC (aV (gv k) c).2.2), .buf 4 0 (l ++ (aV (gv k) c).2.1.map aX)]) := by
 refine az (C := lq [] [(57, jM), (56, gH k)]) (n6 trivial ⟨lJ, hv, trivial⟩) (fn := Try.f83) rfl rfl rfl rfl fun hw hs => ?_
 have hn := fun h => bH hp.1 h
 repeat' ((conv => whnf); first | with_reducible refine fL ?_ (fun h => ?_) fun h => ?_ | (apply ay <;> intro h))
 all_goals try conv => whnf
 all_goals try (refine af.mk ?_; try dsimp only)
 . exact ⟨trivial, hp.1.1, hp.1.2.2⟩
 . exfalso
   unfold aV at hc
   rw [if_pos (by assumption)] at hc
   exact hc (by assumption)
 . simp only [aO] at *
   have hr : aV (gv k) c = (0, [], c.next.1) := by unfold aV; rw [if_neg (by assumption), if_pos (by omega)]
   rw [hr]
   refine ah.mk [] ?_ <;> (repeat' first | trivial | apply ak | apply aJ)
   simp
 simp only [aO] at *
 have hn := hn (by omega)
 refine cg.mk (Nat × Tk × Cu × List Nd) (LInv k c) (fun x => ⟨25, [(0, .ptr 0 0), (1, .int .i64 d), (4, .ptr 3 0)], [.cells [.ptr 1 0, .buf 2], .cells (eC x.2.2.1), .buf 4 0 (l ++ x.2.2.2.map aX), .cells (eT x.2.1)], [2]⟩) (fun x => x.1) [] (c.next.1.e - c.next.1.p + 1, c.next.2, c.next.1, []) ⟨hn.1, hn.2.1, hn.2.2.1, by show 0 + 1 + c.p ≤ c.next.1.p; omega, Nat.le_refl _, by unfold aV; rw [if_neg (by assumption), if_neg (by omega)]⟩ ?_ (fun ⟨n, t, c', acc⟩ hI _ _ => ?_)
 . refine Go.VG.Sub.mk rfl ?_ ?_ ?_ ?_ <;> (repeat' first | trivial | apply ak | apply aJ)
   simp
 obtain ⟨i1, i2, i3, i4, i5, i6⟩ := hI
 dsimp only at i1 i2 i3 i4 i5 i6
 obtain ⟨n, rfl⟩ : ∃ m, n = m + 1 := ⟨n - 1, by omega⟩
 rw [er] at i6
 have fit := fM k t [] c' i1
 obtain ⟨L, hL⟩ := hp.2.2.1
 have hma : (acc.map aX).length = acc.length := List.length_map ..
 have hpe := i1.1.1
 repeat' ((conv => whnf); first | with_reducible refine fL ?_ (fun h => ?_) fun h => ?_ | apply iN | (apply ay <;> intro h))
 all_goals try conv => whnf
 all_goals try (refine af.mk ?_; try dsimp only)
 all_goals (try simp only [aO, jY, l0] at *)
 all_goals generalize gv k t [] c' = r at *
 all_goals skip
 . exact ⟨⟨by omega, by have := t.k.toNat_lt; omega⟩, i1, hp.2.1, np hL, by have := hp.2.2.2; rw [List.length_append, hma, i3]; omega⟩
 . rw [if_pos (by assumption)] at i6
   rw [i6] at hc
   exact hc (by assumption)
 . have f := fit (by omega)
   exact ⟨trivial, f.live.1, f.live.2.2⟩
 . rw [if_neg (by assumption), if_pos (by assumption)] at i6
   rw [i6] at hc
   exact hc (by assumption)
 . rw [if_neg (by assumption), if_neg (by assumption), if_pos (by omega)] at i6
   rw [i6]
   refine ah.mk [] ?_ <;> (repeat' first | trivial | apply ak | apply aJ)
   rw [List.map_append, List.append_assoc]
 all_goals
  have h44 : r.2.2.next.2.k.toNat = 44 := by
   refine Decidable.byContradiction fun q => hc ?_
   rw [if_neg (by assumption), if_neg (by assumption), if_neg (by omega), if_pos q] at i6
   rw [i6]
   exact (by decide : (3 : Int) ≠ 0)
 . rw [h44]; rfl
 all_goals
  have f := fit (by omega)
  obtain ⟨o1, o2, o3, o4, _⟩ := bH f.live (by omega)
  have f2 := f.p; have f3 := f.e; have f4 := f.len; have f5 := f.s
 . exact ⟨trivial, o1.1, o1.2.2⟩
 . rw [if_neg (by assumption), if_neg (by assumption), if_neg (by omega), if_neg (fun q => q h44), if_pos (by assumption)] at i6
   rw [i6] at hc
   exact hc (by assumption)
 . rw [if_neg (by assumption), if_neg (by assumption), if_neg (by omega), if_neg (fun q => q h44), if_neg (by assumption)] at i6
   obtain ⟨u1, u2, u3, u4, _⟩ := bH o1 (by omega)
   have u5 := u1.1.1
   refine ⟨[], (n, r.2.2.next.1.next.2, r.2.2.next.1.next.1, acc ++ r.2.1), ⟨u1, by show _ = c.s; rw [u2, o2, f5, i2], by show _ = c.e; rw [u3, o3, f3, i3], by show (acc ++ r.2.1).length + 1 + c.p ≤ r.2.2.next.1.next.1.p; rw [List.length_append]; omega, by show r.2.2.next.1.next.1.e - r.2.2.next.1.next.1.p + 1 ≤ n; rw [u3, o3, f3] at u5 ⊢; omega, i6⟩, ?_, Nat.lt_succ_self n⟩
   refine Go.VG.Sub.mk rfl ?_ ?_ ?_ ?_ <;> (repeat' first | trivial | apply ak | apply aJ)
   rw [List.map_append, List.append_assoc]
theorem Gt (k : Nat) (hv : dP 56 (gH k)) (c : Cu) (l : List V) (d : Int) (hp : c.live ∧ d + k = 32 ∧ (∃ L : List Nd, l = L.map aX) ∧ l.length + (c.e - c.p) ≤ 100000000) (hc : (aV (gv k) c).1 ≠ 0) : la 83 ([.ptr 0 0, .int .i64 d]) ([.cells [.ptr 1 0, .buf 2], .cells (eC c), .buf 4 0 l]) (.iface 100 (.int .i64 (aV (gv k) c).1)) (some [.dead, .dead, .dead, .buf 1 0 []]) := by
 refine lU (C := lq [] [(57, jM), (56, gH k)]) (n6 trivial ⟨lJ, hv, trivial⟩) (fn := Try.f83) rfl rfl rfl rfl fun hw hs => ?_
 have hn := fun h => bH hp.1 h
 repeat' ((conv => whnf); first | with_reducible refine fL ?_ (fun h => ?_) fun h => ?_ | apply al | (apply ay <;> intro h))
 all_goals try conv => whnf
 all_goals try (refine af.mk ?_; try dsimp only)
 . exact ⟨trivial, hp.1.1, hp.1.2.2⟩
 . simp only [aO] at *
   have hr : aV (gv k) c = (c.aE, [], c) := by unfold aV; rw [if_pos (by assumption)]
   rw [hr]
 . (refine c9.mk [] ?_ <;> (repeat' first | trivial | rfl | apply ak); done)
 . exfalso
   simp only [aO] at *
   have hr : aV (gv k) c = (0, [], c.next.1) := by unfold aV; rw [if_neg (by assumption), if_pos (by omega)]
   rw [hr] at hc
   exact hc rfl
 simp only [aO] at *
 have hn := hn (by omega)
 refine cg.mk (Nat × Tk × Cu × List Nd) (LInv k c) (fun x => ⟨25, [(0, .ptr 0 0), (1, .int .i64 d), (4, .ptr 3 0)], [.cells [.ptr 1 0, .buf 2], .cells (eC x.2.2.1), .buf 4 0 (l ++ x.2.2.2.map aX), .cells (eT x.2.1)], [2]⟩) (fun x => x.1) [] (c.next.1.e - c.next.1.p + 1, c.next.2, c.next.1, []) ⟨hn.1, hn.2.1, hn.2.2.1, by show 0 + 1 + c.p ≤ c.next.1.p; omega, Nat.le_refl _, by unfold aV; rw [if_neg (by assumption), if_neg (by omega)]⟩ ?_ (fun ⟨n, t, c', acc⟩ hI _ _ => ?_)
 . refine Go.VG.Sub.mk rfl ?_ ?_ ?_ ?_ <;> (repeat' first | trivial | apply ak | apply aJ)
   simp
 obtain ⟨i1, i2, i3, i4, i5, i6⟩ := hI
 dsimp only at i1 i2 i3 i4 i5 i6
 obtain ⟨n, rfl⟩ : ∃ m, n = m + 1 := ⟨n - 1, by omega⟩
 rw [er] at i6
 have fit := fM k t [] c' i1
 obtain ⟨L, hL⟩ := hp.2.2.1
 have hma : (acc.map aX).length = acc.length := List.length_map ..
 have hpe := i1.1.1
 repeat' ((conv => whnf); first | with_reducible refine fL ?_ (fun h => ?_) fun h => ?_ | apply al | (apply ay <;> intro h))
 all_goals try conv => whnf
 all_goals try (refine af.mk ?_; try dsimp only)
 all_goals (try simp only [aO, jY, l0] at *)
 all_goals generalize gv k t [] c' = r at *
 all_goals skip
 . exact ⟨⟨by omega, by have := t.k.toNat_lt; omega⟩, i1, hp.2.1, np hL, by have := hp.2.2.2; rw [List.length_append, hma, i3]; omega⟩
 . rw [if_pos (by assumption)] at i6
   rw [i6]
 . (refine c9.mk [.nw, .swap 3 4] ?_ <;> (repeat' first | trivial | rfl | apply ak); done)
 . have f := fit (by omega)
   exact ⟨trivial, f.live.1, f.live.2.2⟩
 . rw [if_neg (by assumption), if_pos (by assumption)] at i6
   rw [i6]
 . (refine c9.mk [.nw, .swap 3 4] ?_ <;> (repeat' first | trivial | rfl | apply ak); done)
 . rw [if_neg (by assumption), if_neg (by assumption), if_pos (by omega)] at i6
   rw [i6] at hc
   exact hc rfl
 . have f := fit (by omega)
   obtain ⟨o1, o2, o3, o4, _⟩ := bH f.live (by omega)
   exact ⟨trivial, o1.1, o1.2.2⟩
 . rw [if_neg (by assumption), if_neg (by assumption), if_neg (by omega), if_neg (by omega), if_pos (by assumption)] at i6
   rw [i6]
 . (refine c9.mk [.nw, .swap 3 4] ?_ <;> (repeat' first | trivial | rfl | apply ak); done)
 . rw [if_neg (by assumption), if_neg (by assumption), if_neg (by omega), if_neg (by omega), if_neg (by assumption)] at i6
   have f := fit (by omega)
   obtain ⟨o1, o2, o3, o4, _⟩ := bH f.live (by omega)
   have f2 := f.p; have f3 := f.e; have f4 := f.len; have f5 := f.s
   obtain ⟨u1, u2, u3, u4, _⟩ := bH o1 (by omega)
   have u5 := u1.1.1
   refine ⟨[], (n, r.2.2.next.1.next.2, r.2.2.next.1.next.1, acc ++ r.2.1), ⟨u1, by show _ = c.s; rw [u2, o2, f5, i2], by show _ = c.e; rw [u3, o3, f3, i3], by show (acc ++ r.2.1).length + 1 + c.p ≤ r.2.2.next.1.next.1.p; rw [List.length_append]; omega, by show r.2.2.next.1.next.1.e - r.2.2.next.1.next.1.p + 1 ≤ n; rw [u3, o3, f3] at u5 ⊢; omega, i6⟩, ?_, Nat.lt_succ_self n⟩
   refine Go.VG.Sub.mk rfl ?_ ?_ ?_ ?_ <;> (repeat' first | trivial | apply ak | apply aJ)
   rw [List.map_append, List.append_assoc]
 . rw [if_neg (by assumption), if_neg (by assumption), if_neg (by omega), if_pos (by omega)] at i6
   rw [i6]
 . (refine c9.mk [.nw, .swap 3 4] ?_ <;> (repeat' first | trivial | rfl | apply ak); done)
def lX (k : Nat) : dC := fun args σ => match args, σ with
 | [.ptr 0 0, .int .i64 d], [.cells [.ptr 1 0, .buf 2], .cells ([.str s_c, .int .i64 (.ofNat a_c), .int .i64 (.ofNat e_c), .int .i64 c_c]), .buf 4 0 l] => some (True ∧ ((Cu.mk s_c a_c e_c c_c).live ∧ d + k = 32 ∧ (∃ L : List Nd, l = L.map aX) ∧ l.length + ((Cu.mk s_c a_c e_c c_c).e - (Cu.mk s_c a_c e_c c_c).p) ≤ 100000000), (aV (gv k) (Cu.mk s_c a_c e_c c_c)).1 ≠ 0, .iface 100 (.int .i64 (aV (gv k) (Cu.mk s_c a_c e_c c_c)).1), some [.dead, .dead, .dead, .buf 1 0 []], .tuple [], some [.cells [.ptr 1 0, .buf 2], .cells (eC (aV (gv k) (Cu.mk s_c a_c e_c c_c)).2.2), .buf 4 0 (l ++ (aV (gv k) (Cu.mk s_c a_c e_c c_c)).2.1.map aX)])
 | _, _ => none
theorem Fp (k : Nat) (hv : dP 56 (gH k)) : dP 83 (lX k) := by
 intro args sg pre c u r x r2 he hp
 unfold lX at he
 split at he <;> cases he
 . rw [bW (hp).1]; exact ⟨fun hc => ⟨_, rfl, Gt (hv := hv) (hp := hp.2) (hc := hc) ..⟩, fun hc => DI (hv := hv) (hp := hp.2) (hc := hc) ..⟩
end Go.Proofs.Ytllncocibkgjkaa
