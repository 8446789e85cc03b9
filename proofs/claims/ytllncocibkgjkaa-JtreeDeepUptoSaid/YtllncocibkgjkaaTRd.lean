/-
  A part of the proof.
-/
import Derived.Test.YtllncocibkgjkaaTRa
import Derived.Test.YtllncocibkgjkaaJTw
set_option linter.unusedSimpArgs false
set_option linter.unusedVariables false
set_option maxHeartbeats 4000000
namespace Go.Proofs.Ytllncocibkgjkaa
open Go Go.VG
set_option maxRecDepth 100000
theorem BQ (c : Cu) : (c.next.1.c ≠ 0 ∧ c.av = c.next.1.c) ∨ (c.next.1.c = 0 ∧ c.next.2.k.toNat = 0 ∧ c.av = 1) ∨ (c.next.1.c = 0 ∧ c.next.2.k.toNat ≠ 0 ∧ c.av = 0) := by
 unfold Cu.av
 by_cases h : c.next.1.c ≠ 0
 . rw [if_pos h]; exact .inl ⟨h, rfl⟩
 . rw [if_neg h]
   have h0 : c.next.1.c = 0 := by omega
   by_cases h2 : c.next.2.k = 0
   . rw [if_pos h2]; exact .inr (.inl ⟨h0, by rw [h2]; rfl, rfl⟩)
   . rw [if_neg h2]; exact .inr (.inr ⟨h0, fun q => h2 (UInt8.toNat_inj.1 q), rfl⟩)
theorem Fl (c : Cu) (l : List V) (hp : c.ok ∧ c.s.length ≤ 10000000) (hc : ¬ (c.av ≠ 0)) : OK 57 ([.ptr 0 0]) ([.cells [.ptr 1 0, .buf 2], .cells (eC c), .buf 4 0 l]) (.agg (eT c.next.2)) (some [.cells [.ptr 1 0, .buf 2], .cells (eC c.next.1), .buf 4 0 l]) := by
 refine aC (C := cx [(18, mN), (21, iS)]) (ay ⟨ph, jE, trivial⟩) (fn := Try.f57) rfl rfl rfl rfl fun hw hs => ?_
 have ht := BQ c
 repeat' ((conv => whnf); first | apply al | apply aZ | (apply ao <;> intro h))
 all_goals try conv => whnf
 all_goals try (refine ae.mk ?_; try dsimp only)
 all_goals (try simp only [aR] at *)
 all_goals first | refine stay ?_ | trivial | skip
 all_goals first
  | (exfalso; omega)
  | (show a8 _ _ _ _ _ _
     refine a8.mk [] ?_ <;> (repeat' first | trivial)
     done)
theorem Ib (c : Cu) (l : List V) (hp : c.ok ∧ c.s.length ≤ 10000000) (hc : c.av ≠ 0) : lO 57 ([.ptr 0 0]) ([.cells [.ptr 1 0, .buf 2], .cells (eC c), .buf 4 0 l]) (.iface 100 (.int .i64 c.av)) (some [.dead, .dead, .dead, .buf 1 0 []]) := by
 refine mE (C := cx [(18, mN), (21, iS)]) (ay ⟨ph, jE, trivial⟩) (fn := Try.f57) rfl rfl rfl rfl fun hw hs => ?_
 have ht := BQ c
 repeat' ((conv => whnf); first | apply al | apply jB | apply aZ | (apply ao <;> intro h))
 all_goals try conv => whnf
 all_goals try (refine ae.mk ?_; try dsimp only)
 all_goals (try simp only [aR] at *)
 all_goals first | refine stay ?_ | trivial | (simp (discharger := omega) [-List.getD_eq_getElem?_getD, wR] <;> omega) | skip
 all_goals first
  | (show cH _ _ _
     (refine cH.mk [.nw, .swap 3 5] ?_ <;> (repeat' first | trivial | rfl | apply aj); done)
     done)
  | (exfalso; omega)
def kp : eD := fun args σ => match args, σ with
 | [.ptr 0 0], [.cells [.ptr 1 0, .buf 2], .cells ([.str s_c, .int .i64 (.ofNat a_c), .int .i64 (.ofNat e_c), .int .i64 c_c]), .buf 4 0 l] => some (True ∧ ((Cu.mk s_c a_c e_c c_c).ok ∧ (Cu.mk s_c a_c e_c c_c).s.length ≤ 10000000), (Cu.mk s_c a_c e_c c_c).av ≠ 0, .iface 100 (.int .i64 (Cu.mk s_c a_c e_c c_c).av), some [.dead, .dead, .dead, .buf 1 0 []], .agg (eT (Cu.mk s_c a_c e_c c_c).next.2), some [.cells [.ptr 1 0, .buf 2], .cells (eC (Cu.mk s_c a_c e_c c_c).next.1), .buf 4 0 l])
 | _, _ => none
theorem mm : eO 57 (kp) := by
 intro args sg pre c u r x r2 he hp
 unfold kp at he
 split at he <;> cases he
 . rw [bZ (hp).1]; exact ⟨fun hc => ⟨_, rfl, Ib (hp := hp.2) (hc := hc) ..⟩, fun hc => Fl (hp := hp.2) (hc := hc) ..⟩
theorem Fk (c : Cu) (l : List V) (k : UInt8) (hp : c.ok ∧ c.s.length ≤ 10000000) (hc : ¬ (c.av ≠ 0 ∨ c.next.2.k ≠ k)) : OK 103 ([.ptr 0 0, bv k]) ([.cells [.ptr 1 0, .buf 2], .cells (eC c), .buf 4 0 l]) (.tuple []) (some [.cells [.ptr 1 0, .buf 2], .cells (eC c.next.1), .buf 4 0 l]) := by
 refine aC (C := lW [] [(57, kp)]) (nF trivial ⟨mm, trivial⟩) (fn := Try.f103) rfl rfl rfl rfl fun hw hs => ?_
 have h1 : c.av = 0 := Decidable.not_not.1 fun q => hc (.inl q)
 have h2 : c.next.2.k = k := Decidable.not_not.1 fun q => hc (.inr q)
 repeat' ((conv => whnf); first | with_reducible refine gk ?_ (fun h => ?_) fun h => ?_ | apply jB | apply aZ)
 all_goals try conv => whnf
 all_goals try (refine ae.mk ?_; try dsimp only)
 all_goals (try simp only [aR] at *)
 all_goals first | refine stay ?_ | trivial | skip
 all_goals first
  | (exfalso; omega)
  | (rw [h2]; exact beq_self_eq_true _)
  | (rw [h2]; exact bne_self_eq_false _)
  | (show a8 _ _ _ _ _ _
     refine a8.mk [] ?_ <;> (repeat' first | trivial)
     done)
theorem Ia (c : Cu) (l : List V) (k : UInt8) (hp : c.ok ∧ c.s.length ≤ 10000000) (hc : c.av ≠ 0 ∨ c.next.2.k ≠ k) : lO 103 ([.ptr 0 0, bv k]) ([.cells [.ptr 1 0, .buf 2], .cells (eC c), .buf 4 0 l]) (.iface 100 (.int .i64 (if c.av ≠ 0 then c.av else 3))) (some [.dead, .dead, .dead, .buf 1 0 []]) := by
 refine mE (C := lW [] [(57, kp)]) (nF trivial ⟨mm, trivial⟩) (fn := Try.f103) rfl rfl rfl rfl fun hw hs => ?_
 have hk : (c.next.2.k.toNat : Int) = k.toNat → c.next.2.k = k := fun h => UInt8.toNat_inj.1 (by omega)
 repeat' ((conv => whnf); first | with_reducible refine gk ?_ (fun h => ?_) fun h => ?_ | apply al | apply jB)
 all_goals try conv => whnf
 all_goals try (refine ae.mk ?_; try dsimp only)
 all_goals (try simp only [aR] at *)
 all_goals first | refine stay ?_ | trivial | (simp (discharger := omega) [-List.getD_eq_getElem?_getD, wR] <;> omega) | skip
 all_goals first
  | (show cH _ _ _
     first | (refine cH.mk [] ?_ <;> (repeat' first | trivial | rfl | apply aj); done) | (refine cH.mk [.nw, .swap 3 3] ?_ <;> (repeat' first | trivial | rfl | apply aj); done)
     done)
  | (have h2 : c.next.2.k ≠ k := hc.resolve_left (by assumption)
     refine bne_iff_ne.2 fun q => h2 (hk q))
  | (exfalso; omega)
def rS : eD := fun args σ => match args, σ with
 | [.ptr 0 0, .int .u8 n_k], [.cells [.ptr 1 0, .buf 2], .cells ([.str s_c, .int .i64 (.ofNat a_c), .int .i64 (.ofNat e_c), .int .i64 c_c]), .buf 4 0 l] => some ((0 ≤ n_k ∧ n_k ≤ 255) ∧ (True ∧ ((Cu.mk s_c a_c e_c c_c).ok ∧ (Cu.mk s_c a_c e_c c_c).s.length ≤ 10000000)), (Cu.mk s_c a_c e_c c_c).av ≠ 0 ∨ (Cu.mk s_c a_c e_c c_c).next.2.k ≠ (byte n_k), .iface 100 (.int .i64 (if (Cu.mk s_c a_c e_c c_c).av ≠ 0 then (Cu.mk s_c a_c e_c c_c).av else 3)), some [.dead, .dead, .dead, .buf 1 0 []], .tuple [], some [.cells [.ptr 1 0, .buf 2], .cells (eC (Cu.mk s_c a_c e_c c_c).next.1), .buf 4 0 l])
 | _, _ => none
theorem zR : eO 103 (rS) := by
 intro args sg pre c u r x r2 he hp
 unfold rS at he
 split at he <;> cases he
 . rw [da (hp).1]; rw [bZ (hp.2).1]; exact ⟨fun hc => ⟨_, rfl, Ia (hp := hp.2.2) (hc := hc) ..⟩, fun hc => Fk (hp := hp.2.2) (hc := hc) ..⟩
theorem Fq (c : Cu) (l : List V) (hp : c.ok ∧ c.s.length ≤ 10000000) (hc : ¬ (c.next.2.k ≠ 0 ∨ c.next.1.c ≠ 0)) : OK 58 ([.ptr 0 0]) ([.cells [.ptr 1 0, .buf 2], .cells (eC c), .buf 4 0 l]) (.tuple []) (some [.cells [.ptr 1 0, .buf 2], .cells (eC c.next.1), .buf 4 0 l]) := by
 refine aC (C := cx [(18, mN), (21, iS)]) (ay ⟨ph, jE, trivial⟩) (fn := Try.f58) rfl rfl rfl rfl fun hw hs => ?_
 have h1 : c.next.2.k = 0 := Decidable.not_not.1 fun q => hc (.inl q)
 have h2 : c.next.1.c = 0 := Decidable.not_not.1 fun q => hc (.inr q)
 repeat' ((conv => whnf); first | apply al | apply jB | apply aZ)
 all_goals try conv => whnf
 all_goals try (refine ae.mk ?_; try dsimp only)
 all_goals (try simp only [aR] at *)
 all_goals first | refine stay ?_ | trivial | (simp (discharger := omega) [-List.getD_eq_getElem?_getD, wR] <;> omega) | skip
 all_goals first
  | (rw [h1]; rfl)
  | (rw [h2]; rfl)
  | (exfalso; omega)
  | (show a8 _ _ _ _ _ _
     refine a8.mk [] ?_ <;> (repeat' first | trivial)
     done)
theorem Ie (c : Cu) (l : List V) (hp : c.ok ∧ c.s.length ≤ 10000000) (hc : c.next.2.k ≠ 0 ∨ c.next.1.c ≠ 0) : lO 58 ([.ptr 0 0]) ([.cells [.ptr 1 0, .buf 2], .cells (eC c), .buf 4 0 l]) (.iface 100 (.int .i64 2)) (some [.dead, .dead, .dead, .buf 1 0 []]) := by
 refine mE (C := cx [(18, mN), (21, iS)]) (ay ⟨ph, jE, trivial⟩) (fn := Try.f58) rfl rfl rfl rfl fun hw hs => ?_
 have hk : (c.next.2.k.toNat : Int) = 0 → c.next.2.k = 0 := fun h => UInt8.toNat_inj.1 (by show c.next.2.k.toNat = 0; omega)
 repeat' ((conv => whnf); first | apply al | apply jB | apply aZ | (apply ao <;> intro h))
 all_goals try conv => whnf
 all_goals try (refine ae.mk ?_; try dsimp only)
 all_goals (try simp only [aR] at *)
 all_goals first | refine stay ?_ | trivial | skip
 all_goals first
  | (show cH _ _ _
     (refine cH.mk [.nw, .swap 3 4] ?_ <;> (repeat' first | trivial | rfl | apply aj); done)
     done)
  | (have h2 : c.next.1.c ≠ 0 := hc.resolve_left (fun q => q (hk (by assumption)))
     exact bne_iff_ne.2 h2)
  | (exfalso; omega)
def uY : eD := fun args σ => match args, σ with
 | [.ptr 0 0], [.cells [.ptr 1 0, .buf 2], .cells ([.str s_c, .int .i64 (.ofNat a_c), .int .i64 (.ofNat e_c), .int .i64 c_c]), .buf 4 0 l] => some (True ∧ ((Cu.mk s_c a_c e_c c_c).ok ∧ (Cu.mk s_c a_c e_c c_c).s.length ≤ 10000000), (Cu.mk s_c a_c e_c c_c).next.2.k ≠ 0 ∨ (Cu.mk s_c a_c e_c c_c).next.1.c ≠ 0, .iface 100 (.int .i64 2), some [.dead, .dead, .dead, .buf 1 0 []], .tuple [], some [.cells [.ptr 1 0, .buf 2], .cells (eC (Cu.mk s_c a_c e_c c_c).next.1), .buf 4 0 l])
 | _, _ => none
theorem Hl : eO 58 (uY) := by
 intro args sg pre c u r x r2 he hp
 unfold uY at he
 split at he <;> cases he
 . rw [bZ (hp).1]; exact ⟨fun hc => ⟨_, rfl, Ie (hp := hp.2) (hc := hc) ..⟩, fun hc => Fq (hp := hp.2) (hc := hc) ..⟩
end Go.Proofs.Ytllncocibkgjkaa
namespace Go.Proofs.Ytllncocibkgjkaa
open Go Go.VG
set_option maxRecDepth 100000
theorem kJ (t : Tk) : (⟨byte (t.k.toNat : Int), t.t⟩ : Tk) = t := by
 have h : byte (t.k.toNat : Int) = t.k := UInt8.toNat_inj.1 (by have := d6 (n := t.k.toNat) ⟨by omega, by have := t.k.toNat_lt; omega⟩; omega)
 rw [h]
theorem fq : ({ data := #[] } : ByteArray).data.toList = [] := rfl
theorem nU {l : List V} {L a : List Nd} (h : l = L.map aH) : ∃ M : List Nd, l ++ a.map aH = M.map aH := ⟨L ++ a, by rw [h, List.map_append]⟩
structure LInv (k : Nat) (c : Cu) (x : Nat × Tk × Cu × List Nd) : Prop where
 live : x.2.2.1.live
 s : x.2.2.1.s = c.s
 e : x.2.2.1.e = c.e
 acc : x.2.2.2.length + 1 + c.p ≤ x.2.2.1.p
 n : x.2.2.1.e - x.2.2.1.p + 1 ≤ x.1
 r : b7 (gv k) c = dP (gv k) x.1 x.2.1 x.2.2.1 x.2.2.2
-- #name trValue (*jtree.reader).value
def gZ (k : Nat) : eD := fun args σ => match args, σ with
 | [.ptr 0 0, .agg [.int .u8 a, .str tt], .str key, .int .i64 d], [.cells [.ptr 1 0, .buf 2], .cells [.str s, .int .i64 (.ofNat p), .int .i64 (.ofNat e), .int .i64 cc], .buf 4 0 l] =>
   some ((0 ≤ a ∧ a ≤ 255) ∧ (⟨s, p, e, cc⟩ : Cu).live ∧ d + k = 32 ∧ (∃ L : List Nd, l = L.map aH) ∧ l.length + (e - p) + 1 ≤ 100000000,
    (gv k ⟨byte a, tt⟩ key ⟨s, p, e, cc⟩).1 ≠ 0, .iface 100 (.int .i64 (gv k ⟨byte a, tt⟩ key ⟨s, p, e, cc⟩).1), some [.dead, .dead, .dead, .buf 1 0 []],
    .tuple [], some [.cells [.ptr 1 0, .buf 2], .cells (eC (gv k ⟨byte a, tt⟩ key ⟨s, p, e, cc⟩).2.2), .buf 4 0 (l ++ (gv k ⟨byte a, tt⟩ key ⟨s, p, e, cc⟩).2.1.map aH)])
 | _, _ => none
theorem Fj (k : Nat) (hv : eO 56 (gZ k)) (c : Cu) (l : List V) (d : Int) (hp : c.live ∧ d + k = 32 ∧ (∃ L : List Nd, l = L.map aH) ∧ l.length + (c.e - c.p) ≤ 100000000) (hc : ¬ ((b7 (gv k) c).1 ≠ 0)) : OK 83 ([.ptr 0 0, .int .i64 d]) ([.cells [.ptr 1 0, .buf 2], .cells (eC c), .buf 4 0 l]) (.tuple []) (some [.cells [.ptr 1 0, .buf 2], .cells (eC (b7 (gv k) c).2.2), .buf 4 0 (l ++ (b7 (gv k) c).2.1.map aH)]) := by
 refine aC (C := lW [] [(57, kp), (56, gZ k)]) (nF trivial ⟨mm, hv, trivial⟩) (fn := Try.f83) rfl rfl rfl rfl fun hw hs => ?_
 have hn := fun h => aX hp.1 h
 repeat' ((conv => whnf); first | with_reducible refine gk ?_ (fun h => ?_) fun h => ?_ | (apply ao <;> intro h))
 all_goals try conv => whnf
 all_goals try (refine ae.mk ?_; try dsimp only)
 . exact ⟨trivial, hp.1.1, hp.1.2.2⟩
 . exfalso
   unfold b7 at hc
   rw [if_pos (by assumption)] at hc
   exact hc (by assumption)
 . simp only [aR] at *
   have hr : b7 (gv k) c = (0, [], c.next.1) := by unfold b7; rw [if_neg (by assumption), if_pos (by omega)]
   rw [hr]
   refine a8.mk [] ?_ <;> (repeat' first | trivial | apply aj | apply aV)
   simp
 simp only [aR] at *
 have hn := hn (by omega)
 refine bn.mk (Nat × Tk × Cu × List Nd) (LInv k c) (fun x => ⟨25, [(0, .ptr 0 0), (1, .int .i64 d), (4, .ptr 3 0)], [.cells [.ptr 1 0, .buf 2], .cells (eC x.2.2.1), .buf 4 0 (l ++ x.2.2.2.map aH), .cells (eT x.2.1)], [2]⟩) (fun x => x.1) [] (c.next.1.e - c.next.1.p + 1, c.next.2, c.next.1, []) ⟨hn.1, hn.2.1, hn.2.2.1, by show 0 + 1 + c.p ≤ c.next.1.p; omega, Nat.le_refl _, by unfold b7; rw [if_neg (by assumption), if_neg (by omega)]⟩ ?_ (fun ⟨n, t, c', acc⟩ hI _ _ => ?_)
 . refine Go.VG.Sub.mk rfl ?_ ?_ ?_ ?_ <;> (repeat' first | trivial | apply aj | apply aV)
   simp
 obtain ⟨i1, i2, i3, i4, i5, i6⟩ := hI
 dsimp only at i1 i2 i3 i4 i5 i6
 obtain ⟨n, rfl⟩ : ∃ m, n = m + 1 := ⟨n - 1, by omega⟩
 rw [dP] at i6
 have fit := eV k t [] c' i1
 obtain ⟨L, hL⟩ := hp.2.2.1
 have hma : (acc.map aH).length = acc.length := List.length_map ..
 have hpe := i1.1.1
 repeat' ((conv => whnf); first | with_reducible refine gk ?_ (fun h => ?_) fun h => ?_ | apply jB | (apply ao <;> intro h))
 all_goals try conv => whnf
 all_goals try (refine ae.mk ?_; try dsimp only)
 all_goals (try simp only [aR, kJ, fq] at *)
 all_goals generalize gv k t [] c' = r at *
 all_goals skip
 . exact ⟨⟨by omega, by have := t.k.toNat_lt; omega⟩, i1, hp.2.1, nU hL, by have := hp.2.2.2; rw [List.length_append, hma, i3]; omega⟩
 . rw [if_pos (by assumption)] at i6
   rw [i6] at hc
   exact hc (by assumption)
 . have f := fit (by omega)
   exact ⟨trivial, f.live.1, f.live.2.2⟩
 . rw [if_neg (by assumption), if_pos (by assumption)] at i6
   rw [i6] at hc
   exact hc (by assumption)
 . rw [if_neg (by assumption), if_neg (by assumption), if_pos (by omega)] at i6
   rw [i6]
   refine a8.mk [] ?_ <;> (repeat' first | trivial | apply aj | apply aV)
   rw [List.map_append, List.append_assoc]
 all_goals
  have h44 : r.2.2.next.2.k.toNat = 44 := by
   refine Decidable.byContradiction fun q => hc ?_
   rw [if_neg (by assumption), if_neg (by assumption), if_neg (by omega), if_pos q] at i6
   rw [i6]
   exact (by decide : (3 : Int) ≠ 0)
 . rw [h44]; rfl
 all_goals
  have f := fit (by omega)
  obtain ⟨o1, o2, o3, o4, _⟩ := aX f.live (by omega)
  have f2 := f.p; have f3 := f.e; have f4 := f.len; have f5 := f.s
 . exact ⟨trivial, o1.1, o1.2.2⟩
 . rw [if_neg (by assumption), if_neg (by assumption), if_neg (by omega), if_neg (fun q => q h44), if_pos (by assumption)] at i6
   rw [i6] at hc
   exact hc (by assumption)
 . rw [if_neg (by assumption), if_neg (by assumption), if_neg (by omega), if_neg (fun q => q h44), if_neg (by assumption)] at i6
   obtain ⟨u1, u2, u3, u4, _⟩ := aX o1 (by omega)
   have u5 := u1.1.1
   refine ⟨[], (n, r.2.2.next.1.next.2, r.2.2.next.1.next.1, acc ++ r.2.1), ⟨u1, by show _ = c.s; rw [u2, o2, f5, i2], by show _ = c.e; rw [u3, o3, f3, i3], by show (acc ++ r.2.1).length + 1 + c.p ≤ r.2.2.next.1.next.1.p; rw [List.length_append]; omega, by show r.2.2.next.1.next.1.e - r.2.2.next.1.next.1.p + 1 ≤ n; rw [u3, o3, f3] at u5 ⊢; omega, i6⟩, ?_, Nat.lt_succ_self n⟩
   refine Go.VG.Sub.mk rfl ?_ ?_ ?_ ?_ <;> (repeat' first | trivial | apply aj | apply aV)
   rw [List.map_append, List.append_assoc]
theorem I9 (k : Nat) (hv : eO 56 (gZ k)) (c : Cu) (l : List V) (d : Int) (hp : c.live ∧ d + k = 32 ∧ (∃ L : List Nd, l = L.map aH) ∧ l.length + (c.e - c.p) ≤ 100000000) (hc : (b7 (gv k) c).1 ≠ 0) : lO 83 ([.ptr 0 0, .int .i64 d]) ([.cells [.ptr 1 0, .buf 2], .cells (eC c), .buf 4 0 l]) (.iface 100 (.int .i64 (b7 (gv k) c).1)) (some [.dead, .dead, .dead, .buf 1 0 []]) := by
 refine mE (C := lW [] [(57, kp), (56, gZ k)]) (nF trivial ⟨mm, hv, trivial⟩) (fn := Try.f83) rfl rfl rfl rfl fun hw hs => ?_
 have hn := fun h => aX hp.1 h
 repeat' ((conv => whnf); first | with_reducible refine gk ?_ (fun h => ?_) fun h => ?_ | apply al | (apply ao <;> intro h))
 all_goals try conv => whnf
 all_goals try (refine ae.mk ?_; try dsimp only)
 . exact ⟨trivial, hp.1.1, hp.1.2.2⟩
 . simp only [aR] at *
   have hr : b7 (gv k) c = (c.av, [], c) := by unfold b7; rw [if_pos (by assumption)]
   rw [hr]
 . (refine cH.mk [] ?_ <;> (repeat' first | trivial | rfl | apply aj); done)
 . exfalso
   simp only [aR] at *
   have hr : b7 (gv k) c = (0, [], c.next.1) := by unfold b7; rw [if_neg (by assumption), if_pos (by omega)]
   rw [hr] at hc
   exact hc rfl
 simp only [aR] at *
 have hn := hn (by omega)
 refine bn.mk (Nat × Tk × Cu × List Nd) (LInv k c) (fun x => ⟨25, [(0, .ptr 0 0), (1, .int .i64 d), (4, .ptr 3 0)], [.cells [.ptr 1 0, .buf 2], .cells (eC x.2.2.1), .buf 4 0 (l ++ x.2.2.2.map aH), .cells (eT x.2.1)], [2]⟩) (fun x => x.1) [] (c.next.1.e - c.next.1.p + 1, c.next.2, c.next.1, []) ⟨hn.1, hn.2.1, hn.2.2.1, by show 0 + 1 + c.p ≤ c.next.1.p; omega, Nat.le_refl _, by unfold b7; rw [if_neg (by assumption), if_neg (by omega)]⟩ ?_ (fun ⟨n, t, c', acc⟩ hI _ _ => ?_)
 . refine Go.VG.Sub.mk rfl ?_ ?_ ?_ ?_ <;> (repeat' first | trivial | apply aj | apply aV)
   simp
 obtain ⟨i1, i2, i3, i4, i5, i6⟩ := hI
 dsimp only at i1 i2 i3 i4 i5 i6
 obtain ⟨n, rfl⟩ : ∃ m, n = m + 1 := ⟨n - 1, by omega⟩
 rw [dP] at i6
 have fit := eV k t [] c' i1
 obtain ⟨L, hL⟩ := hp.2.2.1
 have hma : (acc.map aH).length = acc.length := List.length_map ..
 have hpe := i1.1.1
 repeat' ((conv => whnf); first | with_reducible refine gk ?_ (fun h => ?_) fun h => ?_ | apply al | (apply ao <;> intro h))
 all_goals try conv => whnf
 all_goals try (refine ae.mk ?_; try dsimp only)
 all_goals (try simp only [aR, kJ, fq] at *)
 all_goals generalize gv k t [] c' = r at *
 all_goals skip
 . exact ⟨⟨by omega, by have := t.k.toNat_lt; omega⟩, i1, hp.2.1, nU hL, by have := hp.2.2.2; rw [List.length_append, hma, i3]; omega⟩
 . rw [if_pos (by assumption)] at i6
   rw [i6]
 . (refine cH.mk [.nw, .swap 3 4] ?_ <;> (repeat' first | trivial | rfl | apply aj); done)
 . have f := fit (by omega)
   exact ⟨trivial, f.live.1, f.live.2.2⟩
 . rw [if_neg (by assumption), if_pos (by assumption)] at i6
   rw [i6]
 . (refine cH.mk [.nw, .swap 3 4] ?_ <;> (repeat' first | trivial | rfl | apply aj); done)
 . rw [if_neg (by assumption), if_neg (by assumption), if_pos (by omega)] at i6
   rw [i6] at hc
   exact hc rfl
 . have f := fit (by omega)
   obtain ⟨o1, o2, o3, o4, _⟩ := aX f.live (by omega)
   exact ⟨trivial, o1.1, o1.2.2⟩
 . rw [if_neg (by assumption), if_neg (by assumption), if_neg (by omega), if_neg (by omega), if_pos (by assumption)] at i6
   rw [i6]
 . (refine cH.mk [.nw, .swap 3 4] ?_ <;> (repeat' first | trivial | rfl | apply aj); done)
 . rw [if_neg (by assumption), if_neg (by assumption), if_neg (by omega), if_neg (by omega), if_neg (by assumption)] at i6
   have f := fit (by omega)
   obtain ⟨o1, o2, o3, o4, _⟩ := aX f.live (by omega)
   have f2 := f.p; have f3 := f.e; have f4 := f.len; have f5 := f.s
   obtain ⟨u1, u2, u3, u4, _⟩ := aX o1 (by omega)
   have u5 := u1.1.1
   refine ⟨[], (n, r.2.2.next.1.next.2, r.2.2.next.1.next.1, acc ++ r.2.1), ⟨u1, by show _ = c.s; rw [u2, o2, f5, i2], by show _ = c.e; rw [u3, o3, f3, i3], by show (acc ++ r.2.1).length + 1 + c.p ≤ r.2.2.next.1.next.1.p; rw [List.length_append]; omega, by show r.2.2.next.1.next.1.e - r.2.2.next.1.next.1.p + 1 ≤ n; rw [u3, o3, f3] at u5 ⊢; omega, i6⟩, ?_, Nat.lt_succ_self n⟩
   refine Go.VG.Sub.mk rfl ?_ ?_ ?_ ?_ <;> (repeat' first | trivial | apply aj | apply aV)
   rw [List.map_append, List.append_assoc]
 . rw [if_neg (by assumption), if_neg (by assumption), if_neg (by omega), if_pos (by omega)] at i6
   rw [i6]
 . (refine cH.mk [.nw, .swap 3 4] ?_ <;> (repeat' first | trivial | rfl | apply aj); done)
def mG (k : Nat) : eD := fun args σ => match args, σ with
 | [.ptr 0 0, .int .i64 d], [.cells [.ptr 1 0, .buf 2], .cells ([.str s_c, .int .i64 (.ofNat a_c), .int .i64 (.ofNat e_c), .int .i64 c_c]), .buf 4 0 l] => some (True ∧ ((Cu.mk s_c a_c e_c c_c).live ∧ d + k = 32 ∧ (∃ L : List Nd, l = L.map aH) ∧ l.length + ((Cu.mk s_c a_c e_c c_c).e - (Cu.mk s_c a_c e_c c_c).p) ≤ 100000000), (b7 (gv k) (Cu.mk s_c a_c e_c c_c)).1 ≠ 0, .iface 100 (.int .i64 (b7 (gv k) (Cu.mk s_c a_c e_c c_c)).1), some [.dead, .dead, .dead, .buf 1 0 []], .tuple [], some [.cells [.ptr 1 0, .buf 2], .cells (eC (b7 (gv k) (Cu.mk s_c a_c e_c c_c)).2.2), .buf 4 0 (l ++ (b7 (gv k) (Cu.mk s_c a_c e_c c_c)).2.1.map aH)])
 | _, _ => none
theorem Hj (k : Nat) (hv : eO 56 (gZ k)) : eO 83 (mG k) := by
 intro args sg pre c u r x r2 he hp
 unfold mG at he
 split at he <;> cases he
 . rw [bZ (hp).1]; exact ⟨fun hc => ⟨_, rfl, I9 (hv := hv) (hp := hp.2) (hc := hc) ..⟩, fun hc => Fj (hv := hv) (hp := hp.2) (hc := hc) ..⟩
end Go.Proofs.Ytllncocibkgjkaa
