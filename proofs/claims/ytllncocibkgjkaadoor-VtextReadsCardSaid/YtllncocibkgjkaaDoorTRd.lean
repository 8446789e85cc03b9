/-
  A part of the proof.
-/
import Derived.Test.YtllncocibkgjkaaDoorTRa
import Derived.Test.YtllncocibkgjkaaDoorJTw
set_option linter.unusedSimpArgs false
set_option linter.unusedVariables false
set_option maxHeartbeats 4000000
namespace Go.Proofs.YtllncocibkgjkaaDoor
open Go Go.VG
set_option maxRecDepth 100000
theorem C9 (c : Cu) : (c.next.1.c ≠ 0 ∧ c.bk = c.next.1.c) ∨ (c.next.1.c = 0 ∧ c.next.2.k.toNat = 0 ∧ c.bk = 1) ∨ (c.next.1.c = 0 ∧ c.next.2.k.toNat ≠ 0 ∧ c.bk = 0) := by
 unfold Cu.bk
 by_cases h : c.next.1.c ≠ 0
 . rw [if_pos h]; exact .inl ⟨h, rfl⟩
 . rw [if_neg h]
   have h0 : c.next.1.c = 0 := by omega
   by_cases h2 : c.next.2.k = 0
   . rw [if_pos h2]; exact .inr (.inl ⟨h0, by rw [h2]; rfl, rfl⟩)
   . rw [if_neg h2]; exact .inr (.inr ⟨h0, fun q => h2 (UInt8.toNat_inj.1 q), rfl⟩)
theorem Fi (c : Cu) (l : List V) (hp : c.ok ∧ c.s.length ≤ 10000000) (hc : ¬ (c.bk ≠ 0)) : OK 20 ([.ptr 0 0]) ([.cells [.ptr 1 0, .buf 2], .cells (eC c), .buf 4 0 l]) (.agg (eT c.next.2)) (some [.cells [.ptr 1 0, .buf 2], .cells (eC c.next.1), .buf 4 0 l]) := by
 refine aI (C := cx [(29, oQ), (30, jJ)]) (aG ⟨rX, kJ, trivial⟩) (fn := Tryd.f20) rfl rfl rfl rfl fun hw hs => ?_
 have ht := C9 c
 repeat' ((conv => whnf); first | apply ai | apply aw | (apply aj <;> intro h))
 all_goals try conv => whnf
 all_goals try (refine a8.mk ?_; try dsimp only)
 all_goals (try simp only [bJ] at *)
 all_goals first | refine stay ?_ | trivial | skip
 all_goals first
  | (exfalso; omega)
  | (show ab _ _ _ _ _ _
     refine ab.mk [] ?_ <;> (repeat' first | trivial)
     done)
theorem Iq (c : Cu) (l : List V) (hp : c.ok ∧ c.s.length ≤ 10000000) (hc : c.bk ≠ 0) : mj 20 ([.ptr 0 0]) ([.cells [.ptr 1 0, .buf 2], .cells (eC c), .buf 4 0 l]) (.iface 48 (.int .i64 c.bk)) (some [.dead, .dead, .dead, .buf 1 0 []]) := by
 refine n7 (C := cx [(29, oQ), (30, jJ)]) (aG ⟨rX, kJ, trivial⟩) (fn := Tryd.f20) rfl rfl rfl rfl fun hw hs => ?_
 have ht := C9 c
 repeat' ((conv => whnf); first | apply ai | apply aT | apply aw | (apply aj <;> intro h))
 all_goals try conv => whnf
 all_goals try (refine a8.mk ?_; try dsimp only)
 all_goals (try simp only [bJ] at *)
 all_goals first | refine stay ?_ | trivial | (simp (discharger := omega) [-List.getD_eq_getElem?_getD, wR] <;> omega) | skip
 all_goals first
  | (show cZ _ _ _
     (refine cZ.mk [.nw, .swap 3 5] ?_ <;> (repeat' first | trivial | rfl | apply aa); done)
     done)
  | (exfalso; omega)
def kU : eS := fun args σ => match args, σ with
 | [.ptr 0 0], [.cells [.ptr 1 0, .buf 2], .cells ([.str s_c, .int .i64 (.ofNat a_c), .int .i64 (.ofNat e_c), .int .i64 c_c]), .buf 4 0 l] => some (True ∧ ((Cu.mk s_c a_c e_c c_c).ok ∧ (Cu.mk s_c a_c e_c c_c).s.length ≤ 10000000), (Cu.mk s_c a_c e_c c_c).bk ≠ 0, .iface 48 (.int .i64 (Cu.mk s_c a_c e_c c_c).bk), some [.dead, .dead, .dead, .buf 1 0 []], .agg (eT (Cu.mk s_c a_c e_c c_c).next.2), some [.cells [.ptr 1 0, .buf 2], .cells (eC (Cu.mk s_c a_c e_c c_c).next.1), .buf 4 0 l])
 | _, _ => none
theorem mR : fu 20 (kU) := by
 intro args sg pre c u r x r2 he hp
 unfold kU at he
 split at he <;> cases he
 . rw [cR (hp).1]; exact ⟨fun hc => ⟨_, rfl, Iq (hp := hp.2) (hc := hc) ..⟩, fun hc => Fi (hp := hp.2) (hc := hc) ..⟩
theorem Fh (c : Cu) (l : List V) (k : UInt8) (hp : c.ok ∧ c.s.length ≤ 10000000) (hc : ¬ (c.bk ≠ 0 ∨ c.next.2.k ≠ k)) : OK 39 ([.ptr 0 0, bv k]) ([.cells [.ptr 1 0, .buf 2], .cells (eC c), .buf 4 0 l]) (.tuple []) (some [.cells [.ptr 1 0, .buf 2], .cells (eC c.next.1), .buf 4 0 l]) := by
 refine aI (C := mA [] [(20, kU)]) (og trivial ⟨mR, trivial⟩) (fn := Tryd.f39) rfl rfl rfl rfl fun hw hs => ?_
 have h1 : c.bk = 0 := Decidable.not_not.1 fun q => hc (.inl q)
 have h2 : c.next.2.k = k := Decidable.not_not.1 fun q => hc (.inr q)
 repeat' ((conv => whnf); first | with_reducible refine aL ?_ (fun h => ?_) fun h => ?_ | apply aT | apply aw)
 all_goals try conv => whnf
 all_goals try (refine a8.mk ?_; try dsimp only)
 all_goals (try simp only [bJ] at *)
 all_goals first | refine stay ?_ | trivial | skip
 all_goals first
  | (exfalso; omega)
  | (rw [h2]; exact beq_self_eq_true _)
  | (rw [h2]; exact bne_self_eq_false _)
  | (show ab _ _ _ _ _ _
     refine ab.mk [] ?_ <;> (repeat' first | trivial)
     done)
theorem Ip (c : Cu) (l : List V) (k : UInt8) (hp : c.ok ∧ c.s.length ≤ 10000000) (hc : c.bk ≠ 0 ∨ c.next.2.k ≠ k) : mj 39 ([.ptr 0 0, bv k]) ([.cells [.ptr 1 0, .buf 2], .cells (eC c), .buf 4 0 l]) (.iface 48 (.int .i64 (if c.bk ≠ 0 then c.bk else 3))) (some [.dead, .dead, .dead, .buf 1 0 []]) := by
 refine n7 (C := mA [] [(20, kU)]) (og trivial ⟨mR, trivial⟩) (fn := Tryd.f39) rfl rfl rfl rfl fun hw hs => ?_
 have hk : (c.next.2.k.toNat : Int) = k.toNat → c.next.2.k = k := fun h => UInt8.toNat_inj.1 (by omega)
 repeat' ((conv => whnf); first | with_reducible refine aL ?_ (fun h => ?_) fun h => ?_ | apply ai | apply aT)
 all_goals try conv => whnf
 all_goals try (refine a8.mk ?_; try dsimp only)
 all_goals (try simp only [bJ] at *)
 all_goals first | refine stay ?_ | trivial | (simp (discharger := omega) [-List.getD_eq_getElem?_getD, wR] <;> omega) | skip
 all_goals first
  | (show cZ _ _ _
     first | (refine cZ.mk [] ?_ <;> (repeat' first | trivial | rfl | apply aa); done) | (refine cZ.mk [.nw, .swap 3 3] ?_ <;> (repeat' first | trivial | rfl | apply aa); done)
     done)
  | (have h2 : c.next.2.k ≠ k := hc.resolve_left (by assumption)
     refine bne_iff_ne.2 fun q => h2 (hk q))
  | (exfalso; omega)
def sD : eS := fun args σ => match args, σ with
 | [.ptr 0 0, .int .u8 n_k], [.cells [.ptr 1 0, .buf 2], .cells ([.str s_c, .int .i64 (.ofNat a_c), .int .i64 (.ofNat e_c), .int .i64 c_c]), .buf 4 0 l] => some ((0 ≤ n_k ∧ n_k ≤ 255) ∧ (True ∧ ((Cu.mk s_c a_c e_c c_c).ok ∧ (Cu.mk s_c a_c e_c c_c).s.length ≤ 10000000)), (Cu.mk s_c a_c e_c c_c).bk ≠ 0 ∨ (Cu.mk s_c a_c e_c c_c).next.2.k ≠ (byte n_k), .iface 48 (.int .i64 (if (Cu.mk s_c a_c e_c c_c).bk ≠ 0 then (Cu.mk s_c a_c e_c c_c).bk else 3)), some [.dead, .dead, .dead, .buf 1 0 []], .tuple [], some [.cells [.ptr 1 0, .buf 2], .cells (eC (Cu.mk s_c a_c e_c c_c).next.1), .buf 4 0 l])
 | _, _ => none
theorem zV : fu 39 (sD) := by
 intro args sg pre c u r x r2 he hp
 unfold sD at he
 split at he <;> cases he
 . rw [gI (hp).1]; rw [cR (hp.2).1]; exact ⟨fun hc => ⟨_, rfl, Ip (hp := hp.2.2) (hc := hc) ..⟩, fun hc => Fh (hp := hp.2.2) (hc := hc) ..⟩
theorem Fo (c : Cu) (l : List V) (hp : c.ok ∧ c.s.length ≤ 10000000) (hc : ¬ (c.next.2.k ≠ 0 ∨ c.next.1.c ≠ 0)) : OK 21 ([.ptr 0 0]) ([.cells [.ptr 1 0, .buf 2], .cells (eC c), .buf 4 0 l]) (.tuple []) (some [.cells [.ptr 1 0, .buf 2], .cells (eC c.next.1), .buf 4 0 l]) := by
 refine aI (C := cx [(29, oQ), (30, jJ)]) (aG ⟨rX, kJ, trivial⟩) (fn := Tryd.f21) rfl rfl rfl rfl fun hw hs => ?_
 have h1 : c.next.2.k = 0 := Decidable.not_not.1 fun q => hc (.inl q)
 have h2 : c.next.1.c = 0 := Decidable.not_not.1 fun q => hc (.inr q)
 repeat' ((conv => whnf); first | apply ai | apply aT | apply aw)
 all_goals try conv => whnf
 all_goals try (refine a8.mk ?_; try dsimp only)
 all_goals (try simp only [bJ] at *)
 all_goals first | refine stay ?_ | trivial | (simp (discharger := omega) [-List.getD_eq_getElem?_getD, wR] <;> omega) | skip
 all_goals first
  | (rw [h1]; rfl)
  | (rw [h2]; rfl)
  | (exfalso; omega)
  | (show ab _ _ _ _ _ _
     refine ab.mk [] ?_ <;> (repeat' first | trivial)
     done)
theorem Is (c : Cu) (l : List V) (hp : c.ok ∧ c.s.length ≤ 10000000) (hc : c.next.2.k ≠ 0 ∨ c.next.1.c ≠ 0) : mj 21 ([.ptr 0 0]) ([.cells [.ptr 1 0, .buf 2], .cells (eC c), .buf 4 0 l]) (.iface 48 (.int .i64 2)) (some [.dead, .dead, .dead, .buf 1 0 []]) := by
 refine n7 (C := cx [(29, oQ), (30, jJ)]) (aG ⟨rX, kJ, trivial⟩) (fn := Tryd.f21) rfl rfl rfl rfl fun hw hs => ?_
 have hk : (c.next.2.k.toNat : Int) = 0 → c.next.2.k = 0 := fun h => UInt8.toNat_inj.1 (by show c.next.2.k.toNat = 0; omega)
 repeat' ((conv => whnf); first | apply ai | apply aT | apply aw | (apply aj <;> intro h))
 all_goals try conv => whnf
 all_goals try (refine a8.mk ?_; try dsimp only)
 all_goals (try simp only [bJ] at *)
 all_goals first | refine stay ?_ | trivial | skip
 all_goals first
  | (show cZ _ _ _
     (refine cZ.mk [.nw, .swap 3 4] ?_ <;> (repeat' first | trivial | rfl | apply aa); done)
     done)
  | (have h2 : c.next.1.c ≠ 0 := hc.resolve_left (fun q => q (hk (by assumption)))
     exact bne_iff_ne.2 h2)
  | (exfalso; omega)
def vz : eS := fun args σ => match args, σ with
 | [.ptr 0 0], [.cells [.ptr 1 0, .buf 2], .cells ([.str s_c, .int .i64 (.ofNat a_c), .int .i64 (.ofNat e_c), .int .i64 c_c]), .buf 4 0 l] => some (True ∧ ((Cu.mk s_c a_c e_c c_c).ok ∧ (Cu.mk s_c a_c e_c c_c).s.length ≤ 10000000), (Cu.mk s_c a_c e_c c_c).next.2.k ≠ 0 ∨ (Cu.mk s_c a_c e_c c_c).next.1.c ≠ 0, .iface 48 (.int .i64 2), some [.dead, .dead, .dead, .buf 1 0 []], .tuple [], some [.cells [.ptr 1 0, .buf 2], .cells (eC (Cu.mk s_c a_c e_c c_c).next.1), .buf 4 0 l])
 | _, _ => none
theorem Hd : fu 21 (vz) := by
 intro args sg pre c u r x r2 he hp
 unfold vz at he
 split at he <;> cases he
 . rw [cR (hp).1]; exact ⟨fun hc => ⟨_, rfl, Is (hp := hp.2) (hc := hc) ..⟩, fun hc => Fo (hp := hp.2) (hc := hc) ..⟩
end Go.Proofs.YtllncocibkgjkaaDoor
namespace Go.Proofs.YtllncocibkgjkaaDoor
open Go Go.VG
set_option maxRecDepth 100000
theorem la (t : Tk) : (⟨byte (t.k.toNat : Int), t.t⟩ : Tk) = t := by
 have h : byte (t.k.toNat : Int) = t.k := UInt8.toNat_inj.1 (by have := gO (n := t.k.toNat) ⟨by omega, by have := t.k.toNat_lt; omega⟩; omega)
 rw [h]
theorem nq : ({ data := #[] } : ByteArray).data.toList = [] := rfl
theorem oD {l : List V} {L a : List Nd} (h : l = L.map bX) : ∃ M : List Nd, l ++ a.map bX = M.map bX := ⟨L ++ a, by rw [h, List.map_append]⟩
structure LInv (k : Nat) (c : Cu) (x : Nat × Tk × Cu × List Nd) : Prop where
 live : x.2.2.1.live
 s : x.2.2.1.s = c.s
 e : x.2.2.1.e = c.e
 acc : x.2.2.2.length + 1 + c.p ≤ x.2.2.1.p
 n : x.2.2.1.e - x.2.2.1.p + 1 ≤ x.1
 r : bV (gv k) c = gw (gv k) x.1 x.2.1 x.2.2.1 x.2.2.2
-- #name trValue (*jtree.reader).value
def iL (k : Nat) : eS := fun args σ => match args, σ with
 | [.ptr 0 0, .agg [.int .u8 a, .str tt], .str key, .int .i64 d], [.cells [.ptr 1 0, .buf 2], .cells [.str s, .int .i64 (.ofNat p), .int .i64 (.ofNat e), .int .i64 cc], .buf 4 0 l] =>
   some ((0 ≤ a ∧ a ≤ 255) ∧ (⟨s, p, e, cc⟩ : Cu).live ∧ d + k = 32 ∧ (∃ L : List Nd, l = L.map bX) ∧ l.length + (e - p) + 1 ≤ 100000000,
    (gv k ⟨byte a, tt⟩ key ⟨s, p, e, cc⟩).1 ≠ 0, .iface 48 (.int .i64 (gv k ⟨byte a, tt⟩ key ⟨s, p, e, cc⟩).1), some [.dead, .dead, .dead, .buf 1 0 []],
    .tuple [], some [.cells [.ptr 1 0, .buf 2], .cells (eC (gv k ⟨byte a, tt⟩ key ⟨s, p, e, cc⟩).2.2), .buf 4 0 (l ++ (gv k ⟨byte a, tt⟩ key ⟨s, p, e, cc⟩).2.1.map bX)])
 | _, _ => none
theorem Fg (k : Nat) (hv : fu 19 (iL k)) (c : Cu) (l : List V) (d : Int) (hp : c.live ∧ d + k = 32 ∧ (∃ L : List Nd, l = L.map bX) ∧ l.length + (c.e - c.p) ≤ 100000000) (hc : ¬ ((bV (gv k) c).1 ≠ 0)) : OK 28 ([.ptr 0 0, .int .i64 d]) ([.cells [.ptr 1 0, .buf 2], .cells (eC c), .buf 4 0 l]) (.tuple []) (some [.cells [.ptr 1 0, .buf 2], .cells (eC (bV (gv k) c).2.2), .buf 4 0 (l ++ (bV (gv k) c).2.1.map bX)]) := by
 refine aI (C := mA [] [(20, kU), (19, iL k)]) (og trivial ⟨mR, hv, trivial⟩) (fn := Tryd.f28) rfl rfl rfl rfl fun hw hs => ?_
 have hn := fun h => cF hp.1 h
 repeat' ((conv => whnf); first | with_reducible refine aL ?_ (fun h => ?_) fun h => ?_ | (apply aj <;> intro h))
 all_goals try conv => whnf
 all_goals try (refine a8.mk ?_; try dsimp only)
 . exact ⟨trivial, hp.1.1, hp.1.2.2⟩
 . exfalso
   unfold bV at hc
   rw [if_pos (by assumption)] at hc
   exact hc (by assumption)
 . simp only [bJ] at *
   have hr : bV (gv k) c = (0, [], c.next.1) := by unfold bV; rw [if_neg (by assumption), if_pos (by omega)]
   rw [hr]
   refine ab.mk [] ?_ <;> (repeat' first | trivial | apply aa | apply ak)
   simp
 simp only [bJ] at *
 have hn := hn (by omega)
 refine cB.mk (Nat × Tk × Cu × List Nd) (LInv k c) (fun x => ⟨25, [(0, .ptr 0 0), (1, .int .i64 d), (4, .ptr 3 0)], [.cells [.ptr 1 0, .buf 2], .cells (eC x.2.2.1), .buf 4 0 (l ++ x.2.2.2.map bX), .cells (eT x.2.1)], [2]⟩) (fun x => x.1) [] (c.next.1.e - c.next.1.p + 1, c.next.2, c.next.1, []) ⟨hn.1, hn.2.1, hn.2.2.1, by show 0 + 1 + c.p ≤ c.next.1.p; omega, Nat.le_refl _, by unfold bV; rw [if_neg (by assumption), if_neg (by omega)]⟩ ?_ (fun ⟨n, t, c', acc⟩ hI _ _ => ?_)
 . refine Go.VG.Sub.mk rfl ?_ ?_ ?_ ?_ <;> (repeat' first | trivial | apply aa | apply ak)
   simp
 obtain ⟨i1, i2, i3, i4, i5, i6⟩ := hI
 dsimp only at i1 i2 i3 i4 i5 i6
 obtain ⟨n, rfl⟩ : ∃ m, n = m + 1 := ⟨n - 1, by omega⟩
 rw [gw] at i6
 have fit := iz k t [] c' i1
 obtain ⟨L, hL⟩ := hp.2.2.1
 have hma : (acc.map bX).length = acc.length := List.length_map ..
 have hpe := i1.1.1
 repeat' ((conv => whnf); first | with_reducible refine aL ?_ (fun h => ?_) fun h => ?_ | apply aT | (apply aj <;> intro h))
 all_goals try conv => whnf
 all_goals try (refine a8.mk ?_; try dsimp only)
 all_goals (try simp only [bJ, la, nq] at *)
 all_goals generalize gv k t [] c' = r at *
 all_goals skip
 . exact ⟨⟨by omega, by have := t.k.toNat_lt; omega⟩, i1, hp.2.1, oD hL, by have := hp.2.2.2; rw [List.length_append, hma, i3]; omega⟩
 . rw [if_pos (by assumption)] at i6
   rw [i6] at hc
   exact hc (by assumption)
 . have f := fit (by omega)
   exact ⟨trivial, f.live.1, f.live.2.2⟩
 . rw [if_neg (by assumption), if_pos (by assumption)] at i6
   rw [i6] at hc
   exact hc (by assumption)
 . rw [if_neg (by assumption), if_neg (by assumption), if_pos (by omega)] at i6
   rw [i6]
   refine ab.mk [] ?_ <;> (repeat' first | trivial | apply aa | apply ak)
   rw [List.map_append, List.append_assoc]
 all_goals
  have h44 : r.2.2.next.2.k.toNat = 44 := by
   refine Decidable.byContradiction fun q => hc ?_
   rw [if_neg (by assumption), if_neg (by assumption), if_neg (by omega), if_pos q] at i6
   rw [i6]
   exact (by decide : (3 : Int) ≠ 0)
 . rw [h44]; rfl
 all_goals
  have f := fit (by omega)
  obtain ⟨o1, o2, o3, o4, _⟩ := cF f.live (by omega)
  have f2 := f.p; have f3 := f.e; have f4 := f.len; have f5 := f.s
 . exact ⟨trivial, o1.1, o1.2.2⟩
 . rw [if_neg (by assumption), if_neg (by assumption), if_neg (by omega), if_neg (fun q => q h44), if_pos (by assumption)] at i6
   rw [i6] at hc
   exact hc (by assumption)
 . rw [if_neg (by assumption), if_neg (by assumption), if_neg (by omega), if_neg (fun q => q h44), if_neg (by assumption)] at i6
   obtain ⟨u1, u2, u3, u4, _⟩ := cF o1 (by omega)
   have u5 := u1.1.1
   refine ⟨[], (n, r.2.2.next.1.next.2, r.2.2.next.1.next.1, acc ++ r.2.1), ⟨u1, by show _ = c.s; rw [u2, o2, f5, i2], by show _ = c.e; rw [u3, o3, f3, i3], by show (acc ++ r.2.1).length + 1 + c.p ≤ r.2.2.next.1.next.1.p; rw [List.length_append]; omega, by show r.2.2.next.1.next.1.e - r.2.2.next.1.next.1.p + 1 ≤ n; rw [u3, o3, f3] at u5 ⊢; omega, i6⟩, ?_, Nat.lt_succ_self n⟩
   refine Go.VG.Sub.mk rfl ?_ ?_ ?_ ?_ <;> (repeat' first | trivial | apply aa | apply ak)
   rw [List.map_append, List.append_assoc]
theorem Io (k : Nat) (hv : fu 19 (iL k)) (c : Cu) (l : List V) (d : Int) (hp : c.live ∧ d + k = 32 ∧ (∃ L : List Nd, l = L.map bX) ∧ l.length + (c.e - c.p) ≤ 100000000) (hc : (bV (gv k) c).1 ≠ 0) : mj 28 ([.ptr 0 0, .int .i64 d]) ([.cells [.ptr 1 0, .buf 2], .cells (eC c), .buf 4 0 l]) (.iface 48 (.int .i64 (bV (gv k) c).1)) (some [.dead, .dead, .dead, .buf 1 0 []]) := by
 refine n7 (C := mA [] [(20, kU), (19, iL k)]) (og trivial ⟨mR, hv, trivial⟩) (fn := Tryd.f28) rfl rfl rfl rfl fun hw hs => ?_
 have hn := fun h => cF hp.1 h
 repeat' ((conv => whnf); first | with_reducible refine aL ?_ (fun h => ?_) fun h => ?_ | apply ai | (apply aj <;> intro h))
 all_goals try conv => whnf
 all_goals try (refine a8.mk ?_; try dsimp only)
 . exact ⟨trivial, hp.1.1, hp.1.2.2⟩
 . simp only [bJ] at *
   have hr : bV (gv k) c = (c.bk, [], c) := by unfold bV; rw [if_pos (by assumption)]
   rw [hr]
 . (refine cZ.mk [] ?_ <;> (repeat' first | trivial | rfl | apply aa); done)
 . exfalso
   simp only [bJ] at *
   have hr : bV (gv k) c = (0, [], c.next.1) := by unfold bV; rw [if_neg (by assumption), if_pos (by omega)]
   rw [hr] at hc
   exact hc rfl
 simp only [bJ] at *
 have hn := hn (by omega)
 refine cB.mk (Nat × Tk × Cu × List Nd) (LInv k c) (fun x => ⟨25, [(0, .ptr 0 0), (1, .int .i64 d), (4, .ptr 3 0)], [.cells [.ptr 1 0, .buf 2], .cells (eC x.2.2.1), .buf 4 0 (l ++ x.2.2.2.map bX), .cells (eT x.2.1)], [2]⟩) (fun x => x.1) [] (c.next.1.e - c.next.1.p + 1, c.next.2, c.next.1, []) ⟨hn.1, hn.2.1, hn.2.2.1, by show 0 + 1 + c.p ≤ c.next.1.p; omega, Nat.le_refl _, by unfold bV; rw [if_neg (by assumption), if_neg (by omega)]⟩ ?_ (fun ⟨n, t, c', acc⟩ hI _ _ => ?_)
 . refine Go.VG.Sub.mk rfl ?_ ?_ ?_ ?_ <;> (repeat' first | trivial | apply aa | apply ak)
   simp
 obtain ⟨i1, i2, i3, i4, i5, i6⟩ := hI
 dsimp only at i1 i2 i3 i4 i5 i6
 obtain ⟨n, rfl⟩ : ∃ m, n = m + 1 := ⟨n - 1, by omega⟩
 rw [gw] at i6
 have fit := iz k t [] c' i1
 obtain ⟨L, hL⟩ := hp.2.2.1
 have hma : (acc.map bX).length = acc.length := List.length_map ..
 have hpe := i1.1.1
 repeat' ((conv => whnf); first | with_reducible refine aL ?_ (fun h => ?_) fun h => ?_ | apply ai | (apply aj <;> intro h))
 all_goals try conv => whnf
 all_goals try (refine a8.mk ?_; try dsimp only)
 all_goals (try simp only [bJ, la, nq] at *)
 all_goals generalize gv k t [] c' = r at *
 all_goals skip
 . exact ⟨⟨by omega, by have := t.k.toNat_lt; omega⟩, i1, hp.2.1, oD hL, by have := hp.2.2.2; rw [List.length_append, hma, i3]; omega⟩
 . rw [if_pos (by assumption)] at i6
   rw [i6]
 . (refine cZ.mk [.nw, .swap 3 4] ?_ <;> (repeat' first | trivial | rfl | apply aa); done)
 . have f := fit (by omega)
   exact ⟨trivial, f.live.1, f.live.2.2⟩
 . rw [if_neg (by assumption), if_pos (by assumption)] at i6
   rw [i6]
 . (refine cZ.mk [.nw, .swap 3 4] ?_ <;> (repeat' first | trivial | rfl | apply aa); done)
 . rw [if_neg (by assumption), if_neg (by assumption), if_pos (by omega)] at i6
   rw [i6] at hc
   exact hc rfl
 . have f := fit (by omega)
   obtain ⟨o1, o2, o3, o4, _⟩ := cF f.live (by omega)
   exact ⟨trivial, o1.1, o1.2.2⟩
 . rw [if_neg (by assumption), if_neg (by assumption), if_neg (by omega), if_neg (by omega), if_pos (by assumption)] at i6
   rw [i6]
 . (refine cZ.mk [.nw, .swap 3 4] ?_ <;> (repeat' first | trivial | rfl | apply aa); done)
 . rw [if_neg (by assumption), if_neg (by assumption), if_neg (by omega), if_neg (by omega), if_neg (by assumption)] at i6
   have f := fit (by omega)
   obtain ⟨o1, o2, o3, o4, _⟩ := cF f.live (by omega)
   have f2 := f.p; have f3 := f.e; have f4 := f.len; have f5 := f.s
   obtain ⟨u1, u2, u3, u4, _⟩ := cF o1 (by omega)
   have u5 := u1.1.1
   refine ⟨[], (n, r.2.2.next.1.next.2, r.2.2.next.1.next.1, acc ++ r.2.1), ⟨u1, by show _ = c.s; rw [u2, o2, f5, i2], by show _ = c.e; rw [u3, o3, f3, i3], by show (acc ++ r.2.1).length + 1 + c.p ≤ r.2.2.next.1.next.1.p; rw [List.length_append]; omega, by show r.2.2.next.1.next.1.e - r.2.2.next.1.next.1.p + 1 ≤ n; rw [u3, o3, f3] at u5 ⊢; omega, i6⟩, ?_, Nat.lt_succ_self n⟩
   refine Go.VG.Sub.mk rfl ?_ ?_ ?_ ?_ <;> (repeat' first | trivial | apply aa | apply ak)
   rw [List.map_append, List.append_assoc]
 . rw [if_neg (by assumption), if_neg (by assumption), if_neg (by omega), if_pos (by omega)] at i6
   rw [i6]
 . (refine cZ.mk [.nw, .swap 3 4] ?_ <;> (repeat' first | trivial | rfl | apply aa); done)
def na (k : Nat) : eS := fun args σ => match args, σ with
 | [.ptr 0 0, .int .i64 d], [.cells [.ptr 1 0, .buf 2], .cells ([.str s_c, .int .i64 (.ofNat a_c), .int .i64 (.ofNat e_c), .int .i64 c_c]), .buf 4 0 l] => some (True ∧ ((Cu.mk s_c a_c e_c c_c).live ∧ d + k = 32 ∧ (∃ L : List Nd, l = L.map bX) ∧ l.length + ((Cu.mk s_c a_c e_c c_c).e - (Cu.mk s_c a_c e_c c_c).p) ≤ 100000000), (bV (gv k) (Cu.mk s_c a_c e_c c_c)).1 ≠ 0, .iface 48 (.int .i64 (bV (gv k) (Cu.mk s_c a_c e_c c_c)).1), some [.dead, .dead, .dead, .buf 1 0 []], .tuple [], some [.cells [.ptr 1 0, .buf 2], .cells (eC (bV (gv k) (Cu.mk s_c a_c e_c c_c)).2.2), .buf 4 0 (l ++ (bV (gv k) (Cu.mk s_c a_c e_c c_c)).2.1.map bX)])
 | _, _ => none
theorem Hb (k : Nat) (hv : fu 19 (iL k)) : fu 28 (na k) := by
 intro args sg pre c u r x r2 he hp
 unfold na at he
 split at he <;> cases he
 . rw [cR (hp).1]; exact ⟨fun hc => ⟨_, rfl, Io (hv := hv) (hp := hp.2) (hc := hc) ..⟩, fun hc => Fg (hv := hv) (hp := hp.2) (hc := hc) ..⟩
end Go.Proofs.YtllncocibkgjkaaDoor
