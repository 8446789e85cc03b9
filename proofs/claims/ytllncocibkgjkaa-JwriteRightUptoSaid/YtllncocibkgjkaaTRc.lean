/-
  A part of the proof.
-/
import Derived.Test.YtllncocibkgjkaaTRa
import Derived.Test.YtllncocibkgjkaaJTw
set_option linter.unusedSimpArgs false
set_option linter.unusedVariables false
set_option maxHeartbeats 4000000
namespace Go.Proofs.Ytllncocibkgjkaa
open Go Go.VG
set_option maxRecDepth 100000
theorem AD (c : Cu) : (c.next.1.c ≠ 0 ∧ c.aE = c.next.1.c) ∨ (c.next.1.c = 0 ∧ c.next.2.k.toNat = 0 ∧ c.aE = 1) ∨ (c.next.1.c = 0 ∧ c.next.2.k.toNat ≠ 0 ∧ c.aE = 0) := by
 unfold Cu.aE
 by_cases h : c.next.1.c ≠ 0
 . rw [if_pos h]; exact .inl ⟨h, rfl⟩
 . rw [if_neg h]
   have h0 : c.next.1.c = 0 := by omega
   by_cases h2 : c.next.2.k = 0
   . rw [if_pos h2]; exact .inr (.inl ⟨h0, by rw [h2]; rfl, rfl⟩)
   . rw [if_neg h2]; exact .inr (.inr ⟨h0, fun q => h2 (UInt8.toNat_inj.1 q), rfl⟩)
theorem DK (c : Cu) (l : List V) (hp : c.ok ∧ c.s.length ≤ 10000000) (hc : ¬ (c.aE ≠ 0)) : OK 57 ([.ptr 0 0]) ([.cells [.ptr 1 0, .buf 2], .cells (eC c), .buf 4 0 l]) (.agg (eT c.next.2)) (some [.cells [.ptr 1 0, .buf 2], .cells (eC c.next.1), .buf 4 0 l]) := by
 refine az (C := cx [(18, ma), (21, iy)]) (ax ⟨oL, jb, trivial⟩) (fn := Try.f57) rfl rfl rfl rfl fun hw hs => ?_
 have ht := AD c
 repeat' ((conv => whnf); first | apply al | apply bh | (apply ay <;> intro h))
 all_goals try conv => whnf
 all_goals try (refine af.mk ?_; try dsimp only)
 all_goals (try simp only [aO] at *)
 all_goals first | refine stay ?_ | trivial | skip
 all_goals first
  | (exfalso; omega)
  | (show ah _ _ _ _ _ _
     refine ah.mk [] ?_ <;> (repeat' first | trivial)
     done)
theorem Gv (c : Cu) (l : List V) (hp : c.ok ∧ c.s.length ≤ 10000000) (hc : c.aE ≠ 0) : la 57 ([.ptr 0 0]) ([.cells [.ptr 1 0, .buf 2], .cells (eC c), .buf 4 0 l]) (.iface 100 (.int .i64 c.aE)) (some [.dead, .dead, .dead, .buf 1 0 []]) := by
 refine lU (C := cx [(18, ma), (21, iy)]) (ax ⟨oL, jb, trivial⟩) (fn := Try.f57) rfl rfl rfl rfl fun hw hs => ?_
 have ht := AD c
 repeat' ((conv => whnf); first | apply al | apply iN | apply bh | (apply ay <;> intro h))
 all_goals try conv => whnf
 all_goals try (refine af.mk ?_; try dsimp only)
 all_goals (try simp only [aO] at *)
 all_goals first | refine stay ?_ | trivial | (simp (discharger := omega) [-List.getD_eq_getElem?_getD, wR] <;> omega) | skip
 all_goals first
  | (show c9 _ _ _
     (refine c9.mk [.nw, .swap 3 5] ?_ <;> (repeat' first | trivial | rfl | apply ak); done)
     done)
  | (exfalso; omega)
def jM : dC := fun args σ => match args, σ with
 | [.ptr 0 0], [.cells [.ptr 1 0, .buf 2], .cells ([.str s_c, .int .i64 (.ofNat a_c), .int .i64 (.ofNat e_c), .int .i64 c_c]), .buf 4 0 l] => some (True ∧ ((Cu.mk s_c a_c e_c c_c).ok ∧ (Cu.mk s_c a_c e_c c_c).s.length ≤ 10000000), (Cu.mk s_c a_c e_c c_c).aE ≠ 0, .iface 100 (.int .i64 (Cu.mk s_c a_c e_c c_c).aE), some [.dead, .dead, .dead, .buf 1 0 []], .agg (eT (Cu.mk s_c a_c e_c c_c).next.2), some [.cells [.ptr 1 0, .buf 2], .cells (eC (Cu.mk s_c a_c e_c c_c).next.1), .buf 4 0 l])
 | _, _ => none
theorem lJ : dP 57 (jM) := by
 intro args sg pre c u r x r2 he hp
 unfold jM at he
 split at he <;> cases he
 . rw [bW (hp).1]; exact ⟨fun hc => ⟨_, rfl, Gv (hp := hp.2) (hc := hc) ..⟩, fun hc => DK (hp := hp.2) (hc := hc) ..⟩
theorem DJ (c : Cu) (l : List V) (k : UInt8) (hp : c.ok ∧ c.s.length ≤ 10000000) (hc : ¬ (c.aE ≠ 0 ∨ c.next.2.k ≠ k)) : OK 103 ([.ptr 0 0, bv k]) ([.cells [.ptr 1 0, .buf 2], .cells (eC c), .buf 4 0 l]) (.tuple []) (some [.cells [.ptr 1 0, .buf 2], .cells (eC c.next.1), .buf 4 0 l]) := by
 refine az (C := lq [] [(57, jM)]) (n6 trivial ⟨lJ, trivial⟩) (fn := Try.f103) rfl rfl rfl rfl fun hw hs => ?_
 have h1 : c.aE = 0 := Decidable.not_not.1 fun q => hc (.inl q)
 have h2 : c.next.2.k = k := Decidable.not_not.1 fun q => hc (.inr q)
 repeat' ((conv => whnf); first | with_reducible refine fL ?_ (fun h => ?_) fun h => ?_ | apply iN | apply bh)
 all_goals try conv => whnf
 all_goals try (refine af.mk ?_; try dsimp only)
 all_goals (try simp only [aO] at *)
 all_goals first | refine stay ?_ | trivial | skip
 all_goals first
  | (exfalso; omega)
  | (rw [h2]; exact beq_self_eq_true _)
  | (rw [h2]; exact bne_self_eq_false _)
  | (show ah _ _ _ _ _ _
     refine ah.mk [] ?_ <;> (repeat' first | trivial)
     done)
theorem Gu (c : Cu) (l : List V) (k : UInt8) (hp : c.ok ∧ c.s.length ≤ 10000000) (hc : c.aE ≠ 0 ∨ c.next.2.k ≠ k) : la 103 ([.ptr 0 0, bv k]) ([.cells [.ptr 1 0, .buf 2], .cells (eC c), .buf 4 0 l]) (.iface 100 (.int .i64 (if c.aE ≠ 0 then c.aE else 3))) (some [.dead, .dead, .dead, .buf 1 0 []]) := by
 refine lU (C := lq [] [(57, jM)]) (n6 trivial ⟨lJ, trivial⟩) (fn := Try.f103) rfl rfl rfl rfl fun hw hs => ?_
 have hk : (c.next.2.k.toNat : Int) = k.toNat → c.next.2.k = k := fun h => UInt8.toNat_inj.1 (by omega)
 repeat' ((conv => whnf); first | with_reducible refine fL ?_ (fun h => ?_) fun h => ?_ | apply al | apply iN)
 all_goals try conv => whnf
 all_goals try (refine af.mk ?_; try dsimp only)
 all_goals (try simp only [aO] at *)
 all_goals first | refine stay ?_ | trivial | (simp (discharger := omega) [-List.getD_eq_getElem?_getD, wR] <;> omega) | skip
 all_goals first
  | (show c9 _ _ _
     first | (refine c9.mk [] ?_ <;> (repeat' first | trivial | rfl | apply ak); done) | (refine c9.mk [.nw, .swap 3 3] ?_ <;> (repeat' first | trivial | rfl | apply ak); done)
     done)
  | (have h2 : c.next.2.k ≠ k := hc.resolve_left (by assumption)
     refine bne_iff_ne.2 fun q => h2 (hk q))
  | (exfalso; omega)
def qZ : dC := fun args σ => match args, σ with
 | [.ptr 0 0, .int .u8 n_k], [.cells [.ptr 1 0, .buf 2], .cells ([.str s_c, .int .i64 (.ofNat a_c), .int .i64 (.ofNat e_c), .int .i64 c_c]), .buf 4 0 l] => some ((0 ≤ n_k ∧ n_k ≤ 255) ∧ (True ∧ ((Cu.mk s_c a_c e_c c_c).ok ∧ (Cu.mk s_c a_c e_c c_c).s.length ≤ 10000000)), (Cu.mk s_c a_c e_c c_c).aE ≠ 0 ∨ (Cu.mk s_c a_c e_c c_c).next.2.k ≠ (byte n_k), .iface 100 (.int .i64 (if (Cu.mk s_c a_c e_c c_c).aE ≠ 0 then (Cu.mk s_c a_c e_c c_c).aE else 3)), some [.dead, .dead, .dead, .buf 1 0 []], .tuple [], some [.cells [.ptr 1 0, .buf 2], .cells (eC (Cu.mk s_c a_c e_c c_c).next.1), .buf 4 0 l])
 | _, _ => none
theorem yB : dP 103 (qZ) := by
 intro args sg pre c u r x r2 he hp
 unfold qZ at he
 split at he <;> cases he
 . rw [eK (hp).1]; rw [bW (hp.2).1]; exact ⟨fun hc => ⟨_, rfl, Gu (hp := hp.2.2) (hc := hc) ..⟩, fun hc => DJ (hp := hp.2.2) (hc := hc) ..⟩
theorem DR (c : Cu) (l : List V) (hp : c.ok ∧ c.s.length ≤ 10000000) (hc : ¬ (c.next.2.k ≠ 0 ∨ c.next.1.c ≠ 0)) : OK 58 ([.ptr 0 0]) ([.cells [.ptr 1 0, .buf 2], .cells (eC c), .buf 4 0 l]) (.tuple []) (some [.cells [.ptr 1 0, .buf 2], .cells (eC c.next.1), .buf 4 0 l]) := by
 refine az (C := cx [(18, ma), (21, iy)]) (ax ⟨oL, jb, trivial⟩) (fn := Try.f58) rfl rfl rfl rfl fun hw hs => ?_
 have h1 : c.next.2.k = 0 := Decidable.not_not.1 fun q => hc (.inl q)
 have h2 : c.next.1.c = 0 := Decidable.not_not.1 fun q => hc (.inr q)
 repeat' ((conv => whnf); first | apply al | apply iN | apply bh)
 all_goals try conv => whnf
 all_goals try (refine af.mk ?_; try dsimp only)
 all_goals (try simp only [aO] at *)
 all_goals first | refine stay ?_ | trivial | (simp (discharger := omega) [-List.getD_eq_getElem?_getD, wR] <;> omega) | skip
 all_goals first
  | (rw [h1]; rfl)
  | (rw [h2]; rfl)
  | (exfalso; omega)
  | (show ah _ _ _ _ _ _
     refine ah.mk [] ?_ <;> (repeat' first | trivial)
     done)
theorem Gx (c : Cu) (l : List V) (hp : c.ok ∧ c.s.length ≤ 10000000) (hc : c.next.2.k ≠ 0 ∨ c.next.1.c ≠ 0) : la 58 ([.ptr 0 0]) ([.cells [.ptr 1 0, .buf 2], .cells (eC c), .buf 4 0 l]) (.iface 100 (.int .i64 2)) (some [.dead, .dead, .dead, .buf 1 0 []]) := by
 refine lU (C := cx [(18, ma), (21, iy)]) (ax ⟨oL, jb, trivial⟩) (fn := Try.f58) rfl rfl rfl rfl fun hw hs => ?_
 have hk : (c.next.2.k.toNat : Int) = 0 → c.next.2.k = 0 := fun h => UInt8.toNat_inj.1 (by show c.next.2.k.toNat = 0; omega)
 repeat' ((conv => whnf); first | apply al | apply iN | apply bh | (apply ay <;> intro h))
 all_goals try conv => whnf
 all_goals try (refine af.mk ?_; try dsimp only)
 all_goals (try simp only [aO] at *)
 all_goals first | refine stay ?_ | trivial | skip
 all_goals first
  | (show c9 _ _ _
     (refine c9.mk [.nw, .swap 3 4] ?_ <;> (repeat' first | trivial | rfl | apply ak); done)
     done)
  | (have h2 : c.next.1.c ≠ 0 := hc.resolve_left (fun q => q (hk (by assumption)))
     exact bne_iff_ne.2 h2)
  | (exfalso; omega)
def uc : dC := fun args σ => match args, σ with
 | [.ptr 0 0], [.cells [.ptr 1 0, .buf 2], .cells ([.str s_c, .int .i64 (.ofNat a_c), .int .i64 (.ofNat e_c), .int .i64 c_c]), .buf 4 0 l] => some (True ∧ ((Cu.mk s_c a_c e_c c_c).ok ∧ (Cu.mk s_c a_c e_c c_c).s.length ≤ 10000000), (Cu.mk s_c a_c e_c c_c).next.2.k ≠ 0 ∨ (Cu.mk s_c a_c e_c c_c).next.1.c ≠ 0, .iface 100 (.int .i64 2), some [.dead, .dead, .dead, .buf 1 0 []], .tuple [], some [.cells [.ptr 1 0, .buf 2], .cells (eC (Cu.mk s_c a_c e_c c_c).next.1), .buf 4 0 l])
 | _, _ => none
theorem Fs : dP 58 (uc) := by
 intro args sg pre c u r x r2 he hp
 unfold uc at he
 split at he <;> cases he
 . rw [bW (hp).1]; exact ⟨fun hc => ⟨_, rfl, Gx (hp := hp.2) (hc := hc) ..⟩, fun hc => DR (hp := hp.2) (hc := hc) ..⟩
end Go.Proofs.Ytllncocibkgjkaa
