/-
  A part of the proof.
-/
import Derived.Test.YtllncocibkgjkaaGreatTRa
import Derived.Test.YtllncocibkgjkaaGreatJTw
set_option linter.unusedSimpArgs false
set_option linter.unusedVariables false
set_option maxHeartbeats 4000000
namespace Go.Proofs.YtllncocibkgjkaaGreat
open Go Go.VG
set_option maxRecDepth 100000
theorem CS (c : Cu) : (c.next.1.c ≠ 0 ∧ c.ay = c.next.1.c) ∨ (c.next.1.c = 0 ∧ c.next.2.k.toNat = 0 ∧ c.ay = 1) ∨ (c.next.1.c = 0 ∧ c.next.2.k.toNat ≠ 0 ∧ c.ay = 0) := by
 unfold Cu.ay
 by_cases h : c.next.1.c ≠ 0
 . rw [if_pos h]; exact .inl ⟨h, rfl⟩
 . rw [if_neg h]
   have h0 : c.next.1.c = 0 := by omega
   by_cases h2 : c.next.2.k = 0
   . rw [if_pos h2]; exact .inr (.inl ⟨h0, by rw [h2]; rfl, rfl⟩)
   . rw [if_neg h2]; exact .inr (.inr ⟨h0, fun q => h2 (UInt8.toNat_inj.1 q), rfl⟩)
theorem H3 (c : Cu) (l : List V) (hp : c.ok ∧ c.s.length ≤ 10000000) (hc : ¬ (c.ay ≠ 0)) : OK 42 ([.ptr 0 0]) ([.cells [.ptr 1 0, .buf 2], .cells (eC c), .buf 4 0 l]) (.agg (eT c.next.2)) (some [.cells [.ptr 1 0, .buf 2], .cells (eC c.next.1), .buf 4 0 l]) := by
 refine au (C := cx [(72, oX), (73, j8)]) (aq ⟨s5, jR, trivial⟩) (fn := Tryz.f42) rfl rfl rfl rfl fun hw hs => ?_
 have ht := CS c
 repeat' ((conv => whnf); first | apply ak | apply aW | (apply al <;> intro h))
 all_goals try conv => whnf
 all_goals try (refine a9.mk ?_; try dsimp only)
 all_goals (try simp only [aK] at *)
 all_goals first | refine stay ?_ | trivial | skip
 all_goals first
  | (exfalso; omega)
  | (show a8 _ _ _ _ _ _
     refine a8.mk [] ?_ <;> (repeat' first | trivial)
     done)
theorem K4 (c : Cu) (l : List V) (hp : c.ok ∧ c.s.length ≤ 10000000) (hc : c.ay ≠ 0) : mq 42 ([.ptr 0 0]) ([.cells [.ptr 1 0, .buf 2], .cells (eC c), .buf 4 0 l]) (.iface 86 (.int .i64 c.ay)) (some [.dead, .dead, .dead, .buf 1 0 []]) := by
 refine n8 (C := cx [(72, oX), (73, j8)]) (aq ⟨s5, jR, trivial⟩) (fn := Tryz.f42) rfl rfl rfl rfl fun hw hs => ?_
 have ht := CS c
 repeat' ((conv => whnf); first | apply ak | apply jk | apply aW | (apply al <;> intro h))
 all_goals try conv => whnf
 all_goals try (refine a9.mk ?_; try dsimp only)
 all_goals (try simp only [aK] at *)
 all_goals first | refine stay ?_ | trivial | (simp (discharger := omega) [-List.getD_eq_getElem?_getD, wR] <;> omega) | skip
 all_goals first
  | (show cN _ _ _
     (refine cN.mk [.nw, .swap 3 5] ?_ <;> (repeat' first | trivial | rfl | apply ae); done)
     done)
  | (exfalso; omega)
def kM : eF := fun args σ => match args, σ with
 | [.ptr 0 0], [.cells [.ptr 1 0, .buf 2], .cells ([.str s_c, .int .i64 (.ofNat a_c), .int .i64 (.ofNat e_c), .int .i64 c_c]), .buf 4 0 l] => some (True ∧ ((Cu.mk s_c a_c e_c c_c).ok ∧ (Cu.mk s_c a_c e_c c_c).s.length ≤ 10000000), (Cu.mk s_c a_c e_c c_c).ay ≠ 0, .iface 86 (.int .i64 (Cu.mk s_c a_c e_c c_c).ay), some [.dead, .dead, .dead, .buf 1 0 []], .agg (eT (Cu.mk s_c a_c e_c c_c).next.2), some [.cells [.ptr 1 0, .buf 2], .cells (eC (Cu.mk s_c a_c e_c c_c).next.1), .buf 4 0 l])
 | _, _ => none
theorem mV : eX 42 (kM) := by
 intro args sg pre c u r x r2 he hp
 unfold kM at he
 split at he <;> cases he
 . rw [c7 (hp).1]; exact ⟨fun hc => ⟨_, rfl, K4 (hp := hp.2) (hc := hc) ..⟩, fun hc => H3 (hp := hp.2) (hc := hc) ..⟩
theorem H2 (c : Cu) (l : List V) (k : UInt8) (hp : c.ok ∧ c.s.length ≤ 10000000) (hc : ¬ (c.ay ≠ 0 ∨ c.next.2.k ≠ k)) : OK 94 ([.ptr 0 0, bv k]) ([.cells [.ptr 1 0, .buf 2], .cells (eC c), .buf 4 0 l]) (.tuple []) (some [.cells [.ptr 1 0, .buf 2], .cells (eC c.next.1), .buf 4 0 l]) := by
 refine au (C := mC [] [(42, kM)]) (oh trivial ⟨mV, trivial⟩) (fn := Tryz.f94) rfl rfl rfl rfl fun hw hs => ?_
 have h1 : c.ay = 0 := Decidable.not_not.1 fun q => hc (.inl q)
 have h2 : c.next.2.k = k := Decidable.not_not.1 fun q => hc (.inr q)
 repeat' ((conv => whnf); first | with_reducible refine gb ?_ (fun h => ?_) fun h => ?_ | apply jk | apply aW)
 all_goals try conv => whnf
 all_goals try (refine a9.mk ?_; try dsimp only)
 all_goals (try simp only [aK] at *)
 all_goals first | refine stay ?_ | trivial | skip
 all_goals first
  | (exfalso; omega)
  | (rw [h2]; exact beq_self_eq_true _)
  | (rw [h2]; exact bne_self_eq_false _)
  | (show a8 _ _ _ _ _ _
     refine a8.mk [] ?_ <;> (repeat' first | trivial)
     done)
theorem K3 (c : Cu) (l : List V) (k : UInt8) (hp : c.ok ∧ c.s.length ≤ 10000000) (hc : c.ay ≠ 0 ∨ c.next.2.k ≠ k) : mq 94 ([.ptr 0 0, bv k]) ([.cells [.ptr 1 0, .buf 2], .cells (eC c), .buf 4 0 l]) (.iface 86 (.int .i64 (if c.ay ≠ 0 then c.ay else 3))) (some [.dead, .dead, .dead, .buf 1 0 []]) := by
 refine n8 (C := mC [] [(42, kM)]) (oh trivial ⟨mV, trivial⟩) (fn := Tryz.f94) rfl rfl rfl rfl fun hw hs => ?_
 have hk : (c.next.2.k.toNat : Int) = k.toNat → c.next.2.k = k := fun h => UInt8.toNat_inj.1 (by omega)
 repeat' ((conv => whnf); first | with_reducible refine gb ?_ (fun h => ?_) fun h => ?_ | apply ak | apply jk)
 all_goals try conv => whnf
 all_goals try (refine a9.mk ?_; try dsimp only)
 all_goals (try simp only [aK] at *)
 all_goals first | refine stay ?_ | trivial | (simp (discharger := omega) [-List.getD_eq_getElem?_getD, wR] <;> omega) | skip
 all_goals first
  | (show cN _ _ _
     first | (refine cN.mk [] ?_ <;> (repeat' first | trivial | rfl | apply ae); done) | (refine cN.mk [.nw, .swap 3 3] ?_ <;> (repeat' first | trivial | rfl | apply ae); done)
     done)
  | (have h2 : c.next.2.k ≠ k := hc.resolve_left (by assumption)
     refine bne_iff_ne.2 fun q => h2 (hk q))
  | (exfalso; omega)
def sI : eF := fun args σ => match args, σ with
 | [.ptr 0 0, .int .u8 n_k], [.cells [.ptr 1 0, .buf 2], .cells ([.str s_c, .int .i64 (.ofNat a_c), .int .i64 (.ofNat e_c), .int .i64 c_c]), .buf 4 0 l] => some ((0 ≤ n_k ∧ n_k ≤ 255) ∧ (True ∧ ((Cu.mk s_c a_c e_c c_c).ok ∧ (Cu.mk s_c a_c e_c c_c).s.length ≤ 10000000)), (Cu.mk s_c a_c e_c c_c).ay ≠ 0 ∨ (Cu.mk s_c a_c e_c c_c).next.2.k ≠ (byte n_k), .iface 86 (.int .i64 (if (Cu.mk s_c a_c e_c c_c).ay ≠ 0 then (Cu.mk s_c a_c e_c c_c).ay else 3)), some [.dead, .dead, .dead, .buf 1 0 []], .tuple [], some [.cells [.ptr 1 0, .buf 2], .cells (eC (Cu.mk s_c a_c e_c c_c).next.1), .buf 4 0 l])
 | _, _ => none
theorem AW : eX 94 (sI) := by
 intro args sg pre c u r x r2 he hp
 unfold sI at he
 split at he <;> cases he
 . rw [eD (hp).1]; rw [c7 (hp.2).1]; exact ⟨fun hc => ⟨_, rfl, K3 (hp := hp.2.2) (hc := hc) ..⟩, fun hc => H2 (hp := hp.2.2) (hc := hc) ..⟩
theorem H6 (c : Cu) (l : List V) (hp : c.ok ∧ c.s.length ≤ 10000000) (hc : ¬ (c.next.2.k ≠ 0 ∨ c.next.1.c ≠ 0)) : OK 43 ([.ptr 0 0]) ([.cells [.ptr 1 0, .buf 2], .cells (eC c), .buf 4 0 l]) (.tuple []) (some [.cells [.ptr 1 0, .buf 2], .cells (eC c.next.1), .buf 4 0 l]) := by
 refine au (C := cx [(72, oX), (73, j8)]) (aq ⟨s5, jR, trivial⟩) (fn := Tryz.f43) rfl rfl rfl rfl fun hw hs => ?_
 have h1 : c.next.2.k = 0 := Decidable.not_not.1 fun q => hc (.inl q)
 have h2 : c.next.1.c = 0 := Decidable.not_not.1 fun q => hc (.inr q)
 repeat' ((conv => whnf); first | apply ak | apply jk | apply aW)
 all_goals try conv => whnf
 all_goals try (refine a9.mk ?_; try dsimp only)
 all_goals (try simp only [aK] at *)
 all_goals first | refine stay ?_ | trivial | (simp (discharger := omega) [-List.getD_eq_getElem?_getD, wR] <;> omega) | skip
 all_goals first
  | (rw [h1]; rfl)
  | (rw [h2]; rfl)
  | (exfalso; omega)
  | (show a8 _ _ _ _ _ _
     refine a8.mk [] ?_ <;> (repeat' first | trivial)
     done)
theorem K6 (c : Cu) (l : List V) (hp : c.ok ∧ c.s.length ≤ 10000000) (hc : c.next.2.k ≠ 0 ∨ c.next.1.c ≠ 0) : mq 43 ([.ptr 0 0]) ([.cells [.ptr 1 0, .buf 2], .cells (eC c), .buf 4 0 l]) (.iface 86 (.int .i64 2)) (some [.dead, .dead, .dead, .buf 1 0 []]) := by
 refine n8 (C := cx [(72, oX), (73, j8)]) (aq ⟨s5, jR, trivial⟩) (fn := Tryz.f43) rfl rfl rfl rfl fun hw hs => ?_
 have hk : (c.next.2.k.toNat : Int) = 0 → c.next.2.k = 0 := fun h => UInt8.toNat_inj.1 (by show c.next.2.k.toNat = 0; omega)
 repeat' ((conv => whnf); first | apply ak | apply jk | apply aW | (apply al <;> intro h))
 all_goals try conv => whnf
 all_goals try (refine a9.mk ?_; try dsimp only)
 all_goals (try simp only [aK] at *)
 all_goals first | refine stay ?_ | trivial | skip
 all_goals first
  | (show cN _ _ _
     (refine cN.mk [.nw, .swap 3 4] ?_ <;> (repeat' first | trivial | rfl | apply ae); done)
     done)
  | (have h2 : c.next.1.c ≠ 0 := hc.resolve_left (fun q => q (hk (by assumption)))
     exact bne_iff_ne.2 h2)
  | (exfalso; omega)
def vR : eF := fun args σ => match args, σ with
 | [.ptr 0 0], [.cells [.ptr 1 0, .buf 2], .cells ([.str s_c, .int .i64 (.ofNat a_c), .int .i64 (.ofNat e_c), .int .i64 c_c]), .buf 4 0 l] => some (True ∧ ((Cu.mk s_c a_c e_c c_c).ok ∧ (Cu.mk s_c a_c e_c c_c).s.length ≤ 10000000), (Cu.mk s_c a_c e_c c_c).next.2.k ≠ 0 ∨ (Cu.mk s_c a_c e_c c_c).next.1.c ≠ 0, .iface 86 (.int .i64 2), some [.dead, .dead, .dead, .buf 1 0 []], .tuple [], some [.cells [.ptr 1 0, .buf 2], .cells (eC (Cu.mk s_c a_c e_c c_c).next.1), .buf 4 0 l])
 | _, _ => none
theorem Jb : eX 43 (vR) := by
 intro args sg pre c u r x r2 he hp
 unfold vR at he
 split at he <;> cases he
 . rw [c7 (hp).1]; exact ⟨fun hc => ⟨_, rfl, K6 (hp := hp.2) (hc := hc) ..⟩, fun hc => H6 (hp := hp.2) (hc := hc) ..⟩
end Go.Proofs.YtllncocibkgjkaaGreat
namespace Go.Proofs.YtllncocibkgjkaaGreat
open Go Go.VG
set_option maxRecDepth 100000
theorem l0 (t : Tk) : (⟨byte (t.k.toNat : Int), t.t⟩ : Tk) = t := by
 have h : byte (t.k.toNat : Int) = t.k := UInt8.toNat_inj.1 (by have := db (n := t.k.toNat) ⟨by omega, by have := t.k.toNat_lt; omega⟩; omega)
 rw [h]
theorem fR : ({ data := #[] } : ByteArray).data.toList = [] := rfl
theorem oJ {l : List V} {L a : List Nd} (h : l = L.map aR) : ∃ M : List Nd, l ++ a.map aR = M.map aR := ⟨L ++ a, by rw [h, List.map_append]⟩
structure LInv (k : Nat) (c : Cu) (x : Nat × Tk × Cu × List Nd) : Prop where
 live : x.2.2.1.live
 s : x.2.2.1.s = c.s
 e : x.2.2.1.e = c.e
 acc : x.2.2.2.length + 1 + c.p ≤ x.2.2.1.p
 n : x.2.2.1.e - x.2.2.1.p + 1 ≤ x.1
 r : bm (gv k) c = fi (gv k) x.1 x.2.1 x.2.2.1 x.2.2.2
-- #name trValue (*jtree.reader).value
def il (k : Nat) : eF := fun args σ => match args, σ with
 | [.ptr 0 0, .agg [.int .u8 a, .str tt], .str key, .int .i64 d], [.cells [.ptr 1 0, .buf 2], .cells [.str s, .int .i64 (.ofNat p), .int .i64 (.ofNat e), .int .i64 cc], .buf 4 0 l] =>
   some ((0 ≤ a ∧ a ≤ 255) ∧ (⟨s, p, e, cc⟩ : Cu).live ∧ d + k = 32 ∧ (∃ L : List Nd, l = L.map aR) ∧ l.length + (e - p) + 1 ≤ 100000000,
    (gv k ⟨byte a, tt⟩ key ⟨s, p, e, cc⟩).1 ≠ 0, .iface 86 (.int .i64 (gv k ⟨byte a, tt⟩ key ⟨s, p, e, cc⟩).1), some [.dead, .dead, .dead, .buf 1 0 []],
    .tuple [], some [.cells [.ptr 1 0, .buf 2], .cells (eC (gv k ⟨byte a, tt⟩ key ⟨s, p, e, cc⟩).2.2), .buf 4 0 (l ++ (gv k ⟨byte a, tt⟩ key ⟨s, p, e, cc⟩).2.1.map aR)])
 | _, _ => none
theorem H0 (k : Nat) (hv : eX 41 (il k)) (c : Cu) (l : List V) (d : Int) (hp : c.live ∧ d + k = 32 ∧ (∃ L : List Nd, l = L.map aR) ∧ l.length + (c.e - c.p) ≤ 100000000) (hc : ¬ ((bm (gv k) c).1 ≠ 0)) : OK 71 ([.ptr 0 0, .int .i64 d]) ([.cells [.ptr 1 0, .buf 2], .cells (eC c), .buf 4 0 l]) (.tuple []) (some [.cells [.ptr 1 0, .buf 2], .cells (eC (bm (gv k) c).2.2), .buf 4 0 (l ++ (bm (gv k) c).2.1.map aR)]) := by
 refine au (C := mC [] [(42, kM), (41, il k)]) (oh trivial ⟨mV, hv, trivial⟩) (fn := Tryz.f71) rfl rfl rfl rfl fun hw hs => ?_
 have hn := fun h => b8 hp.1 h
 repeat' ((conv => whnf); first | with_reducible refine gb ?_ (fun h => ?_) fun h => ?_ | (apply al <;> intro h))
 all_goals try conv => whnf
 all_goals try (refine a9.mk ?_; try dsimp only)
 . exact ⟨trivial, hp.1.1, hp.1.2.2⟩
 . exfalso
   unfold bm at hc
   rw [if_pos (by assumption)] at hc
   exact hc (by assumption)
 . simp only [aK] at *
   have hr : bm (gv k) c = (0, [], c.next.1) := by unfold bm; rw [if_neg (by assumption), if_pos (by omega)]
   rw [hr]
   refine a8.mk [] ?_ <;> (repeat' first | trivial | apply ae | apply br)
   simp
 simp only [aK] at *
 have hn := hn (by omega)
 refine aU.mk (Nat × Tk × Cu × List Nd) (LInv k c) (fun x => ⟨25, [(0, .ptr 0 0), (1, .int .i64 d), (4, .ptr 3 0)], [.cells [.ptr 1 0, .buf 2], .cells (eC x.2.2.1), .buf 4 0 (l ++ x.2.2.2.map aR), .cells (eT x.2.1)], [2]⟩) (fun x => x.1) [] (c.next.1.e - c.next.1.p + 1, c.next.2, c.next.1, []) ⟨hn.1, hn.2.1, hn.2.2.1, by show 0 + 1 + c.p ≤ c.next.1.p; omega, Nat.le_refl _, by unfold bm; rw [if_neg (by assumption), if_neg (by omega)]⟩ ?_ (fun ⟨n, t, c', acc⟩ hI _ _ => ?_)
 . refine Go.VG.Sub.mk rfl ?_ ?_ ?_ ?_ <;> (repeat' first | trivial | apply ae | apply br)
   simp
 obtain ⟨i1, i2, i3, i4, i5, i6⟩ := hI
 dsimp only at i1 i2 i3 i4 i5 i6
 obtain ⟨n, rfl⟩ : ∃ m, n = m + 1 := ⟨n - 1, by omega⟩
 rw [fi] at i6
 have fit := fA k t [] c' i1
 obtain ⟨L, hL⟩ := hp.2.2.1
 have hma : (acc.map aR).length = acc.length := List.length_map ..
 have hpe := i1.1.1
 repeat' ((conv => whnf); first | with_reducible refine gb ?_ (fun h => ?_) fun h => ?_ | apply jk | (apply al <;> intro h))
 all_goals try conv => whnf
 all_goals try (refine a9.mk ?_; try dsimp only)
 all_goals (try simp only [aK, l0, fR] at *)
 all_goals generalize gv k t [] c' = r at *
 all_goals skip
 . exact ⟨⟨by omega, by have := t.k.toNat_lt; omega⟩, i1, hp.2.1, oJ hL, by have := hp.2.2.2; rw [List.length_append, hma, i3]; omega⟩
 . rw [if_pos (by assumption)] at i6
   rw [i6] at hc
   exact hc (by assumption)
 . have f := fit (by omega)
   exact ⟨trivial, f.live.1, f.live.2.2⟩
 . rw [if_neg (by assumption), if_pos (by assumption)] at i6
   rw [i6] at hc
   exact hc (by assumption)
 . rw [if_neg (by assumption), if_neg (by assumption), if_pos (by omega)] at i6
   rw [i6]
   refine a8.mk [] ?_ <;> (repeat' first | trivial | apply ae | apply br)
   rw [List.map_append, List.append_assoc]
 all_goals
  have h44 : r.2.2.next.2.k.toNat = 44 := by
   refine Decidable.byContradiction fun q => hc ?_
   rw [if_neg (by assumption), if_neg (by assumption), if_neg (by omega), if_pos q] at i6
   rw [i6]
   exact (by decide : (3 : Int) ≠ 0)
 . rw [h44]; rfl
 all_goals
  have f := fit (by omega)
  obtain ⟨o1, o2, o3, o4, _⟩ := b8 f.live (by omega)
  have f2 := f.p; have f3 := f.e; have f4 := f.len; have f5 := f.s
 . exact ⟨trivial, o1.1, o1.2.2⟩
 . rw [if_neg (by assumption), if_neg (by assumption), if_neg (by omega), if_neg (fun q => q h44), if_pos (by assumption)] at i6
   rw [i6] at hc
   exact hc (by assumption)
 . rw [if_neg (by assumption), if_neg (by assumption), if_neg (by omega), if_neg (fun q => q h44), if_neg (by assumption)] at i6
   obtain ⟨u1, u2, u3, u4, _⟩ := b8 o1 (by omega)
   have u5 := u1.1.1
   refine ⟨[], (n, r.2.2.next.1.next.2, r.2.2.next.1.next.1, acc ++ r.2.1), ⟨u1, by show _ = c.s; rw [u2, o2, f5, i2], by show _ = c.e; rw [u3, o3, f3, i3], by show (acc ++ r.2.1).length + 1 + c.p ≤ r.2.2.next.1.next.1.p; rw [List.length_append]; omega, by show r.2.2.next.1.next.1.e - r.2.2.next.1.next.1.p + 1 ≤ n; rw [u3, o3, f3] at u5 ⊢; omega, i6⟩, ?_, Nat.lt_succ_self n⟩
   refine Go.VG.Sub.mk rfl ?_ ?_ ?_ ?_ <;> (repeat' first | trivial | apply ae | apply br)
   rw [List.map_append, List.append_assoc]
theorem K0 (k : Nat) (hv : eX 41 (il k)) (c : Cu) (l : List V) (d : Int) (hp : c.live ∧ d + k = 32 ∧ (∃ L : List Nd, l = L.map aR) ∧ l.length + (c.e - c.p) ≤ 100000000) (hc : (bm (gv k) c).1 ≠ 0) : mq 71 ([.ptr 0 0, .int .i64 d]) ([.cells [.ptr 1 0, .buf 2], .cells (eC c), .buf 4 0 l]) (.iface 86 (.int .i64 (bm (gv k) c).1)) (some [.dead, .dead, .dead, .buf 1 0 []]) := by
 refine n8 (C := mC [] [(42, kM), (41, il k)]) (oh trivial ⟨mV, hv, trivial⟩) (fn := Tryz.f71) rfl rfl rfl rfl fun hw hs => ?_
 have hn := fun h => b8 hp.1 h
 repeat' ((conv => whnf); first | with_reducible refine gb ?_ (fun h => ?_) fun h => ?_ | apply ak | (apply al <;> intro h))
 all_goals try conv => whnf
 all_goals try (refine a9.mk ?_; try dsimp only)
 . exact ⟨trivial, hp.1.1, hp.1.2.2⟩
 . simp only [aK] at *
   have hr : bm (gv k) c = (c.ay, [], c) := by unfold bm; rw [if_pos (by assumption)]
   rw [hr]
 . (refine cN.mk [] ?_ <;> (repeat' first | trivial | rfl | apply ae); done)
 . exfalso
   simp only [aK] at *
   have hr : bm (gv k) c = (0, [], c.next.1) := by unfold bm; rw [if_neg (by assumption), if_pos (by omega)]
   rw [hr] at hc
   exact hc rfl
 simp only [aK] at *
 have hn := hn (by omega)
 refine aU.mk (Nat × Tk × Cu × List Nd) (LInv k c) (fun x => ⟨25, [(0, .ptr 0 0), (1, .int .i64 d), (4, .ptr 3 0)], [.cells [.ptr 1 0, .buf 2], .cells (eC x.2.2.1), .buf 4 0 (l ++ x.2.2.2.map aR), .cells (eT x.2.1)], [2]⟩) (fun x => x.1) [] (c.next.1.e - c.next.1.p + 1, c.next.2, c.next.1, []) ⟨hn.1, hn.2.1, hn.2.2.1, by show 0 + 1 + c.p ≤ c.next.1.p; omega, Nat.le_refl _, by unfold bm; rw [if_neg (by assumption), if_neg (by omega)]⟩ ?_ (fun ⟨n, t, c', acc⟩ hI _ _ => ?_)
 . refine Go.VG.Sub.mk rfl ?_ ?_ ?_ ?_ <;> (repeat' first | trivial | apply ae | apply br)
   simp
 obtain ⟨i1, i2, i3, i4, i5, i6⟩ := hI
 dsimp only at i1 i2 i3 i4 i5 i6
 obtain ⟨n, rfl⟩ : ∃ m, n = m + 1 := ⟨n - 1, by omega⟩
 rw [fi] at i6
 have fit := fA k t [] c' i1
 obtain ⟨L, hL⟩ := hp.2.2.1
 have hma : (acc.map aR).length = acc.length := List.length_map ..
 have hpe := i1.1.1
 repeat' ((conv => whnf); first | with_reducible refine gb ?_ (fun h => ?_) fun h => ?_ | apply ak | (apply al <;> intro h))
 all_goals try conv => whnf
 all_goals try (refine a9.mk ?_; try dsimp only)
 all_goals (try simp only [aK, l0, fR] at *)
 all_goals generalize gv k t [] c' = r at *
 all_goals skip
 . exact ⟨⟨by omega, by have := t.k.toNat_lt; omega⟩, i1, hp.2.1, oJ hL, by have := hp.2.2.2; rw [List.length_append, hma, i3]; omega⟩
 . rw [if_pos (by assumption)] at i6
   rw [i6]
 . (refine cN.mk [.nw, .swap 3 4] ?_ <;> (repeat' first | trivial | rfl | apply ae); done)
 . have f := fit (by omega)
   exact ⟨trivial, f.live.1, f.live.2.2⟩
 . rw [if_neg (by assumption), if_pos (by assumption)] at i6
   rw [i6]
 . (refine cN.mk [.nw, .swap 3 4] ?_ <;> (repeat' first | trivial | rfl | apply ae); done)
 . rw [if_neg (by assumption), if_neg (by assumption), if_pos (by omega)] at i6
   rw [i6] at hc
   exact hc rfl
 . have f := fit (by omega)
   obtain ⟨o1, o2, o3, o4, _⟩ := b8 f.live (by omega)
   exact ⟨trivial, o1.1, o1.2.2⟩
 . rw [if_neg (by assumption), if_neg (by assumption), if_neg (by omega), if_neg (by omega), if_pos (by assumption)] at i6
   rw [i6]
 . (refine cN.mk [.nw, .swap 3 4] ?_ <;> (repeat' first | trivial | rfl | apply ae); done)
 . rw [if_neg (by assumption), if_neg (by assumption), if_neg (by omega), if_neg (by omega), if_neg (by assumption)] at i6
   have f := fit (by omega)
   obtain ⟨o1, o2, o3, o4, _⟩ := b8 f.live (by omega)
   have f2 := f.p; have f3 := f.e; have f4 := f.len; have f5 := f.s
   obtain ⟨u1, u2, u3, u4, _⟩ := b8 o1 (by omega)
   have u5 := u1.1.1
   refine ⟨[], (n, r.2.2.next.1.next.2, r.2.2.next.1.next.1, acc ++ r.2.1), ⟨u1, by show _ = c.s; rw [u2, o2, f5, i2], by show _ = c.e; rw [u3, o3, f3, i3], by show (acc ++ r.2.1).length + 1 + c.p ≤ r.2.2.next.1.next.1.p; rw [List.length_append]; omega, by show r.2.2.next.1.next.1.e - r.2.2.next.1.next.1.p + 1 ≤ n; rw [u3, o3, f3] at u5 ⊢; omega, i6⟩, ?_, Nat.lt_succ_self n⟩
   refine Go.VG.Sub.mk rfl ?_ ?_ ?_ ?_ <;> (repeat' first | trivial | apply ae | apply br)
   rw [List.map_append, List.append_assoc]
 . rw [if_neg (by assumption), if_neg (by assumption), if_neg (by omega), if_pos (by omega)] at i6
   rw [i6]
 . (refine cN.mk [.nw, .swap 3 4] ?_ <;> (repeat' first | trivial | rfl | apply ae); done)
def n9 (k : Nat) : eF := fun args σ => match args, σ with
 | [.ptr 0 0, .int .i64 d], [.cells [.ptr 1 0, .buf 2], .cells ([.str s_c, .int .i64 (.ofNat a_c), .int .i64 (.ofNat e_c), .int .i64 c_c]), .buf 4 0 l] => some (True ∧ ((Cu.mk s_c a_c e_c c_c).live ∧ d + k = 32 ∧ (∃ L : List Nd, l = L.map aR) ∧ l.length + ((Cu.mk s_c a_c e_c c_c).e - (Cu.mk s_c a_c e_c c_c).p) ≤ 100000000), (bm (gv k) (Cu.mk s_c a_c e_c c_c)).1 ≠ 0, .iface 86 (.int .i64 (bm (gv k) (Cu.mk s_c a_c e_c c_c)).1), some [.dead, .dead, .dead, .buf 1 0 []], .tuple [], some [.cells [.ptr 1 0, .buf 2], .cells (eC (bm (gv k) (Cu.mk s_c a_c e_c c_c)).2.2), .buf 4 0 (l ++ (bm (gv k) (Cu.mk s_c a_c e_c c_c)).2.1.map aR)])
 | _, _ => none
theorem J9 (k : Nat) (hv : eX 41 (il k)) : eX 71 (n9 k) := by
 intro args sg pre c u r x r2 he hp
 unfold n9 at he
 split at he <;> cases he
 . rw [c7 (hp).1]; exact ⟨fun hc => ⟨_, rfl, K0 (hv := hv) (hp := hp.2) (hc := hc) ..⟩, fun hc => H0 (hv := hv) (hp := hp.2) (hc := hc) ..⟩
end Go.Proofs.YtllncocibkgjkaaGreat
