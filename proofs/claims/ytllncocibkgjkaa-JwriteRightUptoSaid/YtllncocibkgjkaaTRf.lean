/-
  A part of the proof.
-/
import Derived.Test.YtllncocibkgjkaaTRe
set_option linter.unusedSimpArgs false
set_option linter.unusedVariables false
set_option maxHeartbeats 4000000
namespace Go.Proofs.Ytllncocibkgjkaa
open Go Go.VG
set_option maxRecDepth 100000
theorem lK {k : UInt8} : eQ k = true ↔ (k.toNat = 115 ∨ k.toNat = 110 ∨ k.toNat = 116 ∨ k.toNat = 102 ∨ k.toNat = 122) := by unfold eQ; exact decide_eq_true_iff
theorem sr {l m : List V} {x b : V} (h : (l ++ x :: m)[((l.length : Nat) : Int).toNat]? = some b) : b = x := by
 rw [Int.toNat_natCast, List.getElem?_append_right (Nat.le_refl _), Nat.sub_self] at h
 simpa using h.symm
theorem vW {l m : List V} {x b : V} (h : (l ++ [x] ++ m)[((l.length : Nat) : Int).toNat]? = some b) : b = x := by
 rw [List.append_assoc] at h
 exact sr h
theorem HW {l m : List V} {x y : V} : (l ++ x :: m).set (((l.length : Nat) : Int).toNat) y = l ++ y :: m := by
 rw [Int.toNat_natCast, List.set_append_right _ _ (Nat.le_refl _), Nat.sub_self]; rfl
theorem Ie (l : List V) (n : Nat) (h : n ≤ 100000001) : IntKind.i64.wrap (((l.length + n : Nat) : Int) - (l.length : Int)) = (n : Int) := by rw [nP]; omega
theorem vA {l m : List V} {a : Int} {key tt : List UInt8} (h : m.length ≤ 100000000) : (l ++ [V.agg [.int .u8 a, .str key, .str tt, .int .i64 0]] ++ m).set ((l.length : Nat) : Int).toNat
   (.agg [.int .u8 a, .str key, .str tt, .int .i64 (IntKind.i64.wrap (((l ++ [V.agg [.int .u8 a, .str key, .str tt, .int .i64 0]] ++ m).length : Int) - (l.length : Int)))]) =
   l ++ V.agg [.int .u8 a, .str key, .str tt, .int .i64 ((m.length : Int) + 1)] :: m := by
 rw [List.append_assoc]
 show (l ++ _ :: m).set _ (.agg [.int .u8 a, .str key, .str tt, .int .i64 (IntKind.i64.wrap (((l ++ _ :: m).length : Int) - _))]) = _
 rw [HW, List.length_append, List.length_cons, Ie _ _ (show m.length + 1 ≤ _ by omega)]
 rfl
theorem AQ {l : List V} {a : Int} {key tt : List UInt8} : (l ++ [V.agg [.int .u8 a, .str key, .str tt, .int .i64 0]]).set ((l.length : Nat) : Int).toNat
   (.agg [.int .u8 a, .str key, .str tt, .int .i64 (IntKind.i64.wrap (((l ++ [V.agg [.int .u8 a, .str key, .str tt, .int .i64 0]]).length : Int) - (l.length : Int)))]) =
   l ++ [V.agg [.int .u8 a, .str key, .str tt, .int .i64 1]] := by
 have := vA (l := l) (m := []) (a := a) (key := key) (tt := tt) (Nat.zero_le _)
 rw [List.append_nil] at this
 exact this
theorem DS (k0 : UInt8) (tt key : List UInt8) (c : Cu) (l : List V) (d : Int) (hp : c.live ∧ d = 32 ∧ (∃ L : List Nd, l = L.map aX) ∧ l.length + (c.e - c.p) + 1 ≤ 100000000) (hc : ¬ ((gv 0 ⟨k0, tt⟩ key c).1 ≠ 0)) : OK 56 ([.ptr 0 0, .agg [bv k0, .str tt], .str key, .int .i64 d]) ([.cells [.ptr 1 0, .buf 2], .cells (eC c), .buf 4 0 l]) (.tuple []) (some [.cells [.ptr 1 0, .buf 2], .cells (eC (gv 0 ⟨k0, tt⟩ key c).2.2), .buf 4 0 (l ++ (gv 0 ⟨k0, tt⟩ key c).2.1.map aX)]) := by
 refine az (C := cx []) (ax trivial) (fn := Try.f56) rfl rfl rfl rfl fun hw hs => ?_
 obtain ⟨hp1, rfl, ⟨L, hL⟩, hp4⟩ := hp
 have hcc : ¬ (k0.toNat = 123 ∨ k0.toNat = 91) := fun q => hc (by rw [gv, if_pos q]; exact (by decide : (33 : Int) ≠ 0))
 have hl : eQ k0 = true := Decidable.byContradiction fun q => hc (by rw [gv, if_neg hcc, if_neg q]; exact (by decide : (3 : Int) ≠ 0))
 have hg : gv 0 ⟨k0, tt⟩ key c = (0, [⟨k0, key, tt, 1⟩], c) := by rw [gv, if_neg hcc, if_pos hl]
 have hk := lK.1 hl
 repeat' ((conv => whnf); first | apply al | apply iN | (apply ay <;> intro h) | with_reducible refine n5 ?_ fun b hb => ?_)
 all_goals try conv => whnf
 all_goals try (refine af.mk ?_; try dsimp only)
 all_goals first
  | (exfalso; omega)
  | (exact ⟨by omega, by rw [List.length_append]; show _ < ((l.length + 1 : Nat) : Int); omega⟩)
  | (show l.length + 1 ≤ _; omega)
  | (rw [List.length_append]; show _ < l.length + 1; omega)
  | (exact beq_iff_eq.2 (by omega))
  | skip
 all_goals
  obtain rfl := sr hb
  repeat' ((conv => whnf); apply al)
  all_goals try conv => whnf
  all_goals try (refine af.mk ?_; try dsimp only)
  all_goals first
   | exact Nat.zero_le _
   | skip
  rw [hg]
  refine ah.mk [] ?_ <;> (repeat' first | trivial | apply ak | apply aJ)
  exact AQ
theorem Gy (k0 : UInt8) (tt key : List UInt8) (c : Cu) (l : List V) (d : Int) (hp : c.live ∧ d = 32 ∧ (∃ L : List Nd, l = L.map aX) ∧ l.length + (c.e - c.p) + 1 ≤ 100000000) (hc : (gv 0 ⟨k0, tt⟩ key c).1 ≠ 0) : la 56 ([.ptr 0 0, .agg [bv k0, .str tt], .str key, .int .i64 d]) ([.cells [.ptr 1 0, .buf 2], .cells (eC c), .buf 4 0 l]) (.iface 100 (.int .i64 (gv 0 ⟨k0, tt⟩ key c).1)) (some [.dead, .dead, .dead, .buf 1 0 []]) := by
 refine lU (C := cx []) (ax trivial) (fn := Try.f56) rfl rfl rfl rfl fun hw hs => ?_
 obtain ⟨hp1, rfl, ⟨L, hL⟩, hp4⟩ := hp
 have hnl : ¬ (k0.toNat = 115 ∨ k0.toNat = 110 ∨ k0.toNat = 116 ∨ k0.toNat = 102 ∨ k0.toNat = 122) := fun q => hc (by rw [gv, if_neg (show ¬ (k0.toNat = 123 ∨ k0.toNat = 91) by omega), if_pos (lK.2 q)])
 have q33 : k0.toNat = 123 ∨ k0.toNat = 91 → gv 0 ⟨k0, tt⟩ key c = (33, [], c) := fun q => by rw [gv, if_pos q]
 have q3 : ¬ (k0.toNat = 123 ∨ k0.toNat = 91) → gv 0 ⟨k0, tt⟩ key c = (3, [], c) := fun q => by rw [gv, if_neg q, if_neg (fun r => hnl (lK.1 r))]
 repeat' ((conv => whnf); first | apply al | (apply ay <;> intro h) | with_reducible refine n5 ?_ fun b hb => ?_)
 all_goals try conv => whnf
 all_goals try (refine af.mk ?_; try dsimp only)
 all_goals first
  | (exfalso; omega)
  | (exact ⟨by omega, by rw [List.length_append]; show _ < ((l.length + 1 : Nat) : Int); omega⟩)
  | (show l.length + 1 ≤ _; omega)
  | (rw [List.length_append]; show _ < l.length + 1; omega)
  | (exact beq_iff_eq.2 (by omega))
  | skip
 all_goals first
  | (rw [q33 (by omega)]; done)
  | (rw [q3 (by omega)]; done)
  | (show c9 _ _ _
     (refine c9.mk [.nw, .swap 3 4] ?_ <;> (repeat' first | trivial | rfl | apply ak); done)
     done)
  | skip
def zI : dC := fun args σ => match args, σ with
 | [.ptr 0 0, .agg [.int .u8 n_k0, .str tt], .str key, .int .i64 d], [.cells [.ptr 1 0, .buf 2], .cells ([.str s_c, .int .i64 (.ofNat a_c), .int .i64 (.ofNat e_c), .int .i64 c_c]), .buf 4 0 l] => some ((0 ≤ n_k0 ∧ n_k0 ≤ 255) ∧ (True ∧ ((Cu.mk s_c a_c e_c c_c).live ∧ d = 32 ∧ (∃ L : List Nd, l = L.map aX) ∧ l.length + ((Cu.mk s_c a_c e_c c_c).e - (Cu.mk s_c a_c e_c c_c).p) + 1 ≤ 100000000)), (gv 0 ⟨(byte n_k0), tt⟩ key (Cu.mk s_c a_c e_c c_c)).1 ≠ 0, .iface 100 (.int .i64 (gv 0 ⟨(byte n_k0), tt⟩ key (Cu.mk s_c a_c e_c c_c)).1), some [.dead, .dead, .dead, .buf 1 0 []], .tuple [], some [.cells [.ptr 1 0, .buf 2], .cells (eC (gv 0 ⟨(byte n_k0), tt⟩ key (Cu.mk s_c a_c e_c c_c)).2.2), .buf 4 0 (l ++ (gv 0 ⟨(byte n_k0), tt⟩ key (Cu.mk s_c a_c e_c c_c)).2.1.map aX)])
 | _, _ => none
theorem Ft : dP 56 (zI) := by
 intro args sg pre c u r x r2 he hp
 unfold zI at he
 split at he <;> cases he
 . rw [eK (hp).1]; rw [bW (hp.2).1]; exact ⟨fun hc => ⟨_, rfl, Gy (hp := hp.2.2) (hc := hc) ..⟩, fun hc => DS (hp := hp.2.2) (hc := hc) ..⟩
theorem DT (k : Nat) (ho : dP 82 (lY k)) (hl : dP 83 (lX k)) (k0 : UInt8) (tt key : List UInt8) (c : Cu) (l : List V) (d : Int) (hp : c.live ∧ d + k + 1 = 32 ∧ (∃ L : List Nd, l = L.map aX) ∧ l.length + (c.e - c.p) + 1 ≤ 100000000) (hc : ¬ ((gv (k + 1) ⟨k0, tt⟩ key c).1 ≠ 0)) : OK 56 ([.ptr 0 0, .agg [bv k0, .str tt], .str key, .int .i64 d]) ([.cells [.ptr 1 0, .buf 2], .cells (eC c), .buf 4 0 l]) (.tuple []) (some [.cells [.ptr 1 0, .buf 2], .cells (eC (gv (k + 1) ⟨k0, tt⟩ key c).2.2), .buf 4 0 (l ++ (gv (k + 1) ⟨k0, tt⟩ key c).2.1.map aX)]) := by
 refine az (C := lq [] [(82, lY k), (83, lX k)]) (n6 trivial ⟨ho, hl, trivial⟩) (fn := Try.f56) rfl rfl rfl rfl fun hw hs => ?_
 obtain ⟨hp1, hp2, ⟨L, hL⟩, hp4⟩ := hp
 have hdl : -9223372036854775808 ≤ d := hw.2.2.2.1.1
 have hdw : IntKind.i64.wrap (d + 1) = d + 1 := by rw [nP]; omega
 have g1 : k0.toNat = 123 → gv (k + 1) ⟨k0, tt⟩ key c = ((aU (gv k) c).1, ⟨k0, key, tt, (aU (gv k) c).2.1.length + 1⟩ :: (aU (gv k) c).2.1, (aU (gv k) c).2.2) := fun q => by rw [gv, if_pos q]
 have g2 : k0.toNat = 91 → gv (k + 1) ⟨k0, tt⟩ key c = ((aV (gv k) c).1, ⟨k0, key, tt, (aV (gv k) c).2.1.length + 1⟩ :: (aV (gv k) c).2.1, (aV (gv k) c).2.2) := fun q => by rw [gv, if_neg (show ¬ k0.toNat = 123 by omega), if_pos q]
 have g3 : eQ k0 = true → gv (k + 1) ⟨k0, tt⟩ key c = (0, [⟨k0, key, tt, 1⟩], c) := fun q => by
  have := lK.1 q
  rw [gv, if_neg (show ¬ k0.toNat = 123 by omega), if_neg (show ¬ k0.toNat = 91 by omega), if_pos q]
 have g4 : ¬ k0.toNat = 123 → ¬ k0.toNat = 91 → ¬ eQ k0 = true → gv (k + 1) ⟨k0, tt⟩ key c = (3, [], c) := fun q q2 q3 => by rw [gv, if_neg q, if_neg q2, if_neg q3]
 have l1 : (aU (gv k) c).1 = 0 → (aU (gv k) c).2.1.length ≤ 100000000 := fun q => by
  obtain ⟨f, h⟩ := tj (fM k) hp1 q
  have h2 := f.live.1.1; rw [f.e] at h2; omega
 have l2 : (aV (gv k) c).1 = 0 → (aV (gv k) c).2.1.length ≤ 100000000 := fun q => by
  obtain ⟨f, h⟩ := tg (fM k) hp1 q
  have h2 := f.live.1.1; rw [f.e] at h2; omega
 have hl : ¬ k0.toNat = 123 → ¬ k0.toNat = 91 → eQ k0 = true := fun q q2 => Decidable.byContradiction fun q3 => hc (by rw [g4 q q2 q3]; exact (by decide : (3 : Int) ≠ 0))
 have hk : ¬ k0.toNat = 123 → ¬ k0.toNat = 91 → _ := fun q q2 => lK.1 (hl q q2)
 repeat' ((conv => whnf); first | with_reducible refine fL ?_ (fun h => ?_) fun h => ?_ | apply al | apply iN | (apply ay <;> intro h) | with_reducible refine n5 ?_ fun b hb => ?_)
 all_goals try conv => whnf
 all_goals try (refine af.mk ?_; try dsimp only)
 all_goals (try simp only [aO] at *)
 all_goals first
  | (exfalso; omega)
  | (exact ⟨by omega, by rw [List.length_append]; show _ < ((l.length + 1 : Nat) : Int); omega⟩)
  | (show l.length + 1 ≤ _; omega)
  | (rw [List.length_append]; show _ < l.length + 1; omega)
  | (exact beq_iff_eq.2 (by omega))
  | skip
 all_goals first
  | (exact ⟨trivial, hp1, by rw [hdw]; omega, np (a := [⟨k0, key, tt, 0⟩]) hL, by rw [List.length_append]; show l.length + 1 + _ ≤ _; omega⟩)
  | (exact ⟨by omega, by rw [List.length_append, List.length_append]; show _ < ((l.length + 1 + _ : Nat) : Int); omega⟩)
  | (rw [List.length_append, List.length_append]; show _ < l.length + 1 + _; omega)
  | skip
 . exact hc (by rw [g1 (by omega)]; exact ‹(aU (gv k) c).1 ≠ 0›)
 . obtain rfl := vW hb
   repeat' ((conv => whnf); apply al)
   all_goals try conv => whnf
   all_goals try (refine af.mk ?_; try dsimp only)
   . exact Nat.zero_le _
   have h0 : (aU (gv k) c).1 = 0 := Decidable.not_not.1 (by assumption)
   rw [g1 (by omega)]
   refine ah.mk [] ?_ <;> (repeat' first | trivial | apply ak | apply aJ)
   rw [vA (by rw [List.length_map]; exact l1 h0), List.length_map]
   rfl
 . exact hc (by rw [g2 (by omega)]; exact ‹(aV (gv k) c).1 ≠ 0›)
 . obtain rfl := vW hb
   repeat' ((conv => whnf); apply al)
   all_goals try conv => whnf
   all_goals try (refine af.mk ?_; try dsimp only)
   . exact Nat.zero_le _
   have h0 : (aV (gv k) c).1 = 0 := Decidable.not_not.1 (by assumption)
   rw [g2 (by omega)]
   refine ah.mk [] ?_ <;> (repeat' first | trivial | apply ak | apply aJ)
   rw [vA (by rw [List.length_map]; exact l2 h0), List.length_map]
   rfl
 all_goals
  obtain rfl := sr hb
  repeat' ((conv => whnf); apply al)
  all_goals try conv => whnf
  all_goals try (refine af.mk ?_; try dsimp only)
  all_goals first
   | exact Nat.zero_le _
   | skip
  rw [g3 (hl (by omega) (by omega))]
  refine ah.mk [] ?_ <;> (repeat' first | trivial | apply ak | apply aJ)
  exact AQ
theorem Gz (k : Nat) (ho : dP 82 (lY k)) (hl : dP 83 (lX k)) (k0 : UInt8) (tt key : List UInt8) (c : Cu) (l : List V) (d : Int) (hp : c.live ∧ d + k + 1 = 32 ∧ (∃ L : List Nd, l = L.map aX) ∧ l.length + (c.e - c.p) + 1 ≤ 100000000) (hc : (gv (k + 1) ⟨k0, tt⟩ key c).1 ≠ 0) : la 56 ([.ptr 0 0, .agg [bv k0, .str tt], .str key, .int .i64 d]) ([.cells [.ptr 1 0, .buf 2], .cells (eC c), .buf 4 0 l]) (.iface 100 (.int .i64 (gv (k + 1) ⟨k0, tt⟩ key c).1)) (some [.dead, .dead, .dead, .buf 1 0 []]) := by
 refine lU (C := lq [] [(82, lY k), (83, lX k)]) (n6 trivial ⟨ho, hl, trivial⟩) (fn := Try.f56) rfl rfl rfl rfl fun hw hs => ?_
 obtain ⟨hp1, hp2, ⟨L, hL⟩, hp4⟩ := hp
 have hdl : -9223372036854775808 ≤ d := hw.2.2.2.1.1
 have hdw : IntKind.i64.wrap (d + 1) = d + 1 := by rw [nP]; omega
 have g1 : k0.toNat = 123 → gv (k + 1) ⟨k0, tt⟩ key c = ((aU (gv k) c).1, ⟨k0, key, tt, (aU (gv k) c).2.1.length + 1⟩ :: (aU (gv k) c).2.1, (aU (gv k) c).2.2) := fun q => by rw [gv, if_pos q]
 have g2 : k0.toNat = 91 → gv (k + 1) ⟨k0, tt⟩ key c = ((aV (gv k) c).1, ⟨k0, key, tt, (aV (gv k) c).2.1.length + 1⟩ :: (aV (gv k) c).2.1, (aV (gv k) c).2.2) := fun q => by rw [gv, if_neg (show ¬ k0.toNat = 123 by omega), if_pos q]
 have g3 : eQ k0 = true → gv (k + 1) ⟨k0, tt⟩ key c = (0, [⟨k0, key, tt, 1⟩], c) := fun q => by
  have := lK.1 q
  rw [gv, if_neg (show ¬ k0.toNat = 123 by omega), if_neg (show ¬ k0.toNat = 91 by omega), if_pos q]
 have g4 : ¬ k0.toNat = 123 → ¬ k0.toNat = 91 → ¬ eQ k0 = true → gv (k + 1) ⟨k0, tt⟩ key c = (3, [], c) := fun q q2 q3 => by rw [gv, if_neg q, if_neg q2, if_neg q3]
 have l1 : (aU (gv k) c).1 = 0 → (aU (gv k) c).2.1.length ≤ 100000000 := fun q => by
  obtain ⟨f, h⟩ := tj (fM k) hp1 q
  have h2 := f.live.1.1; rw [f.e] at h2; omega
 have l2 : (aV (gv k) c).1 = 0 → (aV (gv k) c).2.1.length ≤ 100000000 := fun q => by
  obtain ⟨f, h⟩ := tg (fM k) hp1 q
  have h2 := f.live.1.1; rw [f.e] at h2; omega
 have hnl : ¬ k0.toNat = 123 → ¬ k0.toNat = 91 → ¬ eQ k0 = true := fun q q2 q3 => hc (by rw [g3 q3])
 have hk : ¬ k0.toNat = 123 → ¬ k0.toNat = 91 → ¬ _ := fun q q2 r => hnl q q2 (lK.2 r)
 repeat' ((conv => whnf); first | with_reducible refine fL ?_ (fun h => ?_) fun h => ?_ | apply al | (apply ay <;> intro h) | with_reducible refine n5 ?_ fun b hb => ?_)
 all_goals try conv => whnf
 all_goals try (refine af.mk ?_; try dsimp only)
 all_goals (try simp only [aO] at *)
 all_goals first
  | (exfalso; omega)
  | (exact ⟨by omega, by rw [List.length_append]; show _ < ((l.length + 1 : Nat) : Int); omega⟩)
  | (show l.length + 1 ≤ _; omega)
  | (rw [List.length_append]; show _ < l.length + 1; omega)
  | (exact beq_iff_eq.2 (by omega))
  | skip
 all_goals first
  | (exact ⟨trivial, hp1, by rw [hdw]; omega, np (a := [⟨k0, key, tt, 0⟩]) hL, by rw [List.length_append]; show l.length + 1 + _ ≤ _; omega⟩)
  | (exact ⟨by omega, by rw [List.length_append, List.length_append]; show _ < ((l.length + 1 + _ : Nat) : Int); omega⟩)
  | (rw [List.length_append, List.length_append]; show _ < l.length + 1 + _; omega)
  | skip
 all_goals first
  | (rw [g1 (by omega)]; done)
  | (rw [g2 (by omega)]; done)
  | (rw [g4 (by omega) (by omega) (hnl (by omega) (by omega))]; done)
  | (show c9 _ _ _
     (refine c9.mk [.nw, .swap 3 4] ?_ <;> (repeat' first | trivial | rfl | apply ak); done)
     done)
  | (exfalso; exact hc (by rw [g1 (by omega)]; exact Decidable.not_not.1 ‹¬ (aU (gv k) c).1 ≠ 0›))
  | (exfalso; exact hc (by rw [g2 (by omega)]; exact Decidable.not_not.1 ‹¬ (aV (gv k) c).1 ≠ 0›))
def zJ (k : Nat) : dC := fun args σ => match args, σ with
 | [.ptr 0 0, .agg [.int .u8 n_k0, .str tt], .str key, .int .i64 d], [.cells [.ptr 1 0, .buf 2], .cells ([.str s_c, .int .i64 (.ofNat a_c), .int .i64 (.ofNat e_c), .int .i64 c_c]), .buf 4 0 l] => some ((0 ≤ n_k0 ∧ n_k0 ≤ 255) ∧ (True ∧ ((Cu.mk s_c a_c e_c c_c).live ∧ d + k + 1 = 32 ∧ (∃ L : List Nd, l = L.map aX) ∧ l.length + ((Cu.mk s_c a_c e_c c_c).e - (Cu.mk s_c a_c e_c c_c).p) + 1 ≤ 100000000)), (gv (k + 1) ⟨(byte n_k0), tt⟩ key (Cu.mk s_c a_c e_c c_c)).1 ≠ 0, .iface 100 (.int .i64 (gv (k + 1) ⟨(byte n_k0), tt⟩ key (Cu.mk s_c a_c e_c c_c)).1), some [.dead, .dead, .dead, .buf 1 0 []], .tuple [], some [.cells [.ptr 1 0, .buf 2], .cells (eC (gv (k + 1) ⟨(byte n_k0), tt⟩ key (Cu.mk s_c a_c e_c c_c)).2.2), .buf 4 0 (l ++ (gv (k + 1) ⟨(byte n_k0), tt⟩ key (Cu.mk s_c a_c e_c c_c)).2.1.map aX)])
 | _, _ => none
theorem Fu (k : Nat) (ho : dP 82 (lY k)) (hl : dP 83 (lX k)) : dP 56 (zJ k) := by
 intro args sg pre c u r x r2 he hp
 unfold zJ at he
 split at he <;> cases he
 . rw [eK (hp).1]; rw [bW (hp.2).1]; exact ⟨fun hc => ⟨_, rfl, Gz (ho := ho) (hl := hl) (hp := hp.2.2) (hc := hc) ..⟩, fun hc => DT (ho := ho) (hl := hl) (hp := hp.2.2) (hc := hc) ..⟩
theorem yD : ∀ k, dP 56 (gH k)
 | 0 => by
   intro args sg pre c u r x r2 he hp
   unfold gH at he
   split at he <;> cases he
   exact Ft _ _ _ _ _ _ _ _ rfl ⟨hp.1, trivial, hp.2.1, by have := hp.2.2.1; omega, hp.2.2.2⟩
 | k + 1 => by
   have hv := yD k
   intro args sg pre c u r x r2 he hp
   unfold gH at he
   split at he <;> cases he
   exact Fu k (Fq k hv) (Fp k hv) _ _ _ _ _ _ _ _ rfl ⟨hp.1, trivial, hp.2.1, by have := hp.2.2.1; omega, hp.2.2.2⟩
end Go.Proofs.Ytllncocibkgjkaa
