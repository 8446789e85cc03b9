/-
  A part of the proof.
-/
import Derived.Test.YtllncocibkgjkaaGreatKA
set_option linter.unusedSimpArgs false
set_option linter.unusedVariables false
set_option maxHeartbeats 4000000
namespace Go.Proofs.YtllncocibkgjkaaGreat
open Go Go.VG
set_option maxRecDepth 100000
def lK (L : List Nd) (k : Int) : List UInt8 := if k < 0 then [] else (L.getD k.toNat default).t
def dg (k e : Int) : Int := if k < 0 then e else 0
def lI (k : Int) : Int := if k < 0 then 0 else k
def lH (L : List Nd) (k : Int) : Bool := if k < 0 then false else ((L.getD k.toNat default).k.toNat : Int) == 116
def lJ (L : List Nd) (k : Int) : List Nat := if k < 0 then [] else cz L k
def gU (l : List V) (k : Int) : Prop := cr l ∧ cf (ao l) ∧ k < (ao l).length
theorem FA (c : Bool) (l : List V) (k : Int) (hp : gU l k ∧ 0 ≤ k) : OK 48 ([.int .i64 k, .ptr 0 0]) ([.cells [.list c 4 l]]) (.tuple [.str ((ao l).getD k.toNat default).t, .int .i64 0]) (none) := by
 refine au (C := cx []) (aq trivial) (fn := Tryz.f48) rfl rfl rfl rfl fun hw hs => ?_
 obtain ⟨hp, h0⟩ := hp
 obtain ⟨hN, hl, hk⟩ := hp
 obtain ⟨L, rfl, eL⟩ := jw hN
 rw [eL] at hl hk ⊢
 have hml : (L.map aR).length = L.length := List.length_map _
 repeat' ((conv => whnf); first | apply ak | with_reducible apply gF)
 all_goals try conv => whnf
 all_goals try (refine a9.mk ?_; try dsimp only)
 all_goals (try simp only [cv, cg] at *)
 all_goals first | refine stay ?_ | trivial | omega | skip
 refine a8.mk [] ?_ <;> (repeat' first | trivial)
def wN : Sm := fun args σ => match args, σ with
 | [.int .i64 k, .ptr 0 0], [.cells [.list c 4 l]] => some (gU l k ∧ 0 ≤ k, .tuple [.str ((ao l).getD k.toNat default).t, .int .i64 0], none)
 | _, _ => none
theorem HY : aw 48 wN := by
 intro args sg pre x r he hp
 unfold wN at he
 split at he <;> cases he
 . exact FA (hp := hp) ..
theorem Fm (c : Bool) (l : List V) (k : Int) (hp : gU l k ∧ 0 ≤ k) : OK 53 ([.int .i64 k, .ptr 0 0]) ([.cells [.list c 4 l]]) (.tuple [.bool (((((ao l).getD k.toNat default).k.toNat : Nat) : Int) == 116), .int .i64 0]) (none) := by
 refine au (C := cx []) (aq trivial) (fn := Tryz.f53) rfl rfl rfl rfl fun hw hs => ?_
 obtain ⟨hp, h0⟩ := hp
 obtain ⟨hN, hl, hk⟩ := hp
 obtain ⟨L, rfl, eL⟩ := jw hN
 rw [eL] at hl hk ⊢
 have hml : (L.map aR).length = L.length := List.length_map _
 repeat' ((conv => whnf); first | apply ak | with_reducible apply gF)
 all_goals try conv => whnf
 all_goals try (refine a9.mk ?_; try dsimp only)
 all_goals (try simp only [cv, cg] at *)
 all_goals first | refine stay ?_ | trivial | omega | skip
 refine a8.mk [] ?_ <;> (repeat' first | trivial)
def wH : Sm := fun args σ => match args, σ with
 | [.int .i64 k, .ptr 0 0], [.cells [.list c 4 l]] => some (gU l k ∧ 0 ≤ k, .tuple [.bool (((((ao l).getD k.toNat default).k.toNat : Nat) : Int) == 116), .int .i64 0], none)
 | _, _ => none
theorem HT : aw 53 wH := by
 intro args sg pre x r he hp
 unfold wH at he
 split at he <;> cases he
 . exact Fm (hp := hp) ..
theorem Fx (k : Int) (hp : True) : OK 55 ([.int .i64 k]) ([]) (.tuple [.int .i64 k, .int .i64 0]) (none) := by
 refine au (C := cx []) (aq trivial) (fn := Tryz.f55) rfl rfl rfl rfl fun hw hs => ?_
 all_goals try conv => whnf
 all_goals try (refine a9.mk ?_; try dsimp only)
 all_goals try refine stay ?_
 refine a8.mk [] ?_ <;> (repeat' first | trivial)
def tf : Sm := fun args σ => match args, σ with
 | [.int .i64 k], [] => some (True, .tuple [.int .i64 k, .int .i64 0], none)
 | _, _ => none
theorem AG : aw 55 tf := by
 intro args sg pre x r he hp
 unfold tf at he
 split at he <;> cases he
 . exact Fx (hp := hp) ..
theorem Fv (c : Bool) (l : List V) (k : Int) (hp : cr l ∧ cf (ao l)) : OK 57 ([.int .i64 k, .ptr 0 0]) ([.cells [.list c 4 l]]) (.tuple [.buf 1, .int .i64 0]) (some [.cells [.list c 4 l], .buf 1 0 ((cz (ao l) k).map nI)]) := by
 refine au (C := cx [(45, tB)]) (aq ⟨AQ, trivial⟩) (fn := Tryz.f57) rfl rfl rfl rfl fun hw hs => ?_
 obtain ⟨hN, hl⟩ := hp
 repeat' ((conv => whnf); apply ak)
 all_goals try conv => whnf
 all_goals try (refine a9.mk ?_; try dsimp only)
 all_goals (try simp only [cv, cg] at *)
 all_goals first | refine stay ?_ | trivial | skip
 refine a8.mk [] ?_ <;> (repeat' first | trivial)
def wM : Sm := fun args σ => match args, σ with
 | [.int .i64 k, .ptr 0 0], [.cells [.list c 4 l]] => some (cr l ∧ cf (ao l), .tuple [.buf 1, .int .i64 0], some [.cells [.list c 4 l], .buf 1 0 ((cz (ao l) k).map nI)])
 | _, _ => none
theorem HX : aw 57 wM := by
 intro args sg pre x r he hp
 unfold wM at he
 split at he <;> cases he
 . exact Fv (hp := hp) ..
theorem Fu (c : Bool) (l : List V) (k e : Int) (hp : gU l k) : OK 47 ([.int .i64 k, .int .i64 e, .func (.func 48) [] [.ptr 0 0]]) ([.cells [.list c 4 l]]) (.agg [.str (lK (ao l) k), .bool (decide (k ≥ 0)), .int .i64 (dg k e)]) (none) := by
 refine au (C := cx [(48, wN)]) (aq ⟨HY, trivial⟩) (fn := Tryz.f47) rfl rfl rfl rfl fun hw hs => ?_
 unfold lK dg
 repeat' ((conv => whnf); first | apply ak | (apply al <;> intro h))
 all_goals try conv => whnf
 all_goals try (refine a9.mk ?_; try dsimp only)
 all_goals try refine stay ?_
 . rw [if_pos (by omega), if_pos (by omega), decide_eq_false (by omega)]
   refine a8.mk [] ?_ <;> (repeat' first | trivial)
 . exact ⟨hp, by omega⟩
 . rw [if_neg (by omega), if_neg (by omega), decide_eq_true (by omega)]
   refine a8.mk [] ?_ <;> (repeat' first | trivial)
def wL : Sm := fun args σ => match args, σ with
 | [.int .i64 k, .int .i64 e, .func (.func 48) [] [.ptr 0 0]], [.cells [.list c 4 l]] => some (gU l k, .agg [.str (lK (ao l) k), .bool (decide (k ≥ 0)), .int .i64 (dg k e)], none)
 | _, _ => none
theorem HW : aw 47 wL := by
 intro args sg pre x r he hp
 unfold wL at he
 split at he <;> cases he
 . exact Fu (hp := hp) ..
theorem Fp (c : Bool) (l : List V) (k e : Int) (hp : gU l k) : OK 52 ([.int .i64 k, .int .i64 e, .func (.func 53) [] [.ptr 0 0]]) ([.cells [.list c 4 l]]) (.agg [.bool (lH (ao l) k), .bool (decide (k ≥ 0)), .int .i64 (dg k e)]) (none) := by
 refine au (C := cx [(53, wH)]) (aq ⟨HT, trivial⟩) (fn := Tryz.f52) rfl rfl rfl rfl fun hw hs => ?_
 unfold lH dg
 repeat' ((conv => whnf); first | apply ak | (apply al <;> intro h))
 all_goals try conv => whnf
 all_goals try (refine a9.mk ?_; try dsimp only)
 all_goals try refine stay ?_
 . rw [if_pos (by omega), if_pos (by omega), decide_eq_false (by omega)]
   refine a8.mk [] ?_ <;> (repeat' first | trivial)
 . exact ⟨hp, by omega⟩
 . rw [if_neg (by omega), if_neg (by omega), decide_eq_true (by omega)]
   refine a8.mk [] ?_ <;> (repeat' first | trivial)
def wJ : Sm := fun args σ => match args, σ with
 | [.int .i64 k, .int .i64 e, .func (.func 53) [] [.ptr 0 0]], [.cells [.list c 4 l]] => some (gU l k, .agg [.bool (lH (ao l) k), .bool (decide (k ≥ 0)), .int .i64 (dg k e)], none)
 | _, _ => none
theorem HU : aw 52 wJ := by
 intro args sg pre x r he hp
 unfold wJ at he
 split at he <;> cases he
 . exact Fp (hp := hp) ..
theorem Ft (c : Bool) (l : List V) (k e : Int) (hp : gU l k) : OK 56 ([.int .i64 k, .int .i64 e, .func (.func 57) [] [.ptr 0 0]]) ([.cells [.list c 4 l]]) (.agg [.buf 1, .bool (decide (k ≥ 0)), .int .i64 (dg k e)]) (some [.cells [.list c 4 l], .buf 1 0 ((lJ (ao l) k).map nI)]) := by
 refine au (C := cx [(57, wM)]) (aq ⟨HX, trivial⟩) (fn := Tryz.f56) rfl rfl rfl rfl fun hw hs => ?_
 unfold lJ dg
 repeat' ((conv => whnf); first | apply ak | (apply al <;> intro h))
 all_goals try conv => whnf
 all_goals try (refine a9.mk ?_; try dsimp only)
 all_goals (try simp only [cv, cg] at *)
 all_goals try refine stay ?_
 . rw [if_pos (by omega), if_pos (by omega), decide_eq_false (by omega)]
   refine a8.mk [.cell 1 0 1, .swap 1 2] ?_ <;> (repeat' first | trivial)
 . exact ⟨hp.1, hp.2.1⟩
 . rw [if_neg (by omega), if_neg (by omega), decide_eq_true (by omega)]
   refine a8.mk [.swap 1 2] ?_ <;> (repeat' first | trivial)
def wK : Sm := fun args σ => match args, σ with
 | [.int .i64 k, .int .i64 e, .func (.func 57) [] [.ptr 0 0]], [.cells [.list c 4 l]] => some (gU l k, .agg [.buf 1, .bool (decide (k ≥ 0)), .int .i64 (dg k e)], some [.cells [.list c 4 l], .buf 1 0 ((lJ (ao l) k).map nI)])
 | _, _ => none
theorem HV : aw 56 wK := by
 intro args sg pre x r he hp
 unfold wK at he
 split at he <;> cases he
 . exact Ft (hp := hp) ..
theorem sG (L : List Nd) (q : Int) (key : List UInt8) (a b : Int) : (aJ L q key a b).1 < L.length := by
 rcases qF L q key a b with h | h <;> omega
theorem FB (c : Bool) (l : List V) (q : Int) (key : List UInt8) (hp : cr l ∧ cf (ao l)) : OK 19 ([.list c 4 l, .int .i64 q, .str key]) ([]) (.agg [.str (lK (ao l) (aJ (ao l) q key 115 115).1), .bool (decide ((aJ (ao l) q key 115 115).1 ≥ 0)), .int .i64 (dg (aJ (ao l) q key 115 115).1 (aJ (ao l) q key 115 115).2)]) (none) := by
 refine au (C := cx [(46, ni), (47, wL)]) (aq ⟨qa, HW, trivial⟩) (fn := Tryz.f19) rfl rfl rfl rfl fun hw hs => ?_
 obtain ⟨hN, hp⟩ := hp
 repeat' ((conv => whnf); apply ak)
 all_goals try conv => whnf
 all_goals try (refine a9.mk ?_; try dsimp only)
 all_goals first | refine stay ?_ | trivial | skip
 . exact ⟨hN, hp, sG _ _ _ _ _⟩
 . refine a8.mk [] ?_ <;> (repeat' first | trivial)
def tg : Sm := fun args σ => match args, σ with
 | [.list c 4 l, .int .i64 q, .str key], [] => some (cr l ∧ cf (ao l), .agg [.str (lK (ao l) (aJ (ao l) q key 115 115).1), .bool (decide ((aJ (ao l) q key 115 115).1 ≥ 0)), .int .i64 (dg (aJ (ao l) q key 115 115).1 (aJ (ao l) q key 115 115).2)], none)
 | _, _ => none
theorem AH : aw 19 tg := by
 intro args sg pre x r he hp
 unfold tg at he
 split at he <;> cases he
 . exact FB (hp := hp) ..
theorem Fo (c : Bool) (l : List V) (q : Int) (key : List UInt8) (hp : cr l ∧ cf (ao l)) : OK 21 ([.list c 4 l, .int .i64 q, .str key]) ([]) (.agg [.bool (lH (ao l) (aJ (ao l) q key 116 102).1), .bool (decide ((aJ (ao l) q key 116 102).1 ≥ 0)), .int .i64 (dg (aJ (ao l) q key 116 102).1 (aJ (ao l) q key 116 102).2)]) (none) := by
 refine au (C := cx [(46, ni), (52, wJ)]) (aq ⟨qa, HU, trivial⟩) (fn := Tryz.f21) rfl rfl rfl rfl fun hw hs => ?_
 obtain ⟨hN, hp⟩ := hp
 repeat' ((conv => whnf); apply ak)
 all_goals try conv => whnf
 all_goals try (refine a9.mk ?_; try dsimp only)
 all_goals first | refine stay ?_ | trivial | skip
 . exact ⟨hN, hp, sG _ _ _ _ _⟩
 . refine a8.mk [] ?_ <;> (repeat' first | trivial)
def ta : Sm := fun args σ => match args, σ with
 | [.list c 4 l, .int .i64 q, .str key], [] => some (cr l ∧ cf (ao l), .agg [.bool (lH (ao l) (aJ (ao l) q key 116 102).1), .bool (decide ((aJ (ao l) q key 116 102).1 ≥ 0)), .int .i64 (dg (aJ (ao l) q key 116 102).1 (aJ (ao l) q key 116 102).2)], none)
 | _, _ => none
theorem AB : aw 21 ta := by
 intro args sg pre x r he hp
 unfold ta at he
 split at he <;> cases he
 . exact Fo (hp := hp) ..
theorem Fw (c : Bool) (l : List V) (q : Int) (key : List UInt8) (hp : cr l ∧ cf (ao l)) : OK 26 ([.list c 4 l, .int .i64 q, .str key]) ([]) (.agg [.buf 0, .bool (decide ((aJ (ao l) q key 91 91).1 ≥ 0)), .int .i64 (dg (aJ (ao l) q key 91 91).1 (aJ (ao l) q key 91 91).2)]) (some [.buf 1 0 ((lJ (ao l) (aJ (ao l) q key 91 91).1).map nI)]) := by
 refine au (C := cx [(46, ni), (56, wK)]) (aq ⟨qa, HV, trivial⟩) (fn := Tryz.f26) rfl rfl rfl rfl fun hw hs => ?_
 obtain ⟨hN, hp⟩ := hp
 repeat' ((conv => whnf); apply ak)
 all_goals try conv => whnf
 all_goals try (refine a9.mk ?_; try dsimp only)
 all_goals (try simp only [cv, cg] at *)
 all_goals first | refine stay ?_ | trivial | skip
 . exact ⟨hN, hp, sG _ _ _ _ _⟩
 . refine a8.mk [.swap 0 2] ?_ <;> (repeat' first | trivial)
def tc : Sm := fun args σ => match args, σ with
 | [.list c 4 l, .int .i64 q, .str key], [] => some (cr l ∧ cf (ao l), .agg [.buf 0, .bool (decide ((aJ (ao l) q key 91 91).1 ≥ 0)), .int .i64 (dg (aJ (ao l) q key 91 91).1 (aJ (ao l) q key 91 91).2)], some [.buf 1 0 ((lJ (ao l) (aJ (ao l) q key 91 91).1).map nI)])
 | _, _ => none
theorem AE : aw 26 tc := by
 intro args sg pre x r he hp
 unfold tc at he
 split at he <;> cases he
 . exact Fw (hp := hp) ..
theorem GV (c : Bool) (l : List V) (q : Int) (key : List UInt8) (hp : cr l ∧ cf (ao l)) : OK 22 ([.list c 4 l, .int .i64 q, .str key]) ([]) (.tuple [.str (lK (ao l) (aJ (ao l) q key 115 115).1), .bool (decide ((aJ (ao l) q key 115 115).1 ≥ 0)), .int .i64 (dg (aJ (ao l) q key 115 115).1 (aJ (ao l) q key 115 115).2)]) (none) := by
 refine au (C := cx [(24, p0)]) (aq ⟨sa, trivial⟩) (fn := Tryz.f22) rfl rfl rfl rfl fun hw hs => ?_
 obtain ⟨hN, hp⟩ := hp
 obtain ⟨L, rfl, eL⟩ := jw hN
 rw [eL] at hp ⊢
 have hml : (L.map aR).length = L.length := List.length_map _
 have hon := qF L q key 115 115
 unfold lK dg
 repeat' ((conv => whnf); first | apply ak | (apply al <;> intro h) | with_reducible apply gF)
 all_goals try conv => whnf
 all_goals try (refine a9.mk ?_; try dsimp only)
 all_goals (try simp only [cv] at *)
 all_goals generalize aJ L q key 115 115 = f at *
 all_goals first | refine stay ?_ | trivial | omega | skip
 . rw [if_pos (by omega), if_pos (by omega), decide_eq_false (by omega)]
   refine a8.mk [] ?_ <;> (repeat' first | trivial)
 . rw [if_neg (by omega), if_neg (by omega), decide_eq_true (by omega)]
   refine a8.mk [] ?_ <;> (repeat' first | trivial)
def xK : Sm := fun args σ => match args, σ with
 | [.list c 4 l, .int .i64 q, .str key], [] => some (cr l ∧ cf (ao l), .tuple [.str (lK (ao l) (aJ (ao l) q key 115 115).1), .bool (decide ((aJ (ao l) q key 115 115).1 ≥ 0)), .int .i64 (dg (aJ (ao l) q key 115 115).1 (aJ (ao l) q key 115 115).2)], none)
 | _, _ => none
theorem IT : aw 22 xK := by
 intro args sg pre x r he hp
 unfold xK at he
 split at he <;> cases he
 . exact GV (hp := hp) ..
end Go.Proofs.YtllncocibkgjkaaGreat
