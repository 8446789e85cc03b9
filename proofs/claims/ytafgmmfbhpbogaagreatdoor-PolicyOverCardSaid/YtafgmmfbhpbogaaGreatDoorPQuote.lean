/-
  JSON's texts.
-/
import Derived.Test.YtafgmmfbhpbogaaGreatDoorPHex
set_option linter.unusedSimpArgs false
set_option linter.unusedVariables false
set_option maxHeartbeats 4000000
namespace Go.Proofs.YtafgmmfbhpbogaaGreatDoor
open Go Go.VG
set_option maxRecDepth 100000
theorem f_r10Text (s : List UInt8) (hs : s.length ≤ 100000000) : OK 53 [.str s] [] (.str (quote s)) none := by
  refine funOK_of_vc (C := cx [(56, sm_r04Text)]) (good ⟨k_r04Text, trivial⟩) (fn := Tryz.f53) rfl rfl rfl rfl fun _ _ => ?_
  refine LoopP.mk Nat (fun i => i ≤ s.length) (fun i => ⟨45, [(0,.str s),(3,.str (34 :: quoteB (s.take i))),(4,.int .i64 i)], [], []⟩) (fun i => s.length - i) [] 0 (Nat.zero_le _) ?_ (fun i hi _ _ => ?_)
  · refine Go.VG.Sub.mk rfl ?_ ?_ ?_ ?_ <;> (repeat' first | trivial)
  have hcut : (s.take (IntKind.i64.wrap ((i : Int) + 1)).toNat).drop ((i : Int).toNat) = if i < s.length then [s.getD i 0] else (s.take (IntKind.i64.wrap ((i : Int) + 1)).toNat).drop ((i : Int).toNat) := by
    split
    · rw [show (IntKind.i64.wrap ((i : Int) + 1)).toNat = i + 1 by (simp (discharger := omega) only [wR]; omega)]; exact cut1 0 (by assumption)
    · rfl
  have hq := quoteB_len (s.take i)
  rw [List.length_take] at hq
  repeat' ((conv => whnf); first | apply go3 | (apply go6 <;> intro h) | with_reducible refine goD ?_ fun hc => ?_)
  all_goals try conv => whnf
  all_goals try (refine Side.mk ?_; try dsimp only)
  all_goals (try rw [hcut, if_pos (by omega)])
  all_goals first | refine stay ?_ | omega | (simp (discharger := omega) only [wR]; omega) | (simp only [lnS, hexText_length]; omega) | skip
  all_goals first
    | (exfalso; omega)
    | (refine ⟨[], i + 1, by omega, ?_, by omega⟩
       refine Go.VG.Sub.mk rfl ?_ ?_ ?_ ?_ <;> (repeat' first | trivial | apply andI | apply eqA | apply eqB | apply eqI)
       · rw [quoteB_next (by omega)]
         unfold quoteC
         first
         | (rw [if_pos (by omega)]; simp; done)
         | (rw [if_neg (by omega), if_pos (by omega)]; simp; done)
         | (rw [if_neg (by omega), if_neg (by omega)]; simp; done)
       · (simp (discharger := omega) only [wR]; omega)
      )
    | skip
  refine EndP.mk [] ?_ <;> (repeat' first | trivial | apply andI | apply eqA | apply eqI)
  rw [List.take_of_length_le (by omega)]
  rfl
def sm_r10Text : Sm := fun args σ => match args, σ with
  | [.str s], [] => some (s.length ≤ 100000000, .str (quote s), none)
  | _, _ => none
theorem k_r10Text : SOK 53 sm_r10Text := by
  intro args sg pre x r he hp
  unfold sm_r10Text at he
  split at he <;> cases he
  exact f_r10Text _ hp
theorem f_Put1 (l : List V) (t : List UInt8) (h : l.length + t.length ≤ 4000000000) : OK 70 [.str t, .ptr 0 0] [.cells [.buf 1], .buf 1 0 l] (.tuple []) (some [.cells [.buf 1], .buf 1 0 (l ++ bl t)]) := by
  refine funOK_of_vc (C := cx []) (good trivial) (fn := Tryz.f70) rfl rfl rfl rfl fun _ _ => ?_
  repeat' ((conv => whnf); apply go3)
  all_goals try conv => whnf
  all_goals try (refine Side.mk ?_; try dsimp only)
  all_goals first | refine stay ?_ | (simp only [lnS, hexText_length]; omega) | skip
  refine EndP.mk [] ?_ <;> (repeat' first | trivial)
def sm_Put1 : Sm := fun args σ => match args, σ with
  | [.str t, .ptr 0 0], [.cells [.buf 1], .buf 1 0 l] => some (l.length + t.length ≤ 4000000000, .tuple [], some [.cells [.buf 1], .buf 1 0 (l ++ bl t)])
  | _, _ => none
theorem k_Put1 : SOK 70 sm_Put1 := by
  intro args sg pre x r he hp
  unfold sm_Put1 at he
  split at he <;> cases he
  exact f_Put1 _ _ hp
theorem f_each (s : List UInt8) (l : List V) (hs : s.length ≤ 100000000) (hl : l.length ≤ 3000000000) : OK 69 [.str s, .func (.func 70) [] [.ptr 0 0]] [.cells [.buf 1], .buf 1 0 l] (.tuple []) (some [.cells [.buf 1], .buf 1 0 (l ++ bl (quote s))]) := by
  refine funOK_of_vc (C := cx [(70, sm_Put1), (38, sm_hexaText)]) (good ⟨k_Put1, k_hexaText, trivial⟩) (fn := Tryz.f69) rfl rfl rfl rfl fun _ _ => ?_
  repeat' ((conv => whnf); apply go3)
  all_goals try conv => whnf
  all_goals try (refine Side.mk ?_; try dsimp only)
  all_goals first | refine stay ?_ | (simp only [lnS, hexText_length]; omega) | skip
  refine LoopP.mk Nat (fun i => i ≤ s.length) (fun i => ⟨53, [(0,.str s),(1, .func (.func 70) [] [.ptr 0 0]),(9, .int .i64 s.length),(10,.int .i64 i)], [.cells [.buf 1], .buf 1 0 (l ++ bl (34 :: quoteB (s.take i)))], [1]⟩) (fun i => s.length - i) [] 0 (Nat.zero_le _) ?_ (fun i hi _ _ => ?_)
  · refine Go.VG.Sub.mk rfl ?_ ?_ ?_ ?_ <;> (repeat' first | trivial)
  have hcut : (s.take (IntKind.i64.wrap ((i : Int) + 1)).toNat).drop ((i : Int).toNat) = if i < s.length then [s.getD i 0] else (s.take (IntKind.i64.wrap ((i : Int) + 1)).toNat).drop ((i : Int).toNat) := by
    split
    · rw [show (IntKind.i64.wrap ((i : Int) + 1)).toNat = i + 1 by (simp (discharger := omega) only [wR]; omega)]; exact cut1 0 (by assumption)
    · rfl
  have hq := quoteB_len (s.take i)
  rw [List.length_take] at hq
  repeat' ((conv => whnf); first | apply go3 | (apply go6 <;> intro h) | with_reducible refine goD ?_ fun hc => ?_)
  all_goals try conv => whnf
  all_goals try (refine Side.mk ?_; try dsimp only)
  all_goals (try rw [hcut, if_pos (by omega)])
  all_goals first | refine stay ?_ | omega | (simp (discharger := omega) only [wR]; omega) | (simp only [lnS, hexText_length]; omega) | skip
  all_goals first
    | (refine ⟨[], i + 1, by omega, ?_, by omega⟩
       refine Go.VG.Sub.mk rfl ?_ ?_ ?_ ?_ <;> (repeat' first | trivial | apply andI | apply eqB | apply eqD)
       · (simp (discharger := omega) only [wR]; omega)
       · rw [quoteB_next (by omega), List.append_assoc, ← bl_append]
         refine congrArg (fun x => l ++ bl x) ?_
         unfold quoteC
         first
         | (rw [if_pos (by omega)]; simp; done)
         | (rw [if_neg (by omega), if_pos (by omega)]; simp; done)
         | (rw [if_neg (by omega), if_neg (by omega)]; simp; done)
      )
    | skip
  refine EndP.mk [] ?_ <;> (repeat' first | trivial | apply andI | apply eqD)
  rw [List.take_of_length_le (by omega), List.append_assoc, ← bl_append]
  rfl
def sm_each : Sm := fun args σ => match args, σ with
  | [.str s, .func (.func 70) [] [.ptr 0 0]], [.cells [.buf 1], .buf 1 0 l] => some (s.length ≤ 100000000 ∧ l.length ≤ 3000000000, .tuple [], some [.cells [.buf 1], .buf 1 0 (l ++ bl (quote s))])
  | _, _ => none
theorem k_each : SOK 69 sm_each := by
  intro args sg pre x r he hp
  unfold sm_each at he
  split at he <;> cases he
  exact f_each _ _ hp.1 hp.2
theorem f_jstringPut (s : List UInt8) (l : List V) (hs : s.length ≤ 100000000) (hl : l.length ≤ 3000000000) : OK 52 [.buf 0, .str s] [.buf 1 0 l] (.buf 0) (some [.buf 1 0 (l ++ bl (quote s))]) := by
  refine funOK_of_vc (C := cx [(69, sm_each)]) (good ⟨k_each, trivial⟩) (fn := Tryz.f52) rfl rfl rfl rfl fun _ _ => ?_
  repeat' ((conv => whnf); apply go3)
  all_goals try conv => whnf
  all_goals try (refine Side.mk ?_; try dsimp only)
  all_goals first | refine stay ?_ | (simp (discharger := omega) only [wR]; omega) | (simp (discharger := omega) [-List.getD_eq_getElem?_getD, wR] <;> omega) | skip
  refine EndP.mk [.swap 0 1] ?_ <;> (repeat' first | trivial | apply andI | apply eqD)
  simp
theorem f_jstringPutL (c : Bool) (l : List V) (s : List UInt8) (hs : s.length ≤ 100000000) (hl : l.length ≤ 3000000000) : OK 52 [.list c 1 l, .str s] [] (.buf 0) (some [.buf 1 0 (l ++ bl (quote s))]) := by
  refine funOK_of_vc (C := cx [(69, sm_each)]) (good ⟨k_each, trivial⟩) (fn := Tryz.f52) rfl rfl rfl rfl fun _ _ => ?_
  repeat' ((conv => whnf); apply go3)
  all_goals try conv => whnf
  all_goals try (refine Side.mk ?_; try dsimp only)
  all_goals first | refine stay ?_ | (simp (discharger := omega) only [wR]; omega) | (simp (discharger := omega) [-List.getD_eq_getElem?_getD, wR] <;> omega) | skip
  refine EndP.mk [] ?_ <;> (repeat' first | trivial | apply andI | apply eqD)
  simp
def sm_jstringPut : Sm := fun args σ => match args, σ with
  | [.buf 0, .str s], [.buf 1 0 l] => some (s.length ≤ 100000000 ∧ l.length ≤ 3000000000, .buf 0, some [.buf 1 0 (l ++ bl (quote s))])
  | [.list true _ [], .str s], [] => some (s.length ≤ 100000000, .buf 0, some [.buf 1 0 (bl (quote s))])
  | [.list _ 1 l, .str s], [] => some (s.length ≤ 100000000 ∧ l.length ≤ 3000000000, .buf 0, some [.buf 1 0 (l ++ bl (quote s))])
  | _, _ => none
theorem k_jstringPut : SOK 52 sm_jstringPut := by
  intro args sg pre x r he hp
  unfold sm_jstringPut at he
  split at he <;> cases he
  · exact f_jstringPut _ _ hp.1 hp.2
  · exact FunOK.nil 0 _ 0 rfl (f_jstringPut _ [] hp (by simp))
  · exact f_jstringPutL _ _ _ hp.1 hp.2
theorem ex_bl2 {s t : List UInt8} {Q : List UInt8 → Prop} (h : Q (s ++ t)) : ∃ a, bl s ++ bl t = bl a ∧ Q a := ⟨_, (bl_append s t).symm, h⟩
end Go.Proofs.YtafgmmfbhpbogaaGreatDoor
