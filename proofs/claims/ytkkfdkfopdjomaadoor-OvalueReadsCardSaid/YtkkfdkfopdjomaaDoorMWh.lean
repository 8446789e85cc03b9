/-
  A message that is written: its bytes, and what is added of a message.
-/
import Derived.Test.YtkkfdkfopdjomaaDoorMWg
set_option linter.unusedSimpArgs false
set_option linter.unusedVariables false
set_option maxHeartbeats 4000000
namespace Go.Proofs.YtkkfdkfopdjomaaDoor
open Go Go.VG
set_option maxRecDepth 100000
/-- what is added of a message -/
def sbL (no : Int) (l : List V) (m : Int) : List V := if mayT no 2 = true then [.iface 97 (.agg [.int .i64 no, .int .i64 2, .box [.list false 1 l, .int .i64 m] 0, .int .i64 m])] else []
def sbN (no m : Int) : Nat := if mayT no 2 = true then (tagB no 2).length + (vput m.toNat).length + m.toNat else 0
structure SOk (n : Int) (L : List V) (m : Int) : Prop where
  n : 0 ≤ n ∧ n ≤ 1000000000
  l : L.length ≤ 1000000
  m : 0 ≤ m ∧ m ≤ 100000000
abbrev eSb (n : Int) (L : List V) (no : Int) (l : List V) (m : Int) : List O := [.cells [.buf 2, .int .i64 (n + sbN no m)], .dead, .buf 1 0 (L ++ sbL no l m), .dead, .buf 1 0 []]
theorem sb_no (n : Int) (L : List V) (no : Int) (l : List V) (m : Int) (h : ¬ mayT no 2 = true) : n + (sbN no m : Int) = n ∧ L ++ sbL no l m = L := by
  unfold sbN sbL
  rw [if_neg h, if_neg h]
  exact ⟨Int.add_zero n, List.append_nil L⟩
theorem f_sureSubN (n : Int) (L : List V) (no : Int) (m : Int) (l : List V) (hM : ¬ mayT no 2 = true) :
    OK 27 [.ptr 0 0, .int .i64 no, .ptr 1 0] [.cells [.buf 2, .int .i64 n], .cells [.buf 3, .int .i64 m], .buf 1 0 L, .buf 1 0 l] (.tuple []) (some (eSb n L no l m)) := by
  refine funOK_of_vc (C := cx [(44, sm_pMay)]) (good ⟨k_pMay, trivial⟩) (fn := Tryd.f27) rfl rfl rfl rfl fun hw _ => ?_
  have h1 := sb_no n L no l m hM
  rw [show eSb n L no l m = _ by unfold eSb; rw [h1.1, h1.2]]
  repeat' ((conv => whnf); first | with_reducible (first | refine go1 (fun j q h => ?_) fun h => ?_ | refine go2 ⟨rfl, rfl⟩ (fun h => ?_) fun j h => ?_ | refine go2 ?_ (fun h => ?_) fun j h => ?_ | refine goQ ?_ (fun h => ?_) fun h => ?_) | apply go3 | apply go4 | apply go5 | ((first | apply go6 | apply go7 | apply go8 | apply go9 | apply goA) <;> intro h) | with_reducible (first | refine IdxK.mk _ rfl ?_ | refine call_ite (fun h => ?_) fun h => ?_ | refine goB ?_ fun hc => ?_ | refine goC ?_ fun hc => ?_ | refine goD ?_ fun hc => ?_ | refine goE ?_ fun hc => ?_ | apply goF | apply goG | refine goH ?_ fun b hb => ?_) | apply goI | apply goJ | apply goK | apply goL | apply goM | apply goN | apply goO | with_reducible refine goP ?_)
  all_goals try conv => whnf
  all_goals try (refine Side.mk ?_; try dsimp only)
  · exact absurd (decide_eq_true ‹_›) hM
  · exact absurd (decide_eq_true ‹_›) hM
  · refine EndP.mk [.nw, .swap 4 5] ?_ <;> (repeat' first | trivial | rfl | exact eqS _ _ | apply andI | apply eqA | apply eqB | apply eqC | apply eqD | apply eqE | apply eqF | apply eqG | apply eqH | apply eqI)
theorem f_sureSubA (n : Int) (L : List V) (no : Int) (m : Int) (l : List V) (h : SOk n L m) :
    OK 27 [.ptr 0 0, .int .i64 no, .ptr 1 0] [.cells [.buf 2, .int .i64 n], .cells [.buf 3, .int .i64 m], .buf 1 0 L, .buf 1 0 l] (.tuple []) (some (eSb n L no l m)) := by
  by_cases hM : mayT no 2 = true
  · have := f_sureSub n L no m l h.n h.l h.m hM
    unfold eSb sbN sbL
    rw [if_pos hM, if_pos hM]
    exact this
  · exact f_sureSubN n L no m l hM
theorem f_mSureS_1 (n : Int) (L : List V) (no : Int) (m : Int) (l : List V) (hp : SOk n L m) : OK 27 ([.ptr 0 0, .int .i64 no, .ptr 1 0]) ([.cells [.buf 2, .int .i64 n], .cells [.buf 3, .int .i64 m], .buf 1 0 L, .buf 1 0 l]) (.tuple []) (some (eSb n L no l m)) := by
  exact f_sureSubA n L no m l hp
theorem f_mSureS_2 (n : Int) (L : List V) (no : Int) (hp : True) : OK 27 ([.ptr 0 0, .int .i64 no, .nilptr]) ([.cells [.buf 1, .int .i64 n], .buf 1 0 L]) (.tuple []) (some (eMv n L)) := by
  refine funOK_of_vc (C := cx []) (good trivial) (fn := Tryd.f27) rfl rfl rfl rfl fun hw _ => ?_
  repeat' ((conv => whnf); first | with_reducible (first | refine go1 (fun j q h => ?_) fun h => ?_ | refine go2 ⟨rfl, rfl⟩ (fun h => ?_) fun j h => ?_ | refine go2 ?_ (fun h => ?_) fun j h => ?_ | refine goQ ?_ (fun h => ?_) fun h => ?_) | apply go3 | apply go4 | apply go5 | ((first | apply go6 | apply go7 | apply go8 | apply go9 | apply goA) <;> intro h) | with_reducible (first | refine IdxK.mk _ rfl ?_ | refine call_ite (fun h => ?_) fun h => ?_ | refine goB ?_ fun hc => ?_ | refine goC ?_ fun hc => ?_ | refine goD ?_ fun hc => ?_ | refine goE ?_ fun hc => ?_ | apply goF | apply goG | refine goH ?_ fun b hb => ?_) | apply goI | apply goJ | apply goK | apply goL | apply goM | apply goN | apply goO | with_reducible refine goP ?_)
  all_goals try conv => whnf
  all_goals try (refine Side.mk ?_; try dsimp only)
  refine EndP.mk [] ?_ <;> (repeat' first | trivial | rfl | exact eqS _ _ | apply andI | apply eqA | apply eqB | apply eqC | apply eqD | apply eqE | apply eqF | apply eqG | apply eqH | apply eqI)
def sm_mSureS : Sm := fun args σ => match args, σ with
  | [.ptr 0 0, .int .i64 no, .ptr 1 0], [.cells [.buf 2, .int .i64 n], .cells [.buf 3, .int .i64 m], .buf 1 0 L, .buf 1 0 l] => some (SOk n L m, .tuple [], some (eSb n L no l m))
  | [.ptr 0 0, .int .i64 no, .nilptr], [.cells [.buf 1, .int .i64 n], .buf 1 0 L] => some (True, .tuple [], some (eMv n L))
  | _, _ => none
theorem k_mSureS : SOK 27 sm_mSureS := by
  intro args sg pre x r he hp
  unfold sm_mSureS at he
  split at he <;> cases he
  · exact f_mSureS_1 (hp := hp) ..
  · exact f_mSureS_2 (hp := hp) ..
def sb0L (no : Int) (l : List V) (m : Int) : List V := if m > 0 then sbL no l m else []
def sb0N (no m : Int) : Nat := if m > 0 then sbN no m else 0
abbrev eSb0 (n : Int) (L : List V) (no : Int) (l : List V) (m : Int) : List O := [.cells [.buf 2, .int .i64 (n + sb0N no m)], .dead, .buf 1 0 (L ++ sb0L no l m), .dead, .buf 1 0 []]
theorem f_mSub_1 (n : Int) (L : List V) (no : Int) (m : Int) (l : List V) (hp : SOk n L m) : OK 26 ([.ptr 0 0, .int .i64 no, .ptr 1 0]) ([.cells [.buf 2, .int .i64 n], .cells [.buf 3, .int .i64 m], .buf 1 0 L, .buf 1 0 l]) (.tuple []) (some (eSb0 n L no l m)) := by
  refine funOK_of_vc (C := cx [(43, sm_mSize), (27, sm_mSureS)]) (good ⟨k_mSize, k_mSureS, trivial⟩) (fn := Tryd.f26) rfl rfl rfl rfl fun hw hs => ?_
  repeat' ((conv => whnf); first | with_reducible (first | refine go1 (fun j q h => ?_) fun h => ?_ | refine go2 ⟨rfl, rfl⟩ (fun h => ?_) fun j h => ?_ | refine go2 ?_ (fun h => ?_) fun j h => ?_ | refine goQ ?_ (fun h => ?_) fun h => ?_) | apply go3 | apply go4 | apply go5 | ((first | apply go6 | apply go7 | apply go8 | apply go9 | apply goA) <;> intro h) | with_reducible (first | refine IdxK.mk _ rfl ?_ | refine call_ite (fun h => ?_) fun h => ?_ | refine goB ?_ fun hc => ?_ | refine goC ?_ fun hc => ?_ | refine goD ?_ fun hc => ?_ | refine goE ?_ fun hc => ?_ | apply goF | apply goG | refine goH ?_ fun b hb => ?_) | apply goI | apply goJ | apply goK | apply goL | apply goM | apply goN | apply goO | with_reducible refine goP ?_)
  all_goals try conv => whnf
  all_goals try (refine Side.mk ?_; try dsimp only)
  · exact hp
  · unfold eSb0 sb0N sb0L
    rw [if_pos (by assumption), if_pos (by assumption)]
    refine EndP.mk [] ?_ <;> (repeat' first | trivial | rfl | exact eqS _ _ | apply andI | apply eqA | apply eqB | apply eqC | apply eqD | apply eqE | apply eqF | apply eqG | apply eqH | apply eqI)
  · unfold eSb0 sb0N sb0L
    rw [if_neg (by omega), if_neg (by omega), show n + ((0 : Nat) : Int) = n from Int.add_zero n, List.append_nil]
    refine EndP.mk [.nw] ?_ <;> (repeat' first | trivial | rfl | exact eqS _ _ | apply andI | apply eqA | apply eqB | apply eqC | apply eqD | apply eqE | apply eqF | apply eqG | apply eqH | apply eqI)
def sm_mSub : Sm := fun args σ => match args, σ with
  | [.ptr 0 0, .int .i64 no, .ptr 1 0], [.cells [.buf 2, .int .i64 n], .cells [.buf 3, .int .i64 m], .buf 1 0 L, .buf 1 0 l] => some (SOk n L m, .tuple [], some (eSb0 n L no l m))
  | _, _ => none
theorem k_mSub : SOK 26 sm_mSub := by
  intro args sg pre x r he hp
  unfold sm_mSub at he
  split at he <;> cases he
  · exact f_mSub_1 (hp := hp) ..
theorem f_mSizeW_1 (n : Int) (L : List V) (hp : True) : OK 43 ([.ptr 0 0]) ([.cells [.buf 1, .int .i64 n], .buf 1 0 L]) (.int .i64 n) (none) := by
  refine funOK_of_vc (C := cx []) (good trivial) (fn := Tryd.f43) rfl rfl rfl rfl fun hw hs => ?_
  repeat' ((conv => whnf); first | with_reducible (first | refine go1 (fun j q h => ?_) fun h => ?_ | refine go2 ⟨rfl, rfl⟩ (fun h => ?_) fun j h => ?_ | refine go2 ?_ (fun h => ?_) fun j h => ?_ | refine goQ ?_ (fun h => ?_) fun h => ?_) | apply go3 | apply go4 | apply go5 | ((first | apply go6 | apply go7 | apply go8 | apply go9 | apply goA) <;> intro h) | with_reducible (first | refine IdxK.mk _ rfl ?_ | refine call_ite (fun h => ?_) fun h => ?_ | refine goB ?_ fun hc => ?_ | refine goC ?_ fun hc => ?_ | refine goD ?_ fun hc => ?_ | refine goE ?_ fun hc => ?_ | apply goF | apply goG | refine goH ?_ fun b hb => ?_) | apply goI | apply goJ | apply goK | apply goL | apply goM | apply goN | apply goO | with_reducible refine goP ?_)
  all_goals try conv => whnf
  all_goals try (refine Side.mk ?_; try dsimp only)
  refine EndP.mk [] ?_ <;> (repeat' first | trivial | rfl | exact eqS _ _ | apply andI | apply eqA | apply eqB | apply eqC | apply eqD | apply eqE | apply eqF | apply eqG | apply eqH | apply eqI)
theorem f_mSizeW_2  (hp : True) : OK 43 ([.nilptr]) ([]) (.int .i64 0) (none) := by
  refine funOK_of_vc (C := cx []) (good trivial) (fn := Tryd.f43) rfl rfl rfl rfl fun hw hs => ?_
  repeat' ((conv => whnf); first | with_reducible (first | refine go1 (fun j q h => ?_) fun h => ?_ | refine go2 ⟨rfl, rfl⟩ (fun h => ?_) fun j h => ?_ | refine go2 ?_ (fun h => ?_) fun j h => ?_ | refine goQ ?_ (fun h => ?_) fun h => ?_) | apply go3 | apply go4 | apply go5 | ((first | apply go6 | apply go7 | apply go8 | apply go9 | apply goA) <;> intro h) | with_reducible (first | refine IdxK.mk _ rfl ?_ | refine call_ite (fun h => ?_) fun h => ?_ | refine goB ?_ fun hc => ?_ | refine goC ?_ fun hc => ?_ | refine goD ?_ fun hc => ?_ | refine goE ?_ fun hc => ?_ | apply goF | apply goG | refine goH ?_ fun b hb => ?_) | apply goI | apply goJ | apply goK | apply goL | apply goM | apply goN | apply goO | with_reducible refine goP ?_)
  all_goals try conv => whnf
  all_goals try (refine Side.mk ?_; try dsimp only)
  refine EndP.mk [] ?_ <;> (repeat' first | trivial | rfl | exact eqS _ _ | apply andI | apply eqA | apply eqB | apply eqC | apply eqD | apply eqE | apply eqF | apply eqG | apply eqH | apply eqI)
def sm_mSizeW : Sm := fun args σ => match args, σ with
  | [.ptr 0 0], [.cells [.buf 1, .int .i64 n], .buf 1 0 L] => some (True, .int .i64 n, none)
  | [.nilptr], [] => some (True, .int .i64 0, none)
  | _, _ => none
theorem k_mSizeW : SOK 43 sm_mSizeW := by
  intro args sg pre x r he hp
  unfold sm_mSizeW at he
  split at he <;> cases he
  · exact f_mSizeW_1 (hp := hp) ..
  · exact f_mSizeW_2 (hp := hp) ..
theorem f_mAddNil_1 (no wi u : Int) (t : List UInt8) (hp : True) : OK 45 ([.nilptr, .iface 112 (.agg [.int .i64 no, .int .i64 wi, .int .u64 u, .str t])]) ([]) (.tuple []) (none) := by
  refine funOK_of_vc (C := cx []) (good trivial) (fn := Tryd.f45) rfl rfl rfl rfl fun hw hs => ?_
  repeat' ((conv => whnf); first | with_reducible (first | refine go1 (fun j q h => ?_) fun h => ?_ | refine go2 ⟨rfl, rfl⟩ (fun h => ?_) fun j h => ?_ | refine go2 ?_ (fun h => ?_) fun j h => ?_ | refine goQ ?_ (fun h => ?_) fun h => ?_) | apply go3 | apply go4 | apply go5 | ((first | apply go6 | apply go7 | apply go8 | apply go9 | apply goA) <;> intro h) | with_reducible (first | refine IdxK.mk _ rfl ?_ | refine call_ite (fun h => ?_) fun h => ?_ | refine goB ?_ fun hc => ?_ | refine goC ?_ fun hc => ?_ | refine goD ?_ fun hc => ?_ | refine goE ?_ fun hc => ?_ | apply goF | apply goG | refine goH ?_ fun b hb => ?_) | apply goI | apply goJ | apply goK | apply goL | apply goM | apply goN | apply goO | with_reducible refine goP ?_)
  all_goals try conv => whnf
  all_goals try (refine Side.mk ?_; try dsimp only)
  refine EndP.mk [] ?_ <;> (repeat' first | trivial | rfl | exact eqS _ _ | apply andI | apply eqA | apply eqB | apply eqC | apply eqD | apply eqE | apply eqF | apply eqG | apply eqH | apply eqI)
def sm_mAddNil : Sm := fun args σ => match args, σ with
  | [.nilptr, .iface 112 (.agg [.int .i64 no, .int .i64 wi, .int .u64 u, .str t])], [] => some (True, .tuple [], none)
  | _, _ => none
theorem k_mAddNil : SOK 45 sm_mAddNil := by
  intro args sg pre x r he hp
  unfold sm_mAddNil at he
  split at he <;> cases he
  · exact f_mAddNil_1 (hp := hp) ..
theorem f_mSureNil_1 (no wi u : Int) (t : List UInt8) (hp : True) : OK 46 ([.nilptr, .agg [.int .i64 no, .int .i64 wi, .int .u64 u, .str t]]) ([]) (.tuple []) (none) := by
  refine funOK_of_vc (C := cx [(44, sm_pMay), (45, sm_mAddNil)]) (good ⟨k_pMay, k_mAddNil, trivial⟩) (fn := Tryd.f46) rfl rfl rfl rfl fun hw hs => ?_
  repeat' ((conv => whnf); first | with_reducible (first | refine go1 (fun j q h => ?_) fun h => ?_ | refine go2 ⟨rfl, rfl⟩ (fun h => ?_) fun j h => ?_ | refine go2 ?_ (fun h => ?_) fun j h => ?_ | refine goQ ?_ (fun h => ?_) fun h => ?_) | apply go3 | apply go4 | apply go5 | ((first | apply go6 | apply go7 | apply go8 | apply go9 | apply goA) <;> intro h) | with_reducible (first | refine IdxK.mk _ rfl ?_ | refine call_ite (fun h => ?_) fun h => ?_ | refine goB ?_ fun hc => ?_ | refine goC ?_ fun hc => ?_ | refine goD ?_ fun hc => ?_ | refine goE ?_ fun hc => ?_ | apply goF | apply goG | refine goH ?_ fun b hb => ?_) | apply goI | apply goJ | apply goK | apply goL | apply goM | apply goN | apply goO | with_reducible refine goP ?_)
  all_goals try conv => whnf
  all_goals try (refine Side.mk ?_; try dsimp only)
  · refine EndP.mk [] ?_ <;> (repeat' first | trivial | rfl | exact eqS _ _ | apply andI | apply eqA | apply eqB | apply eqC | apply eqD | apply eqE | apply eqF | apply eqG | apply eqH | apply eqI)
  · refine EndP.mk [] ?_ <;> (repeat' first | trivial | rfl | exact eqS _ _ | apply andI | apply eqA | apply eqB | apply eqC | apply eqD | apply eqE | apply eqF | apply eqG | apply eqH | apply eqI)
def sm_mSureNil : Sm := fun args σ => match args, σ with
  | [.nilptr, .agg [.int .i64 no, .int .i64 wi, .int .u64 u, .str t]], [] => some (True, .tuple [], none)
  | _, _ => none
theorem k_mSureNil : SOK 46 sm_mSureNil := by
  intro args sg pre x r he hp
  unfold sm_mSureNil at he
  split at he <;> cases he
  · exact f_mSureNil_1 (hp := hp) ..
theorem f_mSureTNil_1 (no : Int) (t : List UInt8) (hp : True) : OK 28 ([.nilptr, .int .i64 no, .str t]) ([]) (.tuple []) (none) := by
  refine funOK_of_vc (C := cx [(46, sm_mSureNil)]) (good ⟨k_mSureNil, trivial⟩) (fn := Tryd.f28) rfl rfl rfl rfl fun hw hs => ?_
  repeat' ((conv => whnf); first | with_reducible (first | refine go1 (fun j q h => ?_) fun h => ?_ | refine go2 ⟨rfl, rfl⟩ (fun h => ?_) fun j h => ?_ | refine go2 ?_ (fun h => ?_) fun j h => ?_ | refine goQ ?_ (fun h => ?_) fun h => ?_) | apply go3 | apply go4 | apply go5 | ((first | apply go6 | apply go7 | apply go8 | apply go9 | apply goA) <;> intro h) | with_reducible (first | refine IdxK.mk _ rfl ?_ | refine call_ite (fun h => ?_) fun h => ?_ | refine goB ?_ fun hc => ?_ | refine goC ?_ fun hc => ?_ | refine goD ?_ fun hc => ?_ | refine goE ?_ fun hc => ?_ | apply goF | apply goG | refine goH ?_ fun b hb => ?_) | apply goI | apply goJ | apply goK | apply goL | apply goM | apply goN | apply goO | with_reducible refine goP ?_)
  all_goals try conv => whnf
  all_goals try (refine Side.mk ?_; try dsimp only)
  refine EndP.mk [] ?_ <;> (repeat' first | trivial | rfl | exact eqS _ _ | apply andI | apply eqA | apply eqB | apply eqC | apply eqD | apply eqE | apply eqF | apply eqG | apply eqH | apply eqI)
def sm_mSureTNil : Sm := fun args σ => match args, σ with
  | [.nilptr, .int .i64 no, .str t], [] => some (True, .tuple [], none)
  | _, _ => none
theorem k_mSureTNil : SOK 28 sm_mSureTNil := by
  intro args sg pre x r he hp
  unfold sm_mSureTNil at he
  split at he <;> cases he
  · exact f_mSureTNil_1 (hp := hp) ..
theorem f_mTextW_1 (n : Int) (L : List V) (no : Int) (t : List UInt8) (hp : AOk n L ⟨no, 2, 0, t⟩) : OK 25 ([.ptr 0 0, .int .i64 no, .str t]) ([.cells [.buf 1, .int .i64 n], .buf 1 0 L]) (.tuple []) (some (eMv (n + (fldsB (fText no t)).length) (L ++ eFs (fText no t)))) := by
  exact f_mText_1 _ _ _ _ hp
theorem f_mTextW_2 (no : Int) (t : List UInt8) (hp : True) : OK 25 ([.nilptr, .int .i64 no, .str t]) ([]) (.tuple []) (none) := by
  refine funOK_of_vc (C := cx [(28, sm_mSureTNil)]) (good ⟨k_mSureTNil, trivial⟩) (fn := Tryd.f25) rfl rfl rfl rfl fun hw hs => ?_
  repeat' ((conv => whnf); first | with_reducible (first | refine go1 (fun j q h => ?_) fun h => ?_ | refine go2 ⟨rfl, rfl⟩ (fun h => ?_) fun j h => ?_ | refine go2 ?_ (fun h => ?_) fun j h => ?_ | refine goQ ?_ (fun h => ?_) fun h => ?_) | apply go3 | apply go4 | apply go5 | ((first | apply go6 | apply go7 | apply go8 | apply go9 | apply goA) <;> intro h) | with_reducible (first | refine IdxK.mk _ rfl ?_ | refine call_ite (fun h => ?_) fun h => ?_ | refine goB ?_ fun hc => ?_ | refine goC ?_ fun hc => ?_ | refine goD ?_ fun hc => ?_ | refine goE ?_ fun hc => ?_ | apply goF | apply goG | refine goH ?_ fun b hb => ?_) | apply goI | apply goJ | apply goK | apply goL | apply goM | apply goN | apply goO | with_reducible refine goP ?_)
  all_goals try conv => whnf
  all_goals try (refine Side.mk ?_; try dsimp only)
  · refine EndP.mk [] ?_ <;> (repeat' first | trivial | rfl | exact eqS _ _ | apply andI | apply eqA | apply eqB | apply eqC | apply eqD | apply eqE | apply eqF | apply eqG | apply eqH | apply eqI)
  · refine EndP.mk [] ?_ <;> (repeat' first | trivial | rfl | exact eqS _ _ | apply andI | apply eqA | apply eqB | apply eqC | apply eqD | apply eqE | apply eqF | apply eqG | apply eqH | apply eqI)
def sm_mTextW : Sm := fun args σ => match args, σ with
  | [.ptr 0 0, .int .i64 no, .str t], [.cells [.buf 1, .int .i64 n], .buf 1 0 L] => some (AOk n L ⟨no, 2, 0, t⟩, .tuple [], some (eMv (n + (fldsB (fText no t)).length) (L ++ eFs (fText no t))))
  | [.nilptr, .int .i64 no, .str t], [] => some (True, .tuple [], none)
  | _, _ => none
theorem k_mTextW : SOK 25 sm_mTextW := by
  intro args sg pre x r he hp
  unfold sm_mTextW at he
  split at he <;> cases he
  · exact f_mTextW_1 (hp := hp) ..
  · exact f_mTextW_2 (hp := hp) ..
end Go.Proofs.YtkkfdkfopdjomaaDoor
