/-
  A message that is written: numbers and texts are added.
-/
import Derived.Test.YtkkfdkfopdjomaaDoorMWe
set_option linter.unusedSimpArgs false
set_option linter.unusedVariables false
set_option maxHeartbeats 4000000
namespace Go.Proofs.YtkkfdkfopdjomaaDoor
open Go Go.VG
set_option maxRecDepth 100000
theorem add_0 (n : Int) : n + ((fldsB []).length : Int) = n := Int.add_zero n
theorem app_0 (L : List V) : L ++ eFs [] = L := List.append_nil L
def fNum (no wi u : Int) : List Pf := if u = 0 then [] else fSure no wi u
def fText (no : Int) (t : List UInt8) : List Pf := if t = [] then [] else fK ⟨no, 2, 0, t⟩
theorem f_mText_1 (n : Int) (L : List V) (no : Int) (t : List UInt8) (hp : AOk n L ⟨no, 2, 0, t⟩) : OK 25 ([.ptr 0 0, .int .i64 no, .str t]) ([.cells [.buf 1, .int .i64 n], .buf 1 0 L]) (.tuple []) (some (eMv (n + (fldsB (fText no t)).length) (L ++ eFs (fText no t)))) := by
  refine funOK_of_vc (C := cx [(28, sm_mSureT)]) (good ⟨k_mSureT, trivial⟩) (fn := Tryd.f25) rfl rfl rfl rfl fun hw hs => ?_
  repeat' ((conv => whnf); first | with_reducible (first | refine go1 (fun j q h => ?_) fun h => ?_ | refine go2 ⟨rfl, rfl⟩ (fun h => ?_) fun j h => ?_ | refine go2 ?_ (fun h => ?_) fun j h => ?_ | refine goQ ?_ (fun h => ?_) fun h => ?_) | apply go3 | apply go4 | apply go5 | ((first | apply go6 | apply go7 | apply go8 | apply go9 | apply goA) <;> intro h) | with_reducible (first | refine IdxK.mk _ rfl ?_ | refine call_ite (fun h => ?_) fun h => ?_ | refine goB ?_ fun hc => ?_ | refine goC ?_ fun hc => ?_ | refine goD ?_ fun hc => ?_ | refine goE ?_ fun hc => ?_ | apply goF | apply goG | refine goH ?_ fun b hb => ?_) | apply goI | apply goJ | apply goK | apply goL | apply goM | apply goN | apply goO | with_reducible refine goP ?_)
  all_goals try conv => whnf
  all_goals try (refine Side.mk ?_; try dsimp only)
  · unfold fText
    rw [if_pos (by assumption), add_0, app_0]
    refine EndP.mk [] ?_ <;> (repeat' first | trivial | rfl | exact eqS _ _ | apply andI | apply eqA | apply eqB | apply eqC | apply eqD | apply eqE | apply eqF | apply eqG | apply eqH | apply eqI)
  · exact hp
  · unfold fText
    rw [if_neg (by assumption)]
    refine EndP.mk [] ?_ <;> (repeat' first | trivial | rfl | exact eqS _ _ | apply andI | apply eqA | apply eqB | apply eqC | apply eqD | apply eqE | apply eqF | apply eqG | apply eqH | apply eqI)
def sm_mText : Sm := fun args σ => match args, σ with
  | [.ptr 0 0, .int .i64 no, .str t], [.cells [.buf 1, .int .i64 n], .buf 1 0 L] => some (AOk n L ⟨no, 2, 0, t⟩, .tuple [], some (eMv (n + (fldsB (fText no t)).length) (L ++ eFs (fText no t))))
  | _, _ => none
theorem k_mText : SOK 25 sm_mText := by
  intro args sg pre x r he hp
  unfold sm_mText at he
  split at he <;> cases he
  · exact f_mText_1 (hp := hp) ..
theorem f_mNew_1  (hp : True) : OK 11 ([]) ([]) (.ptr 0 0) (some (eMv 0 [])) := by
  refine funOK_of_vc (C := cx []) (good trivial) (fn := Tryd.f11) rfl rfl rfl rfl fun hw hs => ?_
  repeat' ((conv => whnf); first | with_reducible (first | refine go1 (fun j q h => ?_) fun h => ?_ | refine go2 ⟨rfl, rfl⟩ (fun h => ?_) fun j h => ?_ | refine go2 ?_ (fun h => ?_) fun j h => ?_ | refine goQ ?_ (fun h => ?_) fun h => ?_) | apply go3 | apply go4 | apply go5 | ((first | apply go6 | apply go7 | apply go8 | apply go9 | apply goA) <;> intro h) | with_reducible (first | refine IdxK.mk _ rfl ?_ | refine call_ite (fun h => ?_) fun h => ?_ | refine goB ?_ fun hc => ?_ | refine goC ?_ fun hc => ?_ | refine goD ?_ fun hc => ?_ | refine goE ?_ fun hc => ?_ | apply goF | apply goG | refine goH ?_ fun b hb => ?_) | apply goI | apply goJ | apply goK | apply goL | apply goM | apply goN | apply goO | with_reducible refine goP ?_)
  all_goals try conv => whnf
  all_goals try (refine Side.mk ?_; try dsimp only)
  refine EndP.mk [.cell 0 0 1] ?_ <;> (repeat' first | trivial | rfl | exact eqS _ _ | apply andI | apply eqA | apply eqB | apply eqC | apply eqD | apply eqE | apply eqF | apply eqG | apply eqH | apply eqI)
def sm_mNew : Sm := fun args σ => match args, σ with
  | [], [] => some (True, .ptr 0 0, some (eMv 0 []))
  | _, _ => none
theorem k_mNew : SOK 11 sm_mNew := by
  intro args sg pre x r he hp
  unfold sm_mNew at he
  split at he <;> cases he
  · exact f_mNew_1 (hp := hp) ..
theorem f_mSize_1 (n : Int) (L : List V) (hp : True) : OK 43 ([.ptr 0 0]) ([.cells [.buf 1, .int .i64 n], .buf 1 0 L]) (.int .i64 n) (none) := by
  refine funOK_of_vc (C := cx []) (good trivial) (fn := Tryd.f43) rfl rfl rfl rfl fun hw hs => ?_
  repeat' ((conv => whnf); first | with_reducible (first | refine go1 (fun j q h => ?_) fun h => ?_ | refine go2 ⟨rfl, rfl⟩ (fun h => ?_) fun j h => ?_ | refine go2 ?_ (fun h => ?_) fun j h => ?_ | refine goQ ?_ (fun h => ?_) fun h => ?_) | apply go3 | apply go4 | apply go5 | ((first | apply go6 | apply go7 | apply go8 | apply go9 | apply goA) <;> intro h) | with_reducible (first | refine IdxK.mk _ rfl ?_ | refine call_ite (fun h => ?_) fun h => ?_ | refine goB ?_ fun hc => ?_ | refine goC ?_ fun hc => ?_ | refine goD ?_ fun hc => ?_ | refine goE ?_ fun hc => ?_ | apply goF | apply goG | refine goH ?_ fun b hb => ?_) | apply goI | apply goJ | apply goK | apply goL | apply goM | apply goN | apply goO | with_reducible refine goP ?_)
  all_goals try conv => whnf
  all_goals try (refine Side.mk ?_; try dsimp only)
  refine EndP.mk [] ?_ <;> (repeat' first | trivial | rfl | exact eqS _ _ | apply andI | apply eqA | apply eqB | apply eqC | apply eqD | apply eqE | apply eqF | apply eqG | apply eqH | apply eqI)
def sm_mSize : Sm := fun args σ => match args, σ with
  | [.ptr 0 0], [.cells [.buf 1, .int .i64 n], .buf 1 0 L] => some (True, .int .i64 n, none)
  | _, _ => none
theorem k_mSize : SOK 43 sm_mSize := by
  intro args sg pre x r he hp
  unfold sm_mSize at he
  split at he <;> cases he
  · exact f_mSize_1 (hp := hp) ..
end Go.Proofs.YtkkfdkfopdjomaaDoor
