/-
  A message within messages: its bytes, or a nil message's.
-/
import Derived.Test.YtkkfdkfopdjomaaDoorMXb
set_option linter.unusedSimpArgs false
set_option linter.unusedVariables false
set_option maxHeartbeats 4000000
namespace Go.Proofs.YtkkfdkfopdjomaaDoor
open Go Go.VG
set_option maxRecDepth 100000
def sm_bytesX (M : List V → List UInt8) : Sm := fun args σ => match args, σ with
  | [.ptr 0 0], [.cells [.buf 1, .int .i64 n], .buf 1 q l] => some (n = (psB l).length ∧ (∀ v ∈ l, OkP 100 v) ∧ l.length ≤ 1000000 ∧ (psB l).length ≤ 100000000, .str (M l), some [.cells [.buf 1, .int .i64 n], .buf 1 q l])
  | [.nilptr], [] => some (True, .str [], none)
  | _, _ => none
theorem f_bytesN : OK 14 [.nilptr] [] (.str []) none := by
  refine funOK_of_vc (C := cx []) (good trivial) (fn := Tryd.f14) rfl rfl rfl rfl fun hw _ => ?_
  repeat' ((conv => whnf); first | with_reducible (first | refine go1 (fun j q h => ?_) fun h => ?_ | refine go2 ⟨rfl, rfl⟩ (fun h => ?_) fun j h => ?_ | refine go2 ?_ (fun h => ?_) fun j h => ?_ | refine goQ ?_ (fun h => ?_) fun h => ?_) | apply go3 | apply go4 | apply go5 | ((first | apply go6 | apply go7 | apply go8 | apply go9 | apply goA) <;> intro h) | with_reducible (first | refine IdxK.mk _ rfl ?_ | refine call_ite (fun h => ?_) fun h => ?_ | refine goB ?_ fun hc => ?_ | refine goC ?_ fun hc => ?_ | refine goD ?_ fun hc => ?_ | refine goE ?_ fun hc => ?_ | apply goF | apply goG | refine goH ?_ fun b hb => ?_) | apply goI | apply goJ | apply goK | apply goL | apply goM | apply goN | apply goO | with_reducible refine goP ?_)
  all_goals try conv => whnf
  all_goals try (refine Side.mk ?_; try dsimp only)
  refine EndP.mk [] ?_ <;> (repeat' first | trivial | rfl | exact eqS _ _ | apply andI | apply eqA | apply eqB | apply eqC | apply eqD | apply eqE | apply eqF | apply eqG | apply eqH | apply eqI)
theorem k_bytesX {M : List V → List UInt8} (hM : ∀ l, M l = psB l) : SOK 14 (sm_bytesX M) := by
  intro args sg pre x r he hp
  unfold sm_bytesX at he
  split at he <;> cases he
  · rw [hM]
    obtain ⟨rfl, h1, h2, h3⟩ := hp
    exact f_bytesL 100 _ _ h1 h2 h3
  · exact f_bytesN
theorem psB_eFs (fs : List Pf) : psB (eFs fs) = fldsB fs := by
  induction fs with
  | nil => rw [show eFs [] = [] from rfl, psB_nil]; rfl
  | cons f fs ih => rw [show eFs (f :: fs) = .iface 112 (ePf f) :: eFs fs from rfl, psB_cons, ih, pB_fld]; rfl
theorem ok_eFs (d : Nat) {fs : List Pf} (h : ∀ f ∈ fs, f.text.length ≤ 1000000 ∧ (f.wi = 0 ∨ f.wi = 2)) : ∀ v ∈ eFs fs, OkP d v := fun v hv => by
  obtain ⟨f, hf, rfl⟩ := List.mem_map.1 hv
  exact .fld d f (h f hf).1 (h f hf).2
end Go.Proofs.YtkkfdkfopdjomaaDoor
