/-
  A message that is written: it is laid.
-/
import Derived.Test.YtgiocgghmlmgfaaDoorMWb
set_option linter.unusedSimpArgs false
set_option linter.unusedVariables false
set_option maxHeartbeats 4000000
namespace Go.Proofs.YtgiocgghmlmgfaaDoor
open Go Go.VG
set_option maxRecDepth 100000
theorem fldsB_next {fs : List Pf} {i : Nat} (h : i < fs.length) : fldsB (fs.take (i + 1)) = fldsB (fs.take i) ++ fldB (fs.getD i default) := by
  rw [List.take_add_one, List.getD_eq_getElem?_getD, List.getElem?_eq_getElem h]
  unfold fldsB
  rw [List.map_append, List.flatten_append]; simp
theorem f_layB (fs : List Pf) (n : Int) (b : List V) (h0 : 0 < fs.length) (hf : ∀ f ∈ fs, f.text.length ≤ 1000000) (hl : ∀ i, (b ++ bl (fldsB (fs.take i))).length ≤ 800000000) :
    OK 21 [.box [.list false 1 (eFs fs), .int .i64 n] 0, .buf 0] [.buf 1 0 b] (.buf 1) (some [.buf 1 0 b, .buf 1 0 (b ++ bl (fldsB fs))]) := by
  refine funOK_of_vc (C := cxz [(67, sm_mfLay)] []) (goodz ⟨k_mfLay, trivial⟩) (fn := Tryd.f21) rfl rfl rfl rfl fun hw _ => ?_
  unfold eFs at hw ⊢
  have e1 : (fs.map fun f => V.iface 76 (ePf f)).length = fs.length := by simp
  have hlen : fs.length ≤ 9223372036854775807 := by
    have := hw.1.1.1
    rw [← e1]
    exact this
  repeat' ((conv => whnf); first | with_reducible (first | refine go1 (fun j q h => ?_) fun h => ?_ | refine go2 ⟨rfl, rfl⟩ (fun h => ?_) fun j h => ?_ | refine go2 ?_ (fun h => ?_) fun j h => ?_ | refine goQ ?_ (fun h => ?_) fun h => ?_) | apply go3 | apply go4 | apply go5 | ((first | apply go6 | apply go7 | apply go8 | apply go9 | apply goA) <;> intro h) | with_reducible (first | refine IdxK.mk _ rfl ?_ | refine call_ite (fun h => ?_) fun h => ?_ | refine goB ?_ fun hc => ?_ | refine goC ?_ fun hc => ?_ | refine goD ?_ fun hc => ?_ | refine goE ?_ fun hc => ?_ | apply goF | apply goG | refine goH ?_ fun b hb => ?_) | apply goI | apply goJ | apply goK | apply goL | apply goM | apply goN | apply goO | with_reducible refine goP ?_)
  all_goals try conv => whnf
  all_goals try (refine Side.mk ?_; try dsimp only)
  refine LoopP.mk Nat (fun i => i ≤ fs.length) (fun i => if i = 0 then ⟨21, [(1, .buf 0), (10, .list false 1 (fs.map fun f => .iface 76 (ePf f))), (11, .int .i64 fs.length), (12, .int .i64 0)], [.buf 1 0 b], []⟩ else ⟨21, [(1, .buf 1), (10, .list false 1 (fs.map fun f => .iface 76 (ePf f))), (11, .int .i64 fs.length), (12, .int .i64 i)], [.buf 1 0 b, .buf 1 0 (b ++ bl (fldsB (fs.take i)))], [0, 1, 2]⟩) (fun i => fs.length - i) [] 0 (Nat.zero_le _) ?_ (fun i hi _ _ => ?_)
  · rw [if_pos rfl]
    refine Go.VG.Sub.mk rfl ?_ ?_ ?_ ?_ <;> (repeat' first | trivial | rfl | exact eqS _ _ | apply andI | apply eqA | apply eqB | apply eqC | apply eqD | apply eqE | apply eqF | apply eqG | apply eqH | apply eqI)
    rw [e1]
  have hm : i < fs.length → fs.getD i default ∈ fs := fun h => by
    rw [List.getD_eq_getElem?_getD, List.getElem?_eq_getElem h]; exact List.getElem_mem h
  have hT := fun h => hf _ (hm h)
  have hli := hl i
  by_cases hi0 : i = 0
  · subst hi0
    rw [if_pos rfl]
    repeat' ((conv => whnf); first | with_reducible (first | refine go1 (fun j q h => ?_) fun h => ?_ | refine go2 ⟨rfl, rfl⟩ (fun h => ?_) fun j h => ?_ | refine go2 ?_ (fun h => ?_) fun j h => ?_ | refine goQ ?_ (fun h => ?_) fun h => ?_) | apply go3 | apply go4 | apply go5 | ((first | apply go6 | apply go7 | apply go8 | apply go9 | apply goA) <;> intro h) | with_reducible (first | refine IdxK.mk _ rfl ?_ | refine call_ite (fun h => ?_) fun h => ?_ | refine goB ?_ fun hc => ?_ | refine goC ?_ fun hc => ?_ | refine goD ?_ fun hc => ?_ | refine goE ?_ fun hc => ?_ | apply goF | apply goG | refine goH ?_ fun b hb => ?_) | apply goI | apply goJ | apply goK | apply goL | apply goM | apply goN | apply goO | with_reducible refine goP ?_)
    all_goals try conv => whnf
    all_goals try (refine Side.mk ?_; try dsimp only)
    · exact Int.le_refl 0
    · exact h0
    · refine ⟨67, by show mtP _ _ _; unfold mtP; simp, ?_⟩
      repeat' ((conv => whnf); first | with_reducible (first | refine go1 (fun j q h => ?_) fun h => ?_ | refine go2 ⟨rfl, rfl⟩ (fun h => ?_) fun j h => ?_ | refine go2 ?_ (fun h => ?_) fun j h => ?_ | refine goQ ?_ (fun h => ?_) fun h => ?_) | apply go3 | apply go4 | apply go5 | ((first | apply go6 | apply go7 | apply go8 | apply go9 | apply goA) <;> intro h) | with_reducible (first | refine IdxK.mk _ rfl ?_ | refine call_ite (fun h => ?_) fun h => ?_ | refine goB ?_ fun hc => ?_ | refine goC ?_ fun hc => ?_ | refine goD ?_ fun hc => ?_ | refine goE ?_ fun hc => ?_ | apply goF | apply goG | refine goH ?_ fun b hb => ?_) | apply goI | apply goJ | apply goK | apply goL | apply goM | apply goN | apply goO | with_reducible refine goP ?_)
      all_goals try conv => whnf
      all_goals try (refine Side.mk ?_; try dsimp only)
      · exact ⟨trivial, by have := hl 0; rw [List.length_append] at this; omega, Nat.le_trans (hT h0) (by decide)⟩
      refine ⟨[], 1, by omega, ?_, by omega⟩
      rw [if_neg (by decide)]
      refine Go.VG.Sub.mk rfl ?_ ?_ ?_ ?_ <;> (repeat' first | trivial | rfl | exact eqS _ _ | apply andI | apply eqA | apply eqB | apply eqC | apply eqD | apply eqE | apply eqF | apply eqG | apply eqH | apply eqI)
      rw [show fldsB (List.take 1 fs) = _ from fldsB_next h0]; rfl
    · exfalso; omega
  rw [if_neg hi0]
  repeat' ((conv => whnf); first | with_reducible (first | refine go1 (fun j q h => ?_) fun h => ?_ | refine go2 ⟨rfl, rfl⟩ (fun h => ?_) fun j h => ?_ | refine go2 ?_ (fun h => ?_) fun j h => ?_ | refine goQ ?_ (fun h => ?_) fun h => ?_) | apply go3 | apply go4 | apply go5 | ((first | apply go6 | apply go7 | apply go8 | apply go9 | apply goA) <;> intro h) | with_reducible (first | refine IdxK.mk _ rfl ?_ | refine call_ite (fun h => ?_) fun h => ?_ | refine goB ?_ fun hc => ?_ | refine goC ?_ fun hc => ?_ | refine goD ?_ fun hc => ?_ | refine goE ?_ fun hc => ?_ | apply goF | apply goG | refine goH ?_ fun b hb => ?_) | apply goI | apply goJ | apply goK | apply goL | apply goM | apply goN | apply goO | with_reducible refine goP ?_)
  all_goals try conv => whnf
  all_goals try (refine Side.mk ?_; try dsimp only)
  · omega
  · omega
  · refine ⟨67, by show mtP _ _ _; unfold mtP; simp, ?_⟩
    repeat' ((conv => whnf); first | with_reducible (first | refine go1 (fun j q h => ?_) fun h => ?_ | refine go2 ⟨rfl, rfl⟩ (fun h => ?_) fun j h => ?_ | refine go2 ?_ (fun h => ?_) fun j h => ?_ | refine goQ ?_ (fun h => ?_) fun h => ?_) | apply go3 | apply go4 | apply go5 | ((first | apply go6 | apply go7 | apply go8 | apply go9 | apply goA) <;> intro h) | with_reducible (first | refine IdxK.mk _ rfl ?_ | refine call_ite (fun h => ?_) fun h => ?_ | refine goB ?_ fun hc => ?_ | refine goC ?_ fun hc => ?_ | refine goD ?_ fun hc => ?_ | refine goE ?_ fun hc => ?_ | apply goF | apply goG | refine goH ?_ fun b hb => ?_) | apply goI | apply goJ | apply goK | apply goL | apply goM | apply goN | apply goO | with_reducible refine goP ?_)
    all_goals try conv => whnf
    all_goals try (refine Side.mk ?_; try dsimp only)
    all_goals (try simp only [Int.toNat_natCast] at *)
    · exact ⟨trivial, hli, Nat.le_trans (hT (by omega)) (by decide)⟩
    refine ⟨[.swap 1 2], i + 1, by omega, ?_, by omega⟩
    rw [if_neg (by omega), show IntKind.i64.wrap ((i : Int) + 1) = ((i + 1 : Nat) : Int) by rw [wi64]; omega]
    refine Go.VG.Sub.mk rfl ?_ ?_ ?_ ?_ <;> (repeat' first | trivial | rfl | exact eqS _ _ | apply andI | apply eqA | apply eqB | apply eqC | apply eqD | apply eqE | apply eqF | apply eqG | apply eqH | apply eqI)
    rw [fldsB_next (by omega), bl_append, List.append_assoc]
  · have hi2 : i = fs.length := by omega
    subst hi2
    rw [List.take_length]
    refine EndP.mk [] ?_ <;> (repeat' first | trivial | rfl | exact eqS _ _ | apply andI | apply eqA | apply eqB | apply eqC | apply eqD | apply eqE | apply eqF | apply eqG | apply eqH | apply eqI)
end Go.Proofs.YtgiocgghmlmgfaaDoor
