/-
  A message that is written: it is added to another one, and goes on by itself.
-/
import Derived.Test.YtjkbahllghofoaaMXb
import Derived.Test.YtjkbahllghofoaaMWh
set_option linter.unusedSimpArgs false
set_option linter.unusedVariables false
set_option maxHeartbeats 4000000
namespace Go.Proofs.Ytjkbahllghofoaa
open Go Go.VG
set_option maxRecDepth 100000
theorem f_sureSubD (n : Int) (L : List V) (no : Int) (m : Int) (q : Nat) (l : List V) (hS : SOk n L m) (hM : mayT no 2 = true) :
    OK 8 [.ptr 0 0, .int .i64 no, .ptr 1 0] [.cells [.buf 2, .int .i64 n], .cells [.buf 3, .int .i64 m], .buf 1 0 L, .buf 1 q l] (.tuple []) (some [.cells [.buf 2, .int .i64 (n + ((tagB no 2).length + (vput m.toNat).length + m.toNat : Nat))], .cells [.buf 3, .int .i64 m], .buf 1 0 (L ++ [.iface 45 (eIn true no l m)]), .buf 1 l.length l]) := by
  refine funOK_of_vc (C := cxh [(15, sm_pMay), (16, sm_mAddS)] [(3, [.fbx 5])]) (good ⟨k_pMay, k_mAddS, trivial⟩) (fn := Try.f8) rfl rfl rfl rfl fun hw _ => ?_
  repeat' ((conv => whnf); first | with_reducible (first | refine go1 (fun j q h => ?_) fun h => ?_ | refine go2 ⟨rfl, rfl⟩ (fun h => ?_) fun j h => ?_ | refine go2 ?_ (fun h => ?_) fun j h => ?_ | refine goQ ?_ (fun h => ?_) fun h => ?_) | apply go3 | apply go4 | apply go5 | ((first | apply go6 | apply go7 | apply go8 | apply go9 | apply goA) <;> intro h) | with_reducible (first | refine IdxK.mk _ rfl ?_ | refine call_ite (fun h => ?_) fun h => ?_ | refine goB ?_ fun hc => ?_ | refine goC ?_ fun hc => ?_ | refine goD ?_ fun hc => ?_ | refine goE ?_ fun hc => ?_ | apply goF | apply goG | refine goH ?_ fun b hb => ?_) | apply goI | apply goJ | apply goK | apply goL | apply goM | apply goN | apply goO | with_reducible refine goP ?_)
  all_goals try conv => whnf
  all_goals try (refine Side.mk ?_; try dsimp only)
  · exact ⟨rfl, rfl⟩
  · exact ⟨rfl, hS.n, hS.l, hS.m⟩
  · refine EndP.mk [] ?_ <;> (repeat' first | trivial | rfl | exact eqS _ _ | apply andI | apply eqA | apply eqB | apply eqC | apply eqD | apply eqE | apply eqF | apply eqG | apply eqH | apply eqI)
  · exact absurd (of_decide_eq_true hM) ‹_›
theorem f_lAdd (n : Int) (L : List V) (q : Nat) (f : Pf) (hn : 0 ≤ n ∧ n ≤ 1000000000) (hL : L.length ≤ 1000000) (hf : f.text.length ≤ 1000000) (hu : 0 ≤ f.num ∧ f.num ≤ 18446744073709551615) :
    OK 16 [.ptr 0 0, .iface 58 (ePf f)] [.cells [.buf 1, .int .i64 n], .buf 1 q L] (.tuple []) (some [.cells [.buf 1, .int .i64 (n + (fldB f).length)], .buf 1 q (L ++ [.iface 58 (ePf f)])]) := by
  refine funOK_of_vc (C := cxz [(48, sm_mfSize)] []) (goodz ⟨k_mfSize, trivial⟩) (fn := Try.f16) rfl rfl rfl rfl fun hw _ => ?_
  have hlen := fldB_len (f := f) hu (by omega)
  have hwn : IntKind.i64.wrap (n + ((fldB f).length : Int)) = n + (fldB f).length := by rw [wi64]; omega
  repeat' ((conv => whnf); first | with_reducible (first | refine go1 (fun j q h => ?_) fun h => ?_ | refine go2 ⟨rfl, rfl⟩ (fun h => ?_) fun j h => ?_ | refine go2 ?_ (fun h => ?_) fun j h => ?_ | refine goQ ?_ (fun h => ?_) fun h => ?_) | apply go3 | apply go4 | apply go5 | ((first | apply go6 | apply go7 | apply go8 | apply go9 | apply goA) <;> intro h) | with_reducible (first | refine IdxK.mk _ rfl ?_ | refine call_ite (fun h => ?_) fun h => ?_ | refine goB ?_ fun hc => ?_ | refine goC ?_ fun hc => ?_ | refine goD ?_ fun hc => ?_ | refine goE ?_ fun hc => ?_ | apply goF | apply goG | refine goH ?_ fun b hb => ?_) | apply goI | apply goJ | apply goK | apply goL | apply goM | apply goN | apply goO | with_reducible refine goP ?_)
  all_goals try conv => whnf
  all_goals try (refine Side.mk ?_; try dsimp only)
  · simp only [List.length_singleton]; omega
  · refine ⟨48, by show mtP _ _ _; unfold mtP; simp, ?_⟩
    repeat' ((conv => whnf); first | with_reducible (first | refine go1 (fun j q h => ?_) fun h => ?_ | refine go2 ⟨rfl, rfl⟩ (fun h => ?_) fun j h => ?_ | refine go2 ?_ (fun h => ?_) fun j h => ?_ | refine goQ ?_ (fun h => ?_) fun h => ?_) | apply go3 | apply go4 | apply go5 | ((first | apply go6 | apply go7 | apply go8 | apply go9 | apply goA) <;> intro h) | with_reducible (first | refine IdxK.mk _ rfl ?_ | refine call_ite (fun h => ?_) fun h => ?_ | refine goB ?_ fun hc => ?_ | refine goC ?_ fun hc => ?_ | refine goD ?_ fun hc => ?_ | refine goE ?_ fun hc => ?_ | apply goF | apply goG | refine goH ?_ fun b hb => ?_) | apply goI | apply goJ | apply goK | apply goL | apply goM | apply goN | apply goO | with_reducible refine goP ?_)
    all_goals try conv => whnf
    all_goals try (refine Side.mk ?_; try dsimp only)
    · exact ⟨trivial, by omega⟩
    · rw [hwn]
      refine EndP.mk [] ?_ <;> (repeat' first | trivial | rfl | exact eqS _ _ | apply andI | apply eqA | apply eqB | apply eqC | apply eqD | apply eqE | apply eqF | apply eqG | apply eqH | apply eqI)
theorem f_lAdd_1 (n : Int) (L : List V) (q : Nat) (no wi u : Int) (t : List UInt8) (hp : AOk n L ⟨no, wi, u, t⟩ ∧ 0 ≤ u ∧ u ≤ 18446744073709551615) : OK 16 ([.ptr 0 0, .iface 58 (.agg [.int .i64 no, .int .i64 wi, .int .u64 u, .str t])]) ([.cells [.buf 1, .int .i64 n], .buf 1 q L]) (.tuple []) (some [.cells [.buf 1, .int .i64 (n + (fldB ⟨no, wi, u, t⟩).length)], .buf 1 q (L ++ [.iface 58 (ePf ⟨no, wi, u, t⟩)])]) := by
  exact f_lAdd n L q ⟨no, wi, u, t⟩ hp.1.n hp.1.l hp.1.t hp.2
def sm_lAdd : Sm := fun args σ => match args, σ with
  | [.ptr 0 0, .iface 58 (.agg [.int .i64 no, .int .i64 wi, .int .u64 u, .str t])], [.cells [.buf 1, .int .i64 n], .buf 1 q L] => some (AOk n L ⟨no, wi, u, t⟩ ∧ 0 ≤ u ∧ u ≤ 18446744073709551615, .tuple [], some [.cells [.buf 1, .int .i64 (n + (fldB ⟨no, wi, u, t⟩).length)], .buf 1 q (L ++ [.iface 58 (ePf ⟨no, wi, u, t⟩)])])
  | _, _ => none
theorem k_lAdd : SOK 16 sm_lAdd := by
  intro args sg pre x r he hp
  unfold sm_lAdd at he
  split at he <;> cases he
  · exact f_lAdd_1 (hp := hp) ..
/-- a text that comes late -/
abbrev lateF : Pf := ⟨3, 2, 0, [108, 97, 116, 101]⟩
theorem late_may : (1 ≤ (3 : Int) ∧ (3 : Int) ≤ 536870911) ∧ ((2 : Int) = 0 ∨ (2 : Int) = 1 ∨ (2 : Int) = 2 ∨ (2 : Int) = 5) := by decide
theorem f_lSure_1 (n : Int) (L : List V) (q : Nat) (hp : AOk n L lateF) : OK 21 ([.ptr 0 0, .agg [.int .i64 3, .int .i64 2, .int .u64 0, .str [108, 97, 116, 101]]]) ([.cells [.buf 1, .int .i64 n], .buf 1 q L]) (.tuple []) (some [.cells [.buf 1, .int .i64 (n + (fldB lateF).length)], .buf 1 q (L ++ [.iface 58 (ePf lateF)])]) := by
  refine funOK_of_vc (C := cx [(15, sm_pMay), (16, sm_lAdd)]) (good ⟨k_pMay, k_lAdd, trivial⟩) (fn := Try.f21) rfl rfl rfl rfl fun hw hs => ?_
  repeat' ((conv => whnf); first | with_reducible (first | refine go1 (fun j q h => ?_) fun h => ?_ | refine go2 ⟨rfl, rfl⟩ (fun h => ?_) fun j h => ?_ | refine go2 ?_ (fun h => ?_) fun j h => ?_ | refine goQ ?_ (fun h => ?_) fun h => ?_) | apply go3 | apply go4 | apply go5 | ((first | apply go6 | apply go7 | apply go8 | apply go9 | apply goA) <;> intro h) | with_reducible (first | refine IdxK.mk _ rfl ?_ | refine call_ite (fun h => ?_) fun h => ?_ | refine goB ?_ fun hc => ?_ | refine goC ?_ fun hc => ?_ | refine goD ?_ fun hc => ?_ | refine goE ?_ fun hc => ?_ | apply goF | apply goG | refine goH ?_ fun b hb => ?_) | apply goI | apply goJ | apply goK | apply goL | apply goM | apply goN | apply goO | with_reducible refine goP ?_)
  all_goals try conv => whnf
  all_goals try (refine Side.mk ?_; try dsimp only)
  all_goals first
    | exact ⟨hp, by decide⟩
    | (exact absurd late_may (by assumption))
    | (show EndP _ _ _ _ _ _
       refine EndP.mk [] ?_ <;> (repeat' first | trivial | rfl | exact eqS _ _ | apply andI | apply eqA | apply eqB | apply eqC | apply eqD | apply eqE | apply eqF | apply eqG | apply eqH | apply eqI)
       done)
def sm_lSure : Sm := fun args σ => match args, σ with
  | [.ptr 0 0, .agg [.int .i64 3, .int .i64 2, .int .u64 0, .str [108, 97, 116, 101]]], [.cells [.buf 1, .int .i64 n], .buf 1 q L] => some (AOk n L lateF, .tuple [], some [.cells [.buf 1, .int .i64 (n + (fldB lateF).length)], .buf 1 q (L ++ [.iface 58 (ePf lateF)])])
  | _, _ => none
theorem k_lSure : SOK 21 sm_lSure := by
  intro args sg pre x r he hp
  unfold sm_lSure at he
  split at he <;> cases he
  · exact f_lSure_1 (hp := hp) ..
theorem f_lSureT_1 (n : Int) (L : List V) (q : Nat) (hp : AOk n L lateF) : OK 17 ([.ptr 0 0, .int .i64 3, .str [108, 97, 116, 101]]) ([.cells [.buf 1, .int .i64 n], .buf 1 q L]) (.tuple []) (some [.cells [.buf 1, .int .i64 (n + (fldB lateF).length)], .buf 1 q (L ++ [.iface 58 (ePf lateF)])]) := by
  refine funOK_of_vc (C := cx [(21, sm_lSure)]) (good ⟨k_lSure, trivial⟩) (fn := Try.f17) rfl rfl rfl rfl fun hw hs => ?_
  repeat' ((conv => whnf); first | with_reducible (first | refine go1 (fun j q h => ?_) fun h => ?_ | refine go2 ⟨rfl, rfl⟩ (fun h => ?_) fun j h => ?_ | refine go2 ?_ (fun h => ?_) fun j h => ?_ | refine goQ ?_ (fun h => ?_) fun h => ?_) | apply go3 | apply go4 | apply go5 | ((first | apply go6 | apply go7 | apply go8 | apply go9 | apply goA) <;> intro h) | with_reducible (first | refine IdxK.mk _ rfl ?_ | refine call_ite (fun h => ?_) fun h => ?_ | refine goB ?_ fun hc => ?_ | refine goC ?_ fun hc => ?_ | refine goD ?_ fun hc => ?_ | refine goE ?_ fun hc => ?_ | apply goF | apply goG | refine goH ?_ fun b hb => ?_) | apply goI | apply goJ | apply goK | apply goL | apply goM | apply goN | apply goO | with_reducible refine goP ?_)
  all_goals try conv => whnf
  all_goals try (refine Side.mk ?_; try dsimp only)
  · exact hp
  · refine EndP.mk [] ?_ <;> (repeat' first | trivial | rfl | exact eqS _ _ | apply andI | apply eqA | apply eqB | apply eqC | apply eqD | apply eqE | apply eqF | apply eqG | apply eqH | apply eqI)
def sm_lSureT : Sm := fun args σ => match args, σ with
  | [.ptr 0 0, .int .i64 3, .str [108, 97, 116, 101]], [.cells [.buf 1, .int .i64 n], .buf 1 q L] => some (AOk n L lateF, .tuple [], some [.cells [.buf 1, .int .i64 (n + (fldB lateF).length)], .buf 1 q (L ++ [.iface 58 (ePf lateF)])])
  | _, _ => none
theorem k_lSureT : SOK 17 sm_lSureT := by
  intro args sg pre x r he hp
  unfold sm_lSureT at he
  split at he <;> cases he
  · exact f_lSureT_1 (hp := hp) ..
theorem f_lText_1 (n : Int) (L : List V) (q : Nat) (hp : AOk n L lateF) : OK 9 ([.ptr 0 0, .int .i64 3, .str [108, 97, 116, 101]]) ([.cells [.buf 1, .int .i64 n], .buf 1 q L]) (.tuple []) (some [.cells [.buf 1, .int .i64 (n + (fldB lateF).length)], .buf 1 q (L ++ [.iface 58 (ePf lateF)])]) := by
  refine funOK_of_vc (C := cx [(17, sm_lSureT)]) (good ⟨k_lSureT, trivial⟩) (fn := Try.f9) rfl rfl rfl rfl fun hw hs => ?_
  repeat' ((conv => whnf); first | with_reducible (first | refine go1 (fun j q h => ?_) fun h => ?_ | refine go2 ⟨rfl, rfl⟩ (fun h => ?_) fun j h => ?_ | refine go2 ?_ (fun h => ?_) fun j h => ?_ | refine goQ ?_ (fun h => ?_) fun h => ?_) | apply go3 | apply go4 | apply go5 | ((first | apply go6 | apply go7 | apply go8 | apply go9 | apply goA) <;> intro h) | with_reducible (first | refine IdxK.mk _ rfl ?_ | refine call_ite (fun h => ?_) fun h => ?_ | refine goB ?_ fun hc => ?_ | refine goC ?_ fun hc => ?_ | refine goD ?_ fun hc => ?_ | refine goE ?_ fun hc => ?_ | apply goF | apply goG | refine goH ?_ fun b hb => ?_) | apply goI | apply goJ | apply goK | apply goL | apply goM | apply goN | apply goO | with_reducible refine goP ?_)
  all_goals try conv => whnf
  all_goals try (refine Side.mk ?_; try dsimp only)
  · exact hp
  · refine EndP.mk [] ?_ <;> (repeat' first | trivial | rfl | exact eqS _ _ | apply andI | apply eqA | apply eqB | apply eqC | apply eqD | apply eqE | apply eqF | apply eqG | apply eqH | apply eqI)
def sm_lText : Sm := fun args σ => match args, σ with
  | [.ptr 0 0, .int .i64 3, .str [108, 97, 116, 101]], [.cells [.buf 1, .int .i64 n], .buf 1 q L] => some (AOk n L lateF, .tuple [], some [.cells [.buf 1, .int .i64 (n + (fldB lateF).length)], .buf 1 q (L ++ [.iface 58 (ePf lateF)])])
  | _, _ => none
theorem k_lText : SOK 9 sm_lText := by
  intro args sg pre x r he hp
  unfold sm_lText at he
  split at he <;> cases he
  · exact f_lText_1 (hp := hp) ..
theorem f_l19ofX_1 (t : List UInt8) (hp : t.length ≤ 1000) : OK 5 ([.str t]) ([]) (.ptr 0 0) (some (eMv ((fldsB (fText 1 t)).length : Nat) (eFs (fText 1 t)))) := by
  refine funOK_of_vc (C := cx [(7, sm_mNew), (9, sm_mText)]) (good ⟨k_mNew, k_mText, trivial⟩) (fn := Try.f5) rfl rfl rfl rfl fun hw hs => ?_
  repeat' ((conv => whnf); first | with_reducible (first | refine go1 (fun j q h => ?_) fun h => ?_ | refine go2 ⟨rfl, rfl⟩ (fun h => ?_) fun j h => ?_ | refine go2 ?_ (fun h => ?_) fun j h => ?_ | refine goQ ?_ (fun h => ?_) fun h => ?_) | apply go3 | apply go4 | apply go5 | ((first | apply go6 | apply go7 | apply go8 | apply go9 | apply goA) <;> intro h) | with_reducible (first | refine IdxK.mk _ rfl ?_ | refine call_ite (fun h => ?_) fun h => ?_ | refine goB ?_ fun hc => ?_ | refine goC ?_ fun hc => ?_ | refine goD ?_ fun hc => ?_ | refine goE ?_ fun hc => ?_ | apply goF | apply goG | refine goH ?_ fun b hb => ?_) | apply goI | apply goJ | apply goK | apply goL | apply goM | apply goN | apply goO | with_reducible refine goP ?_)
  all_goals try conv => whnf
  all_goals try (refine Side.mk ?_; try dsimp only)
  · exact ⟨by decide, by decide, by show t.length ≤ _; omega⟩
  · rw [show (0 : Int) + ((fldsB (fText 1 t)).length : Nat) = ((fldsB (fText 1 t)).length : Nat) from Int.zero_add _, List.nil_append]
    refine EndP.mk [] ?_ <;> (repeat' first | trivial | rfl | exact eqS _ _ | apply andI | apply eqA | apply eqB | apply eqC | apply eqD | apply eqE | apply eqF | apply eqG | apply eqH | apply eqI)
def sm_l19ofX : Sm := fun args σ => match args, σ with
  | [.str t], [] => some (t.length ≤ 1000, .ptr 0 0, some (eMv ((fldsB (fText 1 t)).length : Nat) (eFs (fText 1 t))))
  | _, _ => none
theorem k_l19ofX : SOK 5 sm_l19ofX := by
  intro args sg pre x r he hp
  unfold sm_l19ofX at he
  split at he <;> cases he
  · exact f_l19ofX_1 (hp := hp) ..
theorem f_r19Added_1 (no wi u : Int) (t : List UInt8) (hp : t.length ≤ 1000000000) : OK 10 ([.agg [.int .u8 2, .int .i64 no, .int .i64 wi, .int .u64 u, .str t]]) ([]) (.str (fldB ⟨no, 2, 0, t⟩)) (none) := by
  refine funOK_of_vc (C := cx [(18, sm_r16May), (19, sm_r17Text)]) (good ⟨k_r16May, k_r17Text, trivial⟩) (fn := Try.f10) rfl rfl rfl rfl fun hw hs => ?_
  repeat' ((conv => whnf); first | with_reducible (first | refine go1 (fun j q h => ?_) fun h => ?_ | refine go2 ⟨rfl, rfl⟩ (fun h => ?_) fun j h => ?_ | refine go2 ?_ (fun h => ?_) fun j h => ?_ | refine goQ ?_ (fun h => ?_) fun h => ?_) | apply go3 | apply go4 | apply go5 | ((first | apply go6 | apply go7 | apply go8 | apply go9 | apply goA) <;> intro h) | with_reducible (first | refine IdxK.mk _ rfl ?_ | refine call_ite (fun h => ?_) fun h => ?_ | refine goB ?_ fun hc => ?_ | refine goC ?_ fun hc => ?_ | refine goD ?_ fun hc => ?_ | refine goE ?_ fun hc => ?_ | apply goF | apply goG | refine goH ?_ fun b hb => ?_) | apply goI | apply goJ | apply goK | apply goL | apply goM | apply goN | apply goO | with_reducible refine goP ?_)
  all_goals try conv => whnf
  all_goals try (refine Side.mk ?_; try dsimp only)
  · exact ⟨trivial, hp⟩
  · refine EndP.mk [] ?_ <;> (repeat' first | trivial | rfl | exact eqS _ _ | apply andI | apply eqA | apply eqB | apply eqC | apply eqD | apply eqE | apply eqF | apply eqG | apply eqH | apply eqI)
def sm_r19Added : Sm := fun args σ => match args, σ with
  | [.agg [.int .u8 2, .int .i64 no, .int .i64 wi, .int .u64 u, .str t]], [] => some (t.length ≤ 1000000000, .str (fldB ⟨no, 2, 0, t⟩), none)
  | _, _ => none
theorem k_r19Added : SOK 10 sm_r19Added := by
  intro args sg pre x r he hp
  unfold sm_r19Added at he
  split at he <;> cases he
  · exact f_r19Added_1 (hp := hp) ..
end Go.Proofs.Ytjkbahllghofoaa
