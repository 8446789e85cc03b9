/-
  A message that is written: parts are added.
-/
import Derived.Test.YtkkfdkfopdjomaaDoorMWb
set_option linter.unusedSimpArgs false
set_option linter.unusedVariables false
set_option maxHeartbeats 4000000
namespace Go.Proofs.YtkkfdkfopdjomaaDoor
open Go Go.VG
set_option maxRecDepth 100000
abbrev eMv (n : Int) (L : List V) : List O := [.cells [.buf 1, .int .i64 n], .buf 1 0 L]
theorem f_addF (n : Int) (L : List V) (f : Pf) (hn : 0 ≤ n ∧ n ≤ 1000000000) (hL : L.length ≤ 1000000) (hf : f.text.length ≤ 1000000) (hu : 0 ≤ f.num ∧ f.num ≤ 18446744073709551615) :
    OK 45 [.ptr 0 0, .iface 112 (ePf f)] (eMv n L) (.tuple []) (some (eMv (n + (fldB f).length) (L ++ [.iface 112 (ePf f)]))) := by
  refine funOK_of_vc (C := cxz [(106, sm_mfSize)] []) (goodz ⟨k_mfSize, trivial⟩) (fn := Tryd.f45) rfl rfl rfl rfl fun hw _ => ?_
  have hlen := fldB_len (f := f) hu (by omega)
  have hwn : IntKind.i64.wrap (n + ((fldB f).length : Int)) = n + (fldB f).length := by rw [wi64]; omega
  repeat' ((conv => whnf); first | with_reducible (first | refine go1 (fun j q h => ?_) fun h => ?_ | refine go2 ⟨rfl, rfl⟩ (fun h => ?_) fun j h => ?_ | refine go2 ?_ (fun h => ?_) fun j h => ?_ | refine goQ ?_ (fun h => ?_) fun h => ?_) | apply go3 | apply go4 | apply go5 | ((first | apply go6 | apply go7 | apply go8 | apply go9 | apply goA) <;> intro h) | with_reducible (first | refine IdxK.mk _ rfl ?_ | refine call_ite (fun h => ?_) fun h => ?_ | refine goB ?_ fun hc => ?_ | refine goC ?_ fun hc => ?_ | refine goD ?_ fun hc => ?_ | refine goE ?_ fun hc => ?_ | apply goF | apply goG | refine goH ?_ fun b hb => ?_) | apply goI | apply goJ | apply goK | apply goL | apply goM | apply goN | apply goO | with_reducible refine goP ?_)
  all_goals try conv => whnf
  all_goals try (refine Side.mk ?_; try dsimp only)
  · simp only [List.length_singleton]; omega
  · refine ⟨106, by show mtP _ _ _; unfold mtP; simp, ?_⟩
    repeat' ((conv => whnf); first | with_reducible (first | refine go1 (fun j q h => ?_) fun h => ?_ | refine go2 ⟨rfl, rfl⟩ (fun h => ?_) fun j h => ?_ | refine go2 ?_ (fun h => ?_) fun j h => ?_ | refine goQ ?_ (fun h => ?_) fun h => ?_) | apply go3 | apply go4 | apply go5 | ((first | apply go6 | apply go7 | apply go8 | apply go9 | apply goA) <;> intro h) | with_reducible (first | refine IdxK.mk _ rfl ?_ | refine call_ite (fun h => ?_) fun h => ?_ | refine goB ?_ fun hc => ?_ | refine goC ?_ fun hc => ?_ | refine goD ?_ fun hc => ?_ | refine goE ?_ fun hc => ?_ | apply goF | apply goG | refine goH ?_ fun b hb => ?_) | apply goI | apply goJ | apply goK | apply goL | apply goM | apply goN | apply goO | with_reducible refine goP ?_)
    all_goals try conv => whnf
    all_goals try (refine Side.mk ?_; try dsimp only)
    · exact ⟨trivial, by omega⟩
    · rw [hwn]
      refine EndP.mk [] ?_ <;> (repeat' first | trivial | rfl | exact eqS _ _ | apply andI | apply eqA | apply eqB | apply eqC | apply eqD | apply eqE | apply eqF | apply eqG | apply eqH | apply eqI)
theorem f_addS (n : Int) (L : List V) (no : Int) (c : Bool) (l : List V) (m : Int) (hn : 0 ≤ n ∧ n ≤ 1000000000) (hL : L.length ≤ 1000000) (hm : 0 ≤ m ∧ m ≤ 100000000) :
    OK 45 [.ptr 0 0, .iface 97 (.agg [.int .i64 no, .int .i64 2, .box [.list c 1 l, .int .i64 m] 0, .int .i64 m])] (eMv n L) (.tuple []) (some (eMv (n + ((tagB no 2).length + (vput m.toNat).length + m.toNat : Nat)) (L ++ [.iface 97 (.agg [.int .i64 no, .int .i64 2, .box [.list c 1 l, .int .i64 m] 0, .int .i64 m])]))) := by
  refine funOK_of_vc (C := cxz [(98, sm_miSize)] []) (goodz ⟨k_miSize, trivial⟩) (fn := Tryd.f45) rfl rfl rfl rfl fun hw _ => ?_
  have ht := tagB_len no 2
  have h4 := vput_len (u := m.toNat) (by omega)
  have hwn : IntKind.i64.wrap (n + (((tagB no 2).length + (vput m.toNat).length + m.toNat : Nat) : Int)) = n + ((tagB no 2).length + (vput m.toNat).length + m.toNat : Nat) := by rw [wi64]; omega
  repeat' ((conv => whnf); first | with_reducible (first | refine go1 (fun j q h => ?_) fun h => ?_ | refine go2 ⟨rfl, rfl⟩ (fun h => ?_) fun j h => ?_ | refine go2 ?_ (fun h => ?_) fun j h => ?_ | refine goQ ?_ (fun h => ?_) fun h => ?_) | apply go3 | apply go4 | apply go5 | ((first | apply go6 | apply go7 | apply go8 | apply go9 | apply goA) <;> intro h) | with_reducible (first | refine IdxK.mk _ rfl ?_ | refine call_ite (fun h => ?_) fun h => ?_ | refine goB ?_ fun hc => ?_ | refine goC ?_ fun hc => ?_ | refine goD ?_ fun hc => ?_ | refine goE ?_ fun hc => ?_ | apply goF | apply goG | refine goH ?_ fun b hb => ?_) | apply goI | apply goJ | apply goK | apply goL | apply goM | apply goN | apply goO | with_reducible refine goP ?_)
  all_goals try conv => whnf
  all_goals try (refine Side.mk ?_; try dsimp only)
  · simp only [List.length_singleton]; omega
  · refine ⟨98, by show mtP _ _ _; unfold mtP; simp, ?_⟩
    repeat' ((conv => whnf); first | with_reducible (first | refine go1 (fun j q h => ?_) fun h => ?_ | refine go2 ⟨rfl, rfl⟩ (fun h => ?_) fun j h => ?_ | refine go2 ?_ (fun h => ?_) fun j h => ?_ | refine goQ ?_ (fun h => ?_) fun h => ?_) | apply go3 | apply go4 | apply go5 | ((first | apply go6 | apply go7 | apply go8 | apply go9 | apply goA) <;> intro h) | with_reducible (first | refine IdxK.mk _ rfl ?_ | refine call_ite (fun h => ?_) fun h => ?_ | refine goB ?_ fun hc => ?_ | refine goC ?_ fun hc => ?_ | refine goD ?_ fun hc => ?_ | refine goE ?_ fun hc => ?_ | apply goF | apply goG | refine goH ?_ fun b hb => ?_) | apply goI | apply goJ | apply goK | apply goL | apply goM | apply goN | apply goO | with_reducible refine goP ?_)
    all_goals try conv => whnf
    all_goals try (refine Side.mk ?_; try dsimp only)
    · omega
    · rw [hwn]
      refine EndP.mk [] ?_ <;> (repeat' first | trivial | rfl | exact eqS _ _ | apply andI | apply eqA | apply eqB | apply eqC | apply eqD | apply eqE | apply eqF | apply eqG | apply eqH | apply eqI)
/-- what is added of a field -/
def fK (f : Pf) : List Pf := if mayT f.no f.wi = true then [f] else []
theorem fK_y {f : Pf} (h : mayT f.no f.wi = true) : fK f = [f] := if_pos h
theorem fK_n {f : Pf} (h : ¬ mayT f.no f.wi = true) : fK f = [] := if_neg h
theorem flds_one (f : Pf) : fldsB [f] = fldB f := by simp [fldsB]
structure AOk (n : Int) (L : List V) (f : Pf) : Prop where
  n : 0 ≤ n ∧ n ≤ 1000000000
  l : L.length ≤ 1000000
  t : f.text.length ≤ 1000000
def sm_mAddF : Sm := fun args σ => match args, σ with
  | [.ptr 0 0, .iface 112 (.agg [.int .i64 no, .int .i64 wi, .int .u64 u, .str t])], [.cells [.buf 1, .int .i64 n], .buf 1 0 L] => some (AOk n L ⟨no, wi, u, t⟩ ∧ 0 ≤ u ∧ u ≤ 18446744073709551615, .tuple [], some (eMv (n + (fldB ⟨no, wi, u, t⟩).length) (L ++ [.iface 112 (ePf ⟨no, wi, u, t⟩)])))
  | _, _ => none
theorem k_mAddF : SOK 45 sm_mAddF := by
  intro args sg pre x r he hp
  unfold sm_mAddF at he
  split at he <;> cases he
  exact f_addF _ _ _ hp.1.n hp.1.l hp.1.t hp.2
theorem f_sure (n : Int) (L : List V) (f : Pf) (hA : AOk n L f) : OK 46 [.ptr 0 0, ePf f] (eMv n L) (.tuple []) (some (eMv (n + (fldsB (fK f)).length) (L ++ eFs (fK f)))) := by
  refine funOK_of_vc (C := cx [(44, sm_pMay), (45, sm_mAddF)]) (good ⟨k_pMay, k_mAddF, trivial⟩) (fn := Tryd.f46) rfl rfl rfl rfl fun hw _ => ?_
  have hu : 0 ≤ f.num ∧ f.num ≤ 18446744073709551615 := hw.2.1.2.2.1
  repeat' ((conv => whnf); first | with_reducible (first | refine go1 (fun j q h => ?_) fun h => ?_ | refine go2 ⟨rfl, rfl⟩ (fun h => ?_) fun j h => ?_ | refine go2 ?_ (fun h => ?_) fun j h => ?_ | refine goQ ?_ (fun h => ?_) fun h => ?_) | apply go3 | apply go4 | apply go5 | ((first | apply go6 | apply go7 | apply go8 | apply go9 | apply goA) <;> intro h) | with_reducible (first | refine IdxK.mk _ rfl ?_ | refine call_ite (fun h => ?_) fun h => ?_ | refine goB ?_ fun hc => ?_ | refine goC ?_ fun hc => ?_ | refine goD ?_ fun hc => ?_ | refine goE ?_ fun hc => ?_ | apply goF | apply goG | refine goH ?_ fun b hb => ?_) | apply goI | apply goJ | apply goK | apply goL | apply goM | apply goN | apply goO | with_reducible refine goP ?_)
  all_goals try conv => whnf
  all_goals try (refine Side.mk ?_; try dsimp only)
  · exact ⟨hA, hu⟩
  · have hm : mayT f.no f.wi = true := decide_eq_true (by assumption)
    rw [fK_y hm, flds_one]
    refine EndP.mk [] ?_ <;> (repeat' first | trivial | rfl | exact eqS _ _ | apply andI | apply eqA | apply eqB | apply eqC | apply eqD | apply eqE | apply eqF | apply eqG | apply eqH | apply eqI)
  · have hm : ¬ mayT f.no f.wi = true := fun q => by have := of_decide_eq_true q; contradiction
    rw [fK_n hm, show n + ((fldsB []).length : Int) = n from Int.add_zero n, show L ++ eFs [] = L from List.append_nil L]
    refine EndP.mk [] ?_ <;> (repeat' first | trivial | rfl | exact eqS _ _ | apply andI | apply eqA | apply eqB | apply eqC | apply eqD | apply eqE | apply eqF | apply eqG | apply eqH | apply eqI)
def sm_mSure : Sm := fun args σ => match args, σ with
  | [.ptr 0 0, .agg [.int .i64 no, .int .i64 wi, .int .u64 u, .str t]], [.cells [.buf 1, .int .i64 n], .buf 1 0 L] => some (AOk n L ⟨no, wi, u, t⟩, .tuple [], some (eMv (n + (fldsB (fK ⟨no, wi, u, t⟩)).length) (L ++ eFs (fK ⟨no, wi, u, t⟩))))
  | _, _ => none
-- #name mSure (*pwrite.Message).sure
theorem k_mSure : SOK 46 sm_mSure := by
  intro args sg pre x r he hp
  unfold sm_mSure at he
  split at he <;> cases he
  exact f_sure _ _ _ hp
def fSure (no wi u : Int) : List Pf := if wi = 2 then [] else fK ⟨no, wi, u, []⟩
theorem f_mSureN_1 (n : Int) (L : List V) (no wi u : Int) (hp : AOk n L ⟨no, wi, u, []⟩) : OK 29 ([.ptr 0 0, .int .i64 no, .int .i64 wi, .int .u64 u]) ([.cells [.buf 1, .int .i64 n], .buf 1 0 L]) (.tuple []) (some (eMv (n + (fldsB (fSure no wi u)).length) (L ++ eFs (fSure no wi u)))) := by
  refine funOK_of_vc (C := cx [(46, sm_mSure)]) (good ⟨k_mSure, trivial⟩) (fn := Tryd.f29) rfl rfl rfl rfl fun hw hs => ?_
  repeat' ((conv => whnf); first | with_reducible (first | refine go1 (fun j q h => ?_) fun h => ?_ | refine go2 ⟨rfl, rfl⟩ (fun h => ?_) fun j h => ?_ | refine go2 ?_ (fun h => ?_) fun j h => ?_ | refine goQ ?_ (fun h => ?_) fun h => ?_) | apply go3 | apply go4 | apply go5 | ((first | apply go6 | apply go7 | apply go8 | apply go9 | apply goA) <;> intro h) | with_reducible (first | refine IdxK.mk _ rfl ?_ | refine call_ite (fun h => ?_) fun h => ?_ | refine goB ?_ fun hc => ?_ | refine goC ?_ fun hc => ?_ | refine goD ?_ fun hc => ?_ | refine goE ?_ fun hc => ?_ | apply goF | apply goG | refine goH ?_ fun b hb => ?_) | apply goI | apply goJ | apply goK | apply goL | apply goM | apply goN | apply goO | with_reducible refine goP ?_)
  all_goals try conv => whnf
  all_goals try (refine Side.mk ?_; try dsimp only)
  · unfold fSure
    rw [if_pos (by assumption), show n + ((fldsB []).length : Int) = n from Int.add_zero n, show L ++ eFs [] = L from List.append_nil L]
    refine EndP.mk [] ?_ <;> (repeat' first | trivial | rfl | exact eqS _ _ | apply andI | apply eqA | apply eqB | apply eqC | apply eqD | apply eqE | apply eqF | apply eqG | apply eqH | apply eqI)
  · exact hp
  · unfold fSure
    rw [if_neg (by assumption)]
    refine EndP.mk [] ?_ <;> (repeat' first | trivial | rfl | exact eqS _ _ | apply andI | apply eqA | apply eqB | apply eqC | apply eqD | apply eqE | apply eqF | apply eqG | apply eqH | apply eqI)
def sm_mSureN : Sm := fun args σ => match args, σ with
  | [.ptr 0 0, .int .i64 no, .int .i64 wi, .int .u64 u], [.cells [.buf 1, .int .i64 n], .buf 1 0 L] => some (AOk n L ⟨no, wi, u, []⟩, .tuple [], some (eMv (n + (fldsB (fSure no wi u)).length) (L ++ eFs (fSure no wi u))))
  | _, _ => none
theorem k_mSureN : SOK 29 sm_mSureN := by
  intro args sg pre x r he hp
  unfold sm_mSureN at he
  split at he <;> cases he
  · exact f_mSureN_1 (hp := hp) ..
theorem f_mSureT_1 (n : Int) (L : List V) (no : Int) (t : List UInt8) (hp : AOk n L ⟨no, 2, 0, t⟩) : OK 28 ([.ptr 0 0, .int .i64 no, .str t]) ([.cells [.buf 1, .int .i64 n], .buf 1 0 L]) (.tuple []) (some (eMv (n + (fldsB (fK ⟨no, 2, 0, t⟩)).length) (L ++ eFs (fK ⟨no, 2, 0, t⟩)))) := by
  refine funOK_of_vc (C := cx [(46, sm_mSure)]) (good ⟨k_mSure, trivial⟩) (fn := Tryd.f28) rfl rfl rfl rfl fun hw hs => ?_
  repeat' ((conv => whnf); first | with_reducible (first | refine go1 (fun j q h => ?_) fun h => ?_ | refine go2 ⟨rfl, rfl⟩ (fun h => ?_) fun j h => ?_ | refine go2 ?_ (fun h => ?_) fun j h => ?_ | refine goQ ?_ (fun h => ?_) fun h => ?_) | apply go3 | apply go4 | apply go5 | ((first | apply go6 | apply go7 | apply go8 | apply go9 | apply goA) <;> intro h) | with_reducible (first | refine IdxK.mk _ rfl ?_ | refine call_ite (fun h => ?_) fun h => ?_ | refine goB ?_ fun hc => ?_ | refine goC ?_ fun hc => ?_ | refine goD ?_ fun hc => ?_ | refine goE ?_ fun hc => ?_ | apply goF | apply goG | refine goH ?_ fun b hb => ?_) | apply goI | apply goJ | apply goK | apply goL | apply goM | apply goN | apply goO | with_reducible refine goP ?_)
  all_goals try conv => whnf
  all_goals try (refine Side.mk ?_; try dsimp only)
  · exact hp
  · refine EndP.mk [] ?_ <;> (repeat' first | trivial | rfl | exact eqS _ _ | apply andI | apply eqA | apply eqB | apply eqC | apply eqD | apply eqE | apply eqF | apply eqG | apply eqH | apply eqI)
def sm_mSureT : Sm := fun args σ => match args, σ with
  | [.ptr 0 0, .int .i64 no, .str t], [.cells [.buf 1, .int .i64 n], .buf 1 0 L] => some (AOk n L ⟨no, 2, 0, t⟩, .tuple [], some (eMv (n + (fldsB (fK ⟨no, 2, 0, t⟩)).length) (L ++ eFs (fK ⟨no, 2, 0, t⟩))))
  | _, _ => none
theorem k_mSureT : SOK 28 sm_mSureT := by
  intro args sg pre x r he hp
  unfold sm_mSureT at he
  split at he <;> cases he
  · exact f_mSureT_1 (hp := hp) ..
end Go.Proofs.YtkkfdkfopdjomaaDoor
