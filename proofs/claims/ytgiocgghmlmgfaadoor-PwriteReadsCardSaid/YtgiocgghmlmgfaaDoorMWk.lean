/-
  What was written is read as fields, and laid again: the law's walk.
-/
import Derived.Test.YtgiocgghmlmgfaaDoorMWj
import Derived.Test.YtgiocgghmlmgfaaDoorPRk
set_option linter.unusedSimpArgs false
set_option linter.unusedVariables false
set_option maxHeartbeats 4000000
namespace Go.Proofs.YtgiocgghmlmgfaaDoor
open Go Go.VG
set_option maxRecDepth 100000
structure BsOk (n : Int) (L : List V) : Prop where
  n : n = ((msgB (L.map decPt)).length : Nat)
  l : L = (L.map decPt).map ePt
  p : Ps (L.map decPt)
def sm_bytesM (M : List Pt → List UInt8) : Sm := fun args σ => match args, σ with
  | [.ptr 0 0], [.cells [.buf 1, .int .i64 n], .buf 1 0 L] => some (BsOk n L, .str (M (L.map decPt)), some (eMv n L))
  | [.nilptr], [] => some (True, .str [], none)
  | _, _ => none
theorem f_bytesN : OK 8 [.nilptr] [] (.str []) none := by
  refine funOK_of_vc (C := cx []) (good trivial) (fn := Tryd.f8) rfl rfl rfl rfl fun hw _ => ?_
  repeat' ((conv => whnf); first | with_reducible (first | refine go1 (fun j q h => ?_) fun h => ?_ | refine go2 ⟨rfl, rfl⟩ (fun h => ?_) fun j h => ?_ | refine go2 ?_ (fun h => ?_) fun j h => ?_ | refine goQ ?_ (fun h => ?_) fun h => ?_) | apply go3 | apply go4 | apply go5 | ((first | apply go6 | apply go7 | apply go8 | apply go9 | apply goA) <;> intro h) | with_reducible (first | refine IdxK.mk _ rfl ?_ | refine call_ite (fun h => ?_) fun h => ?_ | refine goB ?_ fun hc => ?_ | refine goC ?_ fun hc => ?_ | refine goD ?_ fun hc => ?_ | refine goE ?_ fun hc => ?_ | apply goF | apply goG | refine goH ?_ fun b hb => ?_) | apply goI | apply goJ | apply goK | apply goL | apply goM | apply goN | apply goO | with_reducible refine goP ?_)
  all_goals try conv => whnf
  all_goals try (refine Side.mk ?_; try dsimp only)
  refine EndP.mk [] ?_ <;> (repeat' first | trivial | rfl | exact eqS _ _ | apply andI | apply eqA | apply eqB | apply eqC | apply eqD | apply eqE | apply eqF | apply eqG | apply eqH | apply eqI)
theorem k_bytesM {M : List Pt → List UInt8} (hM : ∀ P, M P = msgB P) : SOK 8 (sm_bytesM M) := by
  intro args sg pre x r he hp
  unfold sm_bytesM at he
  split at he <;> cases he
  · rw [hM]
    have := f_bytes _ hp.p
    rw [← hp.l, ← hp.n] at this
    exact this
  · exact f_bytesN
theorem f_mSizeW_1 (n : Int) (L : List V) (hp : True) : OK 14 ([.ptr 0 0]) ([.cells [.buf 1, .int .i64 n], .buf 1 0 L]) (.int .i64 n) (none) := by
  refine funOK_of_vc (C := cx []) (good trivial) (fn := Tryd.f14) rfl rfl rfl rfl fun hw hs => ?_
  repeat' ((conv => whnf); first | with_reducible (first | refine go1 (fun j q h => ?_) fun h => ?_ | refine go2 ⟨rfl, rfl⟩ (fun h => ?_) fun j h => ?_ | refine go2 ?_ (fun h => ?_) fun j h => ?_ | refine goQ ?_ (fun h => ?_) fun h => ?_) | apply go3 | apply go4 | apply go5 | ((first | apply go6 | apply go7 | apply go8 | apply go9 | apply goA) <;> intro h) | with_reducible (first | refine IdxK.mk _ rfl ?_ | refine call_ite (fun h => ?_) fun h => ?_ | refine goB ?_ fun hc => ?_ | refine goC ?_ fun hc => ?_ | refine goD ?_ fun hc => ?_ | refine goE ?_ fun hc => ?_ | apply goF | apply goG | refine goH ?_ fun b hb => ?_) | apply goI | apply goJ | apply goK | apply goL | apply goM | apply goN | apply goO | with_reducible refine goP ?_)
  all_goals try conv => whnf
  all_goals try (refine Side.mk ?_; try dsimp only)
  refine EndP.mk [] ?_ <;> (repeat' first | trivial | rfl | exact eqS _ _ | apply andI | apply eqA | apply eqB | apply eqC | apply eqD | apply eqE | apply eqF | apply eqG | apply eqH | apply eqI)
theorem f_mSizeW_2  (hp : True) : OK 14 ([.nilptr]) ([]) (.int .i64 0) (none) := by
  refine funOK_of_vc (C := cx []) (good trivial) (fn := Tryd.f14) rfl rfl rfl rfl fun hw hs => ?_
  repeat' ((conv => whnf); first | with_reducible (first | refine go1 (fun j q h => ?_) fun h => ?_ | refine go2 ⟨rfl, rfl⟩ (fun h => ?_) fun j h => ?_ | refine go2 ?_ (fun h => ?_) fun j h => ?_ | refine goQ ?_ (fun h => ?_) fun h => ?_) | apply go3 | apply go4 | apply go5 | ((first | apply go6 | apply go7 | apply go8 | apply go9 | apply goA) <;> intro h) | with_reducible (first | refine IdxK.mk _ rfl ?_ | refine call_ite (fun h => ?_) fun h => ?_ | refine goB ?_ fun hc => ?_ | refine goC ?_ fun hc => ?_ | refine goD ?_ fun hc => ?_ | refine goE ?_ fun hc => ?_ | apply goF | apply goG | refine goH ?_ fun b hb => ?_) | apply goI | apply goJ | apply goK | apply goL | apply goM | apply goN | apply goO | with_reducible refine goP ?_)
  all_goals try conv => whnf
  all_goals try (refine Side.mk ?_; try dsimp only)
  refine EndP.mk [] ?_ <;> (repeat' first | trivial | rfl | exact eqS _ _ | apply andI | apply eqA | apply eqB | apply eqC | apply eqD | apply eqE | apply eqF | apply eqG | apply eqH | apply eqI)
def sm_mSizeW : Sm := fun args σ => match args, σ with
  | [.ptr 0 0], [.cells [.buf 1, .int .i64 n], .buf 1 0 L] => some (True, .int .i64 n, none)
  | [.nilptr], [] => some (True, .int .i64 0, none)
  | _, _ => none
theorem k_mSizeW : SOK 14 sm_mSizeW := by
  intro args sg pre x r he hp
  unfold sm_mSizeW at he
  split at he <;> cases he
  · exact f_mSizeW_1 (hp := hp) ..
  · exact f_mSizeW_2 (hp := hp) ..
theorem f_mAddNil_1 (no wi u : Int) (t : List UInt8) (hp : True) : OK 27 ([.nilptr, .iface 76 (.agg [.int .i64 no, .int .i64 wi, .int .u64 u, .str t])]) ([]) (.tuple []) (none) := by
  refine funOK_of_vc (C := cx []) (good trivial) (fn := Tryd.f27) rfl rfl rfl rfl fun hw hs => ?_
  repeat' ((conv => whnf); first | with_reducible (first | refine go1 (fun j q h => ?_) fun h => ?_ | refine go2 ⟨rfl, rfl⟩ (fun h => ?_) fun j h => ?_ | refine go2 ?_ (fun h => ?_) fun j h => ?_ | refine goQ ?_ (fun h => ?_) fun h => ?_) | apply go3 | apply go4 | apply go5 | ((first | apply go6 | apply go7 | apply go8 | apply go9 | apply goA) <;> intro h) | with_reducible (first | refine IdxK.mk _ rfl ?_ | refine call_ite (fun h => ?_) fun h => ?_ | refine goB ?_ fun hc => ?_ | refine goC ?_ fun hc => ?_ | refine goD ?_ fun hc => ?_ | refine goE ?_ fun hc => ?_ | apply goF | apply goG | refine goH ?_ fun b hb => ?_) | apply goI | apply goJ | apply goK | apply goL | apply goM | apply goN | apply goO | with_reducible refine goP ?_)
  all_goals try conv => whnf
  all_goals try (refine Side.mk ?_; try dsimp only)
  refine EndP.mk [] ?_ <;> (repeat' first | trivial | rfl | exact eqS _ _ | apply andI | apply eqA | apply eqB | apply eqC | apply eqD | apply eqE | apply eqF | apply eqG | apply eqH | apply eqI)
def sm_mAddNil : Sm := fun args σ => match args, σ with
  | [.nilptr, .iface 76 (.agg [.int .i64 no, .int .i64 wi, .int .u64 u, .str t])], [] => some (True, .tuple [], none)
  | _, _ => none
theorem k_mAddNil : SOK 27 sm_mAddNil := by
  intro args sg pre x r he hp
  unfold sm_mAddNil at he
  split at he <;> cases he
  · exact f_mAddNil_1 (hp := hp) ..
theorem f_mSureNil_1 (no wi u : Int) (t : List UInt8) (hp : True) : OK 28 ([.nilptr, .agg [.int .i64 no, .int .i64 wi, .int .u64 u, .str t]]) ([]) (.tuple []) (none) := by
  refine funOK_of_vc (C := cx [(23, sm_pMay), (27, sm_mAddNil)]) (good ⟨k_pMay, k_mAddNil, trivial⟩) (fn := Tryd.f28) rfl rfl rfl rfl fun hw hs => ?_
  repeat' ((conv => whnf); first | with_reducible (first | refine go1 (fun j q h => ?_) fun h => ?_ | refine go2 ⟨rfl, rfl⟩ (fun h => ?_) fun j h => ?_ | refine go2 ?_ (fun h => ?_) fun j h => ?_ | refine goQ ?_ (fun h => ?_) fun h => ?_) | apply go3 | apply go4 | apply go5 | ((first | apply go6 | apply go7 | apply go8 | apply go9 | apply goA) <;> intro h) | with_reducible (first | refine IdxK.mk _ rfl ?_ | refine call_ite (fun h => ?_) fun h => ?_ | refine goB ?_ fun hc => ?_ | refine goC ?_ fun hc => ?_ | refine goD ?_ fun hc => ?_ | refine goE ?_ fun hc => ?_ | apply goF | apply goG | refine goH ?_ fun b hb => ?_) | apply goI | apply goJ | apply goK | apply goL | apply goM | apply goN | apply goO | with_reducible refine goP ?_)
  all_goals try conv => whnf
  all_goals try (refine Side.mk ?_; try dsimp only)
  · refine EndP.mk [] ?_ <;> (repeat' first | trivial | rfl | exact eqS _ _ | apply andI | apply eqA | apply eqB | apply eqC | apply eqD | apply eqE | apply eqF | apply eqG | apply eqH | apply eqI)
  · refine EndP.mk [] ?_ <;> (repeat' first | trivial | rfl | exact eqS _ _ | apply andI | apply eqA | apply eqB | apply eqC | apply eqD | apply eqE | apply eqF | apply eqG | apply eqH | apply eqI)
def sm_mSureNil : Sm := fun args σ => match args, σ with
  | [.nilptr, .agg [.int .i64 no, .int .i64 wi, .int .u64 u, .str t]], [] => some (True, .tuple [], none)
  | _, _ => none
theorem k_mSureNil : SOK 28 sm_mSureNil := by
  intro args sg pre x r he hp
  unfold sm_mSureNil at he
  split at he <;> cases he
  · exact f_mSureNil_1 (hp := hp) ..
theorem f_mSureTNil_1 (no : Int) (t : List UInt8) (hp : True) : OK 16 ([.nilptr, .int .i64 no, .str t]) ([]) (.tuple []) (none) := by
  refine funOK_of_vc (C := cx [(28, sm_mSureNil)]) (good ⟨k_mSureNil, trivial⟩) (fn := Tryd.f16) rfl rfl rfl rfl fun hw hs => ?_
  repeat' ((conv => whnf); first | with_reducible (first | refine go1 (fun j q h => ?_) fun h => ?_ | refine go2 ⟨rfl, rfl⟩ (fun h => ?_) fun j h => ?_ | refine go2 ?_ (fun h => ?_) fun j h => ?_ | refine goQ ?_ (fun h => ?_) fun h => ?_) | apply go3 | apply go4 | apply go5 | ((first | apply go6 | apply go7 | apply go8 | apply go9 | apply goA) <;> intro h) | with_reducible (first | refine IdxK.mk _ rfl ?_ | refine call_ite (fun h => ?_) fun h => ?_ | refine goB ?_ fun hc => ?_ | refine goC ?_ fun hc => ?_ | refine goD ?_ fun hc => ?_ | refine goE ?_ fun hc => ?_ | apply goF | apply goG | refine goH ?_ fun b hb => ?_) | apply goI | apply goJ | apply goK | apply goL | apply goM | apply goN | apply goO | with_reducible refine goP ?_)
  all_goals try conv => whnf
  all_goals try (refine Side.mk ?_; try dsimp only)
  refine EndP.mk [] ?_ <;> (repeat' first | trivial | rfl | exact eqS _ _ | apply andI | apply eqA | apply eqB | apply eqC | apply eqD | apply eqE | apply eqF | apply eqG | apply eqH | apply eqI)
def sm_mSureTNil : Sm := fun args σ => match args, σ with
  | [.nilptr, .int .i64 no, .str t], [] => some (True, .tuple [], none)
  | _, _ => none
theorem k_mSureTNil : SOK 16 sm_mSureTNil := by
  intro args sg pre x r he hp
  unfold sm_mSureTNil at he
  split at he <;> cases he
  · exact f_mSureTNil_1 (hp := hp) ..
theorem f_mTextW_1 (n : Int) (L : List V) (no : Int) (t : List UInt8) (hp : AOk n L ⟨no, 2, 0, t⟩) : OK 10 ([.ptr 0 0, .int .i64 no, .str t]) ([.cells [.buf 1, .int .i64 n], .buf 1 0 L]) (.tuple []) (some (eMv (n + (fldsB (fText no t)).length) (L ++ eFs (fText no t)))) := by
  exact f_mText_1 _ _ _ _ hp
theorem f_mTextW_2 (no : Int) (t : List UInt8) (hp : True) : OK 10 ([.nilptr, .int .i64 no, .str t]) ([]) (.tuple []) (none) := by
  refine funOK_of_vc (C := cx [(16, sm_mSureTNil)]) (good ⟨k_mSureTNil, trivial⟩) (fn := Tryd.f10) rfl rfl rfl rfl fun hw hs => ?_
  repeat' ((conv => whnf); first | with_reducible (first | refine go1 (fun j q h => ?_) fun h => ?_ | refine go2 ⟨rfl, rfl⟩ (fun h => ?_) fun j h => ?_ | refine go2 ?_ (fun h => ?_) fun j h => ?_ | refine goQ ?_ (fun h => ?_) fun h => ?_) | apply go3 | apply go4 | apply go5 | ((first | apply go6 | apply go7 | apply go8 | apply go9 | apply goA) <;> intro h) | with_reducible (first | refine IdxK.mk _ rfl ?_ | refine call_ite (fun h => ?_) fun h => ?_ | refine goB ?_ fun hc => ?_ | refine goC ?_ fun hc => ?_ | refine goD ?_ fun hc => ?_ | refine goE ?_ fun hc => ?_ | apply goF | apply goG | refine goH ?_ fun b hb => ?_) | apply goI | apply goJ | apply goK | apply goL | apply goM | apply goN | apply goO | with_reducible refine goP ?_)
  all_goals try conv => whnf
  all_goals try (refine Side.mk ?_; try dsimp only)
  · refine EndP.mk [] ?_ <;> (repeat' first | trivial | rfl | exact eqS _ _ | apply andI | apply eqA | apply eqB | apply eqC | apply eqD | apply eqE | apply eqF | apply eqG | apply eqH | apply eqI)
  · refine EndP.mk [] ?_ <;> (repeat' first | trivial | rfl | exact eqS _ _ | apply andI | apply eqA | apply eqB | apply eqC | apply eqD | apply eqE | apply eqF | apply eqG | apply eqH | apply eqI)
def sm_mTextW : Sm := fun args σ => match args, σ with
  | [.ptr 0 0, .int .i64 no, .str t], [.cells [.buf 1, .int .i64 n], .buf 1 0 L] => some (AOk n L ⟨no, 2, 0, t⟩, .tuple [], some (eMv (n + (fldsB (fText no t)).length) (L ++ eFs (fText no t))))
  | [.nilptr, .int .i64 no, .str t], [] => some (True, .tuple [], none)
  | _, _ => none
theorem k_mTextW : SOK 10 sm_mTextW := by
  intro args sg pre x r he hp
  unfold sm_mTextW at he
  split at he <;> cases he
  · exact f_mTextW_1 (hp := hp) ..
  · exact f_mTextW_2 (hp := hp) ..
theorem fldsB_take (l : List Pf) (i : Nat) : (fldsB (l.take i)).length ≤ (fldsB l).length := by
  have e : fldsB l = fldsB (l.take i) ++ fldsB (l.drop i) := by
    unfold fldsB
    rw [← List.flatten_append, ← List.map_append, List.take_append_drop]
  rw [e, List.length_append]; omega
theorem msgB_take (l : List Pt) (i : Nat) : (msgB (l.take i)).length ≤ (msgB l).length := by
  unfold msgB
  rw [List.map_take]
  exact fldsB_take _ i
theorem pt_f {f : Pf} (h : okF f) (ht : f.text.length ≤ 1000000) : PtOk (fP f) where
  f := h
  t := ht
  k := fun _ hf => absurd hf List.not_mem_nil
  m := (by decide : (fldsB []).length ≤ 90000000)
  i := fun i => by rw [show (fP f).fs = [] from rfl, List.take_nil]; decide
theorem pt_s {no : Int} {fs : List Pf} (h : mayT no 2 = true) (hk : ∀ f ∈ fs, f.text.length ≤ 1000000) (hm : (fldsB fs).length ≤ 90000000) : PtOk ⟨true, ⟨no, 2, 0, []⟩, fs⟩ where
  f := ⟨h, ⟨Int.le_refl 0, (by decide : (0 : Int) ≤ 18446744073709551615)⟩, by show (fldsB fs).length ≤ _; omega⟩
  t := Nat.zero_le _
  k := hk
  m := hm
  i := fun i => Nat.le_trans (fldsB_take _ i) hm
/-- parts that are told and read back -/
structure Pp (P : List Pt) : Prop where
  h : ∀ p ∈ P, PtOk p
  d : (P.map ePt).map decPt = P
theorem Pp.nil : Pp [] := ⟨fun _ h => absurd h List.not_mem_nil, rfl⟩
theorem Pp.app {P Q : List Pt} (h : Pp P) (k : Pp Q) : Pp (P ++ Q) where
  h := fun p hp => (List.mem_append.1 hp).elim (h.h p) (k.h p)
  d := by rw [List.map_append, List.map_append, h.d, k.d]
theorem map_self {α : Type} {g : α → α} : ∀ {l : List α}, l.map g = l → ∀ p ∈ l, g p = p
  | a :: l, h, p, hp => by
    rw [List.map_cons] at h
    injection h with h1 h2
    rcases List.mem_cons.1 hp with rfl | hp
    · exact h1
    · exact map_self h2 p hp
theorem Pp.ps {P : List Pt} (h : Pp P) (hb : (msgB P).length ≤ 600000000) (hl : P.length ≤ 1000000) : Ps P where
  h := fun p hp => by
    have e : P.map (fun p => decPt (ePt p)) = P := (List.map_map ..).symm.trans h.d
    rw [map_self e p hp]
    exact h.h p hp
  b := fun i => by
    have e : P.map (fun p => decPt (ePt p)) = P := (List.map_map ..).symm.trans h.d
    rw [e]
    exact Nat.le_trans (msgB_take P i) hb
  l := hl
theorem pp_f {l : List Pf} (h : ∀ f ∈ l, okF f ∧ f.text.length ≤ 1000000) : Pp (l.map fP) where
  h := fun p hp => by
    obtain ⟨f, hf, rfl⟩ := List.mem_map.1 hp
    exact pt_f (h f hf).1 (h f hf).2
  d := by rw [ePt_fP, dec_fP]
theorem pp_s {no : Int} {fs : List Pf} (hk : ∀ f ∈ fs, f.text.length ≤ 1000000) (hm : (fldsB fs).length ≤ 90000000) : Pp (sP no fs) where
  h := fun p hp => by
    unfold sP at hp
    split at hp
    · rename_i q
      rw [List.mem_singleton] at hp
      subst hp
      exact pt_s q hk hm
    · exact absurd hp List.not_mem_nil
  d := dec_sP no fs
theorem fK_ok {f : Pf} (hn : 0 ≤ f.num ∧ f.num ≤ 18446744073709551615) (ht : f.text.length ≤ 1000) : ∀ g ∈ fK f, okF g ∧ g.text.length ≤ 1000000 := by
  intro g hg
  unfold fK at hg
  split at hg
  · rename_i q
    rw [List.mem_singleton] at hg
    subst hg
    exact ⟨⟨q, hn, by omega⟩, by omega⟩
  · exact absurd hg List.not_mem_nil
theorem none_ok : ∀ g ∈ ([] : List Pf), okF g ∧ g.text.length ≤ 1000000 := fun _ h => absurd h List.not_mem_nil
theorem fText_len (no : Int) {t : List UInt8} (ht : t.length ≤ 1000) : (fldsB (fText no t)).length ≤ 1020 ∧ ∀ g ∈ fText no t, okF g ∧ g.text.length ≤ 1000000 := by
  unfold fText
  split
  · exact ⟨by decide, none_ok⟩
  · refine ⟨?_, fK_ok ⟨Int.le_refl 0, (by decide : (0 : Int) ≤ 18446744073709551615)⟩ ht⟩
    unfold fK
    split
    · rw [flds_one]
      exact Nat.le_trans (fldB_len (f := ⟨no, 2, 0, t⟩) ⟨Int.le_refl 0, (by decide : (0 : Int) ≤ 18446744073709551615)⟩ (by show t.length ≤ _; omega)) (by show 20 + t.length ≤ _; omega)
    · decide
theorem add_pp {o : MOp} (hn : 0 ≤ o.num ∧ o.num ≤ 18446744073709551615) (ht : o.text.length ≤ 1000) : Pp (addP o) := by
  have h1 := fText_len 1 ht
  have h2 := fun f hf => (h1.2 f hf).2
  have hS : Pp ((fSure o.no o.wi o.num).map fP) := by
    unfold fSure
    split
    · exact pp_f none_ok
    · exact pp_f (fK_ok hn (Nat.zero_le _))
  unfold addP
  split
  · exact hS
  split
  · unfold fNum
    split
    · exact pp_f none_ok
    · exact hS
  split
  · exact pp_f (fK_ok ⟨Int.le_refl 0, (by decide : (0 : Int) ≤ 18446744073709551615)⟩ ht)
  split
  · exact pp_f (fText_len _ ht).2
  split
  · exact pp_s h2 (by omega)
  split
  · exact pp_s h2 (by omega)
  · exact Pp.nil
theorem Pp.bs {P : List Pt} (h : Pp P) (hb : (msgB P).length ≤ 600000000) (hl : P.length ≤ 1000000) : BsOk ((msgB P).length : Nat) (P.map ePt) where
  n := by rw [h.d]
  l := by rw [h.d]
  p := by rw [h.d]; exact h.ps hb hl
def w19Q : List Pt := [⟨false, ⟨1, 0, 150, []⟩, []⟩, ⟨true, ⟨3, 2, 0, []⟩, [⟨2, 2, 0, [97]⟩]⟩, ⟨true, ⟨4, 2, 0, []⟩, []⟩]
abbrev w19L : List V := [] ++ eFs (fNum 1 0 150) ++ eFs (fNum 1 0 0) ++ sb0L 3 ([] ++ eFs (fText 2 [97])) (0 + (fldsB (fText 2 [97])).length) ++ sbL 4 [] 0
theorem w19_e : w19L = w19Q.map ePt := rfl
theorem w19_b : msgB w19Q = [8, 150, 1, 26, 3, 18, 1, 97, 34, 0] := by decide +kernel
theorem w19_p : Pp w19Q where
  h := by
    intro p hp
    simp only [w19Q, List.mem_cons, List.not_mem_nil, or_false] at hp
    rcases hp with rfl | rfl | rfl
    · exact pt_f (f := ⟨1, 0, 150, []⟩) ⟨by decide, by decide, by decide⟩ (by decide)
    · exact pt_s (by decide) (by simp) (by decide +kernel)
    · exact pt_s (by decide) (by simp) (by decide)
  d := rfl
theorem f_works19 {M : List Pt → List UInt8} (hM : ∀ P, M P = msgB P) : OK 4 [] [] (.bool true) none := by
  refine funOK_of_vc (C := cx [(5, sm_mNew), (10, sm_mTextW), (11, sm_mNum), (12, sm_mSub), (13, sm_mSureS), (8, sm_bytesM M), (14, sm_mSizeW)])
    (good ⟨k_mNew, k_mTextW, k_mNum, k_mSub, k_mSureS, k_bytesM hM, k_mSizeW, trivial⟩) (fn := Tryd.f4) rfl rfl rfl rfl fun hw hs => ?_
  have hL := w19_e
  have hB := hM w19Q
  rw [w19_b] at hB
  repeat' ((conv => whnf); first | with_reducible (first | refine go1 (fun j q h => ?_) fun h => ?_ | refine go2 ⟨rfl, rfl⟩ (fun h => ?_) fun j h => ?_ | refine go2 ?_ (fun h => ?_) fun j h => ?_ | refine goQ ?_ (fun h => ?_) fun h => ?_) | apply go3 | apply go4 | apply go5 | ((first | apply go6 | apply go7 | apply go8 | apply go9 | apply goA) <;> intro h) | with_reducible (first | refine IdxK.mk _ rfl ?_ | refine call_ite (fun h => ?_) fun h => ?_ | refine goB ?_ fun hc => ?_ | refine goC ?_ fun hc => ?_ | refine goD ?_ fun hc => ?_ | refine goE ?_ fun hc => ?_ | apply goF | apply goG | refine goH ?_ fun b hb => ?_) | apply goI | apply goJ | apply goK | apply goL | apply goM | apply goN | apply goO | with_reducible refine goP ?_)
  all_goals try conv => whnf
  all_goals try (refine Side.mk ?_; try dsimp only)
  · exact ⟨by decide, by decide, by decide⟩
  · exact ⟨by decide, by decide, by decide⟩
  · exact ⟨by decide +kernel, by decide, by decide⟩
  · exact ⟨by decide +kernel, by decide, by decide +kernel⟩
  · exact ⟨by decide +kernel, by decide, by decide⟩
  · have e := w19_p.bs (by rw [w19_b]; decide) (by decide)
    rw [w19_b] at e
    exact e
  · refine EndP.mk [] ?_ <;> (repeat' first | trivial | rfl | exact eqS _ _ | apply andI | apply eqA | apply eqB | apply eqC | apply eqD | apply eqE | apply eqF | apply eqG | apply eqH | apply eqI)
  · exact absurd hB (by assumption)
theorem f_works19_1  (hp : True) : OK 4 ([]) ([]) (.bool true) (none) := by
  exact f_works19 (M := msgB) fun _ => rfl
def sm_works19 : Sm := fun args σ => match args, σ with
  | [], [] => some (True, .bool true, none)
  | _, _ => none
theorem k_works19 : SOK 4 sm_works19 := by
  intro args sg pre x r he hp
  unfold sm_works19 at he
  split at he <;> cases he
  · exact f_works19_1 (hp := hp) ..
theorem len0 : ([] : List Pf).length ≤ 1 ∧ (fldsB []).length ≤ 1100 := ⟨by decide, by decide⟩
theorem fK_len {f : Pf} (hn : 0 ≤ f.num ∧ f.num ≤ 18446744073709551615) (ht : f.text.length ≤ 1000) : (fK f).length ≤ 1 ∧ (fldsB (fK f)).length ≤ 1100 := by
  unfold fK
  split
  · rw [flds_one]
    have := fldB_len hn (by omega)
    exact ⟨Nat.le_refl 1, by omega⟩
  · exact len0
theorem lenF {l : List Pf} (h : l.length ≤ 1 ∧ (fldsB l).length ≤ 1100) : (l.map fP).length ≤ 1 ∧ (msgB (l.map fP)).length ≤ 1100 := by
  rw [msgB_fP, List.length_map]; exact h
theorem lenS (no : Int) {fs : List Pf} (hm : (fldsB fs).length ≤ 1020) : (sP no fs).length ≤ 1 ∧ (msgB (sP no fs)).length ≤ 1100 := by
  constructor
  · unfold sP
    split
    · exact Nat.le_refl 1
    · exact Nat.zero_le 1
  · rw [sP_len]
    unfold sbN
    have h1 := tagB_len no 2
    have h2 := vput_len (u := (fldsB fs).length) (by omega)
    split
    · rw [Int.toNat_natCast]; omega
    · omega
theorem add_len {o : MOp} (hn : 0 ≤ o.num ∧ o.num ≤ 18446744073709551615) (ht : o.text.length ≤ 1000) : (addP o).length ≤ 1 ∧ (msgB (addP o)).length ≤ 1100 := by
  have h1 := fText_len 1 ht
  have hS : (fSure o.no o.wi o.num).length ≤ 1 ∧ (fldsB (fSure o.no o.wi o.num)).length ≤ 1100 := by
    unfold fSure
    split
    · exact len0
    · exact fK_len hn (Nat.zero_le _)
  have hK := fK_len (f := ⟨o.no, 2, 0, o.text⟩) ⟨Int.le_refl 0, (by decide : (0 : Int) ≤ 18446744073709551615)⟩ ht
  unfold addP
  split
  · exact lenF hS
  split
  · refine lenF ?_
    unfold fNum
    split
    · exact len0
    · exact hS
  split
  · exact lenF hK
  split
  · refine lenF ?_
    unfold fText
    split
    · exact len0
    · exact hK
  split
  · exact lenS _ h1.1
  split
  · exact lenS _ h1.1
  · exact ⟨by decide, by decide⟩
/-- the parts behind so many operations -/
def wP (l : List MOp) (i : Nat) : List Pt := ((l.take i).map addP).flatten
theorem wP_next {l : List MOp} {i : Nat} (h : i < l.length) : wP l (i + 1) = wP l i ++ addP (l.getD i default) := by
  unfold wP
  rw [List.take_add_one, List.getD_eq_getElem?_getD, List.getElem?_eq_getElem h, List.map_append, List.flatten_append]
  simp
theorem flds_text {P : List Pt} (h : Pp P) : ∀ f ∈ aFds (msgB P), f.text.length ≤ 1000000000 := by
  have ho : ∀ f ∈ P.map Pt.fld, okF f := fun f hf => by
    obtain ⟨p, hp, rfl⟩ := List.mem_map.1 hf
    exact (h.h p hp).f
  have e : aFds (msgB P) = _ := (all_flds (P.map Pt.fld) ho).2
  rw [e]
  intro f hf
  obtain ⟨g, hg, rfl⟩ := List.mem_map.1 hf
  obtain ⟨p, hp, rfl⟩ := List.mem_map.1 hg
  have hP := h.h p hp
  have ht : p.fld.text.length ≤ 90000000 := by
    unfold Pt.fld
    split
    · exact hP.m
    · have := hP.t; omega
  unfold keepF
  dsimp only
  split
  · omega
  · exact Nat.zero_le _
theorem wf_mo {l : List MOp} (h : V.wfL (l.map eMo)) {i : Nat} (hi : i < l.length) : 0 ≤ (l.getD i default).num ∧ (l.getD i default).num ≤ 18446744073709551615 := by
  have := wfL_iff.1 h (eMo (l.getD i default)) (List.mem_map.2 ⟨l.getD i default, by rw [List.getD_eq_getElem?_getD, List.getElem?_eq_getElem hi]; exact List.getElem_mem hi, rfl⟩)
  exact this.2.2.2.1
theorem f_lReads19 (l : List MOp) : OK 3 [.list false 5 (l.map eMo)] [] (.bool true) none := by
  refine funOK_of_vc (C := cx [(4, sm_works19), (5, sm_mNew), (6, sm_l19add), (8, sm_bytesM msgB), (7, sm_pAll), (9, sm_pFPut)])
    (good ⟨k_works19, k_mNew, k_l19add, k_bytesM fun _ => rfl, k_pAll, k_pFPut, trivial⟩) (fn := Tryd.f3) rfl rfl rfl rfl fun hw hs => ?_
  have hwf := fun {i : Nat} => @wf_mo l hw.1.2 i
  have e1 : (l.map eMo).length = l.length := by simp
  repeat' ((conv => whnf); first | with_reducible (first | refine go1 (fun j q h => ?_) fun h => ?_ | refine go2 ⟨rfl, rfl⟩ (fun h => ?_) fun j h => ?_ | refine go2 ?_ (fun h => ?_) fun j h => ?_ | refine goQ ?_ (fun h => ?_) fun h => ?_) | apply go3 | apply go4 | apply go5 | ((first | apply go6 | apply go7 | apply go8 | apply go9 | apply goA) <;> intro h) | with_reducible (first | refine IdxK.mk _ rfl ?_ | refine call_ite (fun h => ?_) fun h => ?_ | refine goB ?_ fun hc => ?_ | refine goC ?_ fun hc => ?_ | refine goD ?_ fun hc => ?_ | refine goE ?_ fun hc => ?_ | apply goF | apply goG | refine goH ?_ fun b hb => ?_) | apply goI | apply goJ | apply goK | apply goL | apply goM | apply goN | apply goO | with_reducible refine goP ?_)
  all_goals try conv => whnf
  all_goals try (refine Side.mk ?_; try dsimp only)
  all_goals (try simp only [Cu_eta] at *)
  all_goals first | refine stay ?_ | trivial | omega | (simp (discharger := omega) only [wR]; omega) | (simp only [lnS]; omega) | (simp (discharger := omega) [-List.getD_eq_getElem?_getD, wR] <;> omega) | skip
  · refine EndP.mk [] ?_ <;> (repeat' first | trivial | rfl | exact eqS _ _ | apply andI | apply eqA | apply eqB | apply eqC | apply eqD | apply eqE | apply eqF | apply eqG | apply eqH | apply eqI)
  refine LoopP.mk Nat (fun i => i ≤ l.length ∧ (msgB (wP l i)).length ≤ i * 1100 ∧ (wP l i).length ≤ i ∧ Pp (wP l i)) (fun i => ⟨69, [(0, .list false 5 (l.map eMo)), (3, .ptr 0 0), (4, .int .i64 i)], eP0 (wP l i), [0, 1]⟩) (fun i => l.length - i) [] 0 ⟨Nat.zero_le _, by simp [wP, msgB, fldsB], by simp [wP], Pp.nil⟩ ?_ (fun i ⟨hi, ho, hl, hP⟩ _ _ => ?_)
  · refine Go.VG.Sub.mk rfl ?_ ?_ ?_ ?_ <;> (repeat' first | trivial | rfl | exact eqS _ _ | apply andI | apply eqA | apply eqB | apply eqC | apply eqD | apply eqE | apply eqF | apply eqG | apply eqH | apply eqI)
  have hn := fun h => wP_next (l := l) (i := i) h
  generalize hw' : wP l i = w at *
  have hwf := @hwf i
  generalize hO : l.getD i default = o at *
  have h30 : l.length ≤ 30 := by omega
  repeat' ((conv => whnf); first | with_reducible (first | refine go1 (fun j q h => ?_) fun h => ?_ | refine go2 ⟨rfl, rfl⟩ (fun h => ?_) fun j h => ?_ | refine go2 ?_ (fun h => ?_) fun j h => ?_ | refine goQ ?_ (fun h => ?_) fun h => ?_) | apply go3 | apply go4 | apply go5 | ((first | apply go6 | apply go7 | apply go8 | apply go9 | apply goA) <;> intro h) | with_reducible (first | refine IdxK.mk _ rfl ?_ | refine call_ite (fun h => ?_) fun h => ?_ | refine goB ?_ fun hc => ?_ | refine goC ?_ fun hc => ?_ | refine goD ?_ fun hc => ?_ | refine goE ?_ fun hc => ?_ | apply goF | apply goG | refine goH ?_ fun b hb => ?_) | apply goI | apply goJ | apply goK | apply goL | apply goM | apply goN | apply goO | with_reducible refine goP ?_)
  all_goals try conv => whnf
  all_goals try (refine Side.mk ?_; try dsimp only)
  all_goals (try simp only [Cu_eta] at *)
  all_goals first | refine stay ?_ | trivial | omega | (simp (discharger := omega) only [wR]; omega) | (simp only [lnS]; omega) | (simp (discharger := omega) [-List.getD_eq_getElem?_getD, wR] <;> omega) | skip
  all_goals (try simp only [hO, hP.d, List.length_map] at *)
  · refine EndP.mk [] ?_ <;> (repeat' first | trivial | rfl | exact eqS _ _ | apply andI | apply eqA | apply eqB | apply eqC | apply eqD | apply eqE | apply eqF | apply eqG | apply eqH | apply eqI)
  · exact ⟨trivial, ⟨by rw [hP.d], by rw [hP.d], by rw [hP.d]; omega, by rw [List.length_map]; omega, by show o.text.length ≤ _; omega⟩⟩
  · have hlt : i < l.length := by omega
    have hal := add_len (hwf hlt) (show o.text.length ≤ 1000 by omega)
    have hap := add_pp (hwf hlt) (show o.text.length ≤ 1000 by omega)
    have hn := hn hlt
    refine ⟨[], i + 1, ⟨by omega, ?_, ?_, ?_⟩, ?_, by omega⟩
    · rw [hn, msgB_app, List.length_append]; omega
    · rw [hn, List.length_append]; omega
    · rw [hn]; exact hP.app hap
    · rw [hn]
      refine Go.VG.Sub.mk rfl ?_ ?_ ?_ ?_ <;> (repeat' first | trivial | rfl | exact eqS _ _ | apply andI | apply eqA | apply eqB | apply eqC | apply eqD | apply eqE | apply eqF | apply eqG | apply eqH | apply eqI)
      rw [wi64]; omega
  · exact hP.bs (by omega) (by omega)
  · omega
  have hb := msg_back w fun p hp => (hP.h p hp).f
  have hft := flds_text hP
  have hFl := aFds_len (msgB w)
  generalize hF : aFds (msgB w) = F at *
  have e3 : (F.map ePf).length = F.length := List.length_map ..
  refine LoopP.mk Nat (fun j => j ≤ F.length) (fun j => ⟨69, [(0, .list false 5 (l.map eMo)), (3, .ptr 0 0), (5, .buf 2), (6, .int .i64 0), (7, .buf 3), (8, .int .i64 j)], eP0 w ++ [.buf 4 0 (F.map ePf), .buf 1 0 (bl (fldsB (F.take j)))], [0, 1, 2, 3, 4]⟩) (fun j => F.length - j) [.tm 7 1] 0 (Nat.zero_le _) ?_ (fun j hj _ _ => ?_)
  · refine Go.VG.Sub.mk rfl ?_ ?_ ?_ ?_ <;> (repeat' first | trivial | rfl | exact eqS _ _ | apply andI | apply eqA | apply eqB | apply eqC | apply eqD | apply eqE | apply eqF | apply eqG | apply eqH | apply eqI)
    exact hb.1
  repeat' ((conv => whnf); first | with_reducible (first | refine go1 (fun j q h => ?_) fun h => ?_ | refine go2 ⟨rfl, rfl⟩ (fun h => ?_) fun j h => ?_ | refine go2 ?_ (fun h => ?_) fun j h => ?_ | refine goQ ?_ (fun h => ?_) fun h => ?_) | apply go3 | apply go4 | apply go5 | ((first | apply go6 | apply go7 | apply go8 | apply go9 | apply goA) <;> intro h) | with_reducible (first | refine IdxK.mk _ rfl ?_ | refine call_ite (fun h => ?_) fun h => ?_ | refine goB ?_ fun hc => ?_ | refine goC ?_ fun hc => ?_ | refine goD ?_ fun hc => ?_ | refine goE ?_ fun hc => ?_ | apply goF | apply goG | refine goH ?_ fun b hb => ?_) | apply goI | apply goJ | apply goK | apply goL | apply goM | apply goN | apply goO | with_reducible refine goP ?_)
  all_goals try conv => whnf
  all_goals try (refine Side.mk ?_; try dsimp only)
  all_goals (try simp only [Cu_eta] at *)
  all_goals first | refine stay ?_ | trivial | omega | (simp (discharger := omega) only [wR]; omega) | (simp only [lnS]; omega) | (simp (discharger := omega) [-List.getD_eq_getElem?_getD, wR] <;> omega) | skip
  · have h := fldsB_take F j
    rw [hb.2] at h
    have hlt : j < F.length := by omega
    have hm : F.getD j default ∈ F := by rw [List.getD_eq_getElem?_getD, List.getElem?_eq_getElem hlt]; exact List.getElem_mem hlt
    exact ⟨trivial, by rw [bl_length]; omega, hft _ hm⟩
  · have hlt : j < F.length := by omega
    refine ⟨[.swap 3 4], j + 1, by omega, ?_, by omega⟩
    rw [fldsB_next hlt, bl_append]
    refine Go.VG.Sub.mk rfl ?_ ?_ ?_ ?_ <;> (repeat' first | trivial | rfl | exact eqS _ _ | apply andI | apply eqA | apply eqB | apply eqC | apply eqD | apply eqE | apply eqF | apply eqG | apply eqH | apply eqI)
    rw [wi64]; omega
  · exact hP.bs (by omega) (by omega)
  · refine EndP.mk [] ?_ <;> (repeat' first | trivial | rfl | exact eqS _ _ | apply andI | apply eqA | apply eqB | apply eqC | apply eqD | apply eqE | apply eqF | apply eqG | apply eqH | apply eqI)
  · exfalso
    have hj2 : j = F.length := by omega
    exact absurd (show fldsB (F.take j) = msgB ((w.map ePt).map decPt) by rw [hj2, List.take_length, hP.d]; exact hb.2) (by assumption)
end Go.Proofs.YtgiocgghmlmgfaaDoor
