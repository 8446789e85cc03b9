/-
  A message that is written: its bytes; what the law adds.
-/
import Derived.Test.YtgiocgghmlmgfaaDoorMWh
set_option linter.unusedSimpArgs false
set_option linter.unusedVariables false
set_option maxHeartbeats 4000000
namespace Go.Proofs.YtgiocgghmlmgfaaDoor
open Go Go.VG
set_option maxRecDepth 100000
def sm_mLay : Sm := fun args σ => match args, σ with
  | [.ptr 0 0, .buf 1], [.cells [.buf 2, .int .i64 n], .buf 1 0 b, .buf 1 0 (v :: L)] => some ((v :: L) = ((v :: L).map decPt).map ePt ∧ (∀ p ∈ (v :: L).map decPt, PtOk p) ∧ (∀ i, (b ++ bl (msgB (((v :: L).map decPt).take i))).length ≤ 600000000) ∧ (v :: L).length ≤ 1000000, .buf 3, some [.cells [.buf 2, .int .i64 n], .buf 1 0 b, .buf 1 0 (v :: L), .buf 1 0 (b ++ bl (msgB ((v :: L).map decPt)))])
  | [.ptr 0 0, .buf 1], [.cells [.buf 2, .int .i64 n], .buf 1 0 b, .buf 1 0 []] => some (True, .buf 1, some [.cells [.buf 2, .int .i64 n], .buf 1 0 b, .buf 1 0 []])
  | _, _ => none
theorem k_mLay : SOK 21 sm_mLay := by
  intro args sg pre x r he hp
  unfold sm_mLay at he
  split at he <;> cases he
  · obtain ⟨h1, h2, h3, h4⟩ := hp
    rename_i n b v L
    have := f_lay ((v :: L).map decPt) n b (by simp) h2 h3 (by rw [List.length_map]; exact h4)
    rw [← h1] at this
    exact this
  · exact f_layN2 _ _
/-- parts that may be -/
structure Ps (P : List Pt) : Prop where
  h : ∀ p ∈ P, PtOk (decPt (ePt p))
  b : ∀ i, (msgB ((P.map (fun p => decPt (ePt p))).take i)).length ≤ 600000000
  l : P.length ≤ 1000000
theorem bytes_dec {P : List Pt} : msgB (P.map fun p => decPt (ePt p)) = msgB P := by
  unfold msgB
  rw [List.map_map]
  congr 1
  refine List.map_congr_left fun p _ => ?_
  obtain ⟨s, f, fs⟩ := p
  cases s with
  | true =>
    show (Pt.mk true ⟨f.no, 2, 0, []⟩ ((eFs fs).map decIf)).fld = _
    rw [decIf_map]; rfl
  | false => rfl
theorem f_bytes (P : List Pt) (h : Ps P) : OK 8 [.ptr 0 0] (eMv (msgB P).length (P.map ePt)) (.str (msgB P)) (some (eMv (msgB P).length (P.map ePt))) := by
  have hn : (msgB P).length ≤ 600000000 := by
    have := h.b P.length
    rw [List.take_of_length_le (by simp), bytes_dec] at this
    exact this
  have hb := @bytes_dec P
  have h1 := h.h
  have h2 := h.b
  have h3 := h.l
  have hee : ∀ P : List Pt, ((P.map ePt).map decPt).map ePt = P.map ePt := fun P => by
    rw [List.map_map, List.map_map]
    exact List.map_congr_left fun p _ => ePt_dec p
  have he := hee P
  cases P with
  | nil =>
    refine funOK_of_vc (C := cx [(21, sm_mLay)]) (good ⟨k_mLay, trivial⟩) (fn := Tryd.f8) rfl rfl rfl rfl fun hw _ => ?_
    repeat' ((conv => whnf); first | with_reducible (first | refine go1 (fun j q h => ?_) fun h => ?_ | refine go2 ⟨rfl, rfl⟩ (fun h => ?_) fun j h => ?_ | refine go2 ?_ (fun h => ?_) fun j h => ?_ | refine goQ ?_ (fun h => ?_) fun h => ?_) | apply go3 | apply go4 | apply go5 | ((first | apply go6 | apply go7 | apply go8 | apply go9 | apply goA) <;> intro h) | with_reducible (first | refine IdxK.mk _ rfl ?_ | refine call_ite (fun h => ?_) fun h => ?_ | refine goB ?_ fun hc => ?_ | refine goC ?_ fun hc => ?_ | refine goD ?_ fun hc => ?_ | refine goE ?_ fun hc => ?_ | apply goF | apply goG | refine goH ?_ fun b hb => ?_) | apply goI | apply goJ | apply goK | apply goL | apply goM | apply goN | apply goO | with_reducible refine goP ?_)
    all_goals try conv => whnf
    all_goals try (refine Side.mk ?_; try dsimp only)
    · decide
    · refine ⟨[], rfl, ?_⟩
      repeat' ((conv => whnf); first | with_reducible (first | refine go1 (fun j q h => ?_) fun h => ?_ | refine go2 ⟨rfl, rfl⟩ (fun h => ?_) fun j h => ?_ | refine go2 ?_ (fun h => ?_) fun j h => ?_ | refine goQ ?_ (fun h => ?_) fun h => ?_) | apply go3 | apply go4 | apply go5 | ((first | apply go6 | apply go7 | apply go8 | apply go9 | apply goA) <;> intro h) | with_reducible (first | refine IdxK.mk _ rfl ?_ | refine call_ite (fun h => ?_) fun h => ?_ | refine goB ?_ fun hc => ?_ | refine goC ?_ fun hc => ?_ | refine goD ?_ fun hc => ?_ | refine goE ?_ fun hc => ?_ | apply goF | apply goG | refine goH ?_ fun b hb => ?_) | apply goI | apply goJ | apply goK | apply goL | apply goM | apply goN | apply goO | with_reducible refine goP ?_)
      all_goals try conv => whnf
      all_goals try (refine Side.mk ?_; try dsimp only)
      refine EndP.mk [] ?_ <;> (repeat' first | trivial | rfl | exact eqS _ _ | apply andI | apply eqA | apply eqB | apply eqC | apply eqD | apply eqE | apply eqF | apply eqG | apply eqH | apply eqI)
  | cons p P =>
    generalize hm : msgB (p :: P) = M at *
    refine funOK_of_vc (C := cx [(21, sm_mLay)]) (good ⟨k_mLay, trivial⟩) (fn := Tryd.f8) rfl rfl rfl rfl fun hw _ => ?_
    have hm2 : ((p :: P).map ePt).map decPt = (p :: P).map fun p => decPt (ePt p) := by rw [List.map_map]; rfl
    have e2 : ((ePt p :: P.map ePt).map decPt) = (p :: P).map fun p => decPt (ePt p) := hm2
    repeat' ((conv => whnf); first | with_reducible (first | refine go1 (fun j q h => ?_) fun h => ?_ | refine go2 ⟨rfl, rfl⟩ (fun h => ?_) fun j h => ?_ | refine go2 ?_ (fun h => ?_) fun j h => ?_ | refine goQ ?_ (fun h => ?_) fun h => ?_) | apply go3 | apply go4 | apply go5 | ((first | apply go6 | apply go7 | apply go8 | apply go9 | apply goA) <;> intro h) | with_reducible (first | refine IdxK.mk _ rfl ?_ | refine call_ite (fun h => ?_) fun h => ?_ | refine goB ?_ fun hc => ?_ | refine goC ?_ fun hc => ?_ | refine goD ?_ fun hc => ?_ | refine goE ?_ fun hc => ?_ | apply goF | apply goG | refine goH ?_ fun b hb => ?_) | apply goI | apply goJ | apply goK | apply goL | apply goM | apply goN | apply goO | with_reducible refine goP ?_)
    all_goals try conv => whnf
    all_goals try (refine Side.mk ?_; try dsimp only)
    · exact ⟨by omega, by omega, by omega⟩
    · refine ⟨he.symm, ?_, ?_, by simpa using h3⟩
      · rw [e2]
        intro q hq
        obtain ⟨r, hr, rfl⟩ := List.mem_map.1 hq
        exact h1 r hr
      · rw [e2]
        intro i
        rw [List.length_append, bl_length]
        exact Nat.le_trans (Nat.le_of_eq (by simp)) (h2 i)
    · refine EndP.mk [] ?_ <;> (repeat' first | trivial | rfl | exact eqS _ _ | apply andI | apply eqA | apply eqB | apply eqC | apply eqD | apply eqE | apply eqF | apply eqG | apply eqH | apply eqI)
      rw [e2, hb]
end Go.Proofs.YtgiocgghmlmgfaaDoor
