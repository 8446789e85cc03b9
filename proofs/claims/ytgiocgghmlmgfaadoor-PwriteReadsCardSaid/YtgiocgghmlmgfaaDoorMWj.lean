/-
  A message that is written: what the law adds to it.
-/
import Derived.Test.YtgiocgghmlmgfaaDoorMWi
set_option linter.unusedSimpArgs false
set_option linter.unusedVariables false
set_option maxHeartbeats 4000000
namespace Go.Proofs.YtgiocgghmlmgfaaDoor
open Go Go.VG
set_option maxRecDepth 100000
theorem f_l19of_1 (t : List UInt8) (hp : t.length ≤ 1000) : OK 17 ([.str t]) ([]) (.ptr 0 0) (some (eMv ((fldsB (fText 1 t)).length : Nat) (eFs (fText 1 t)))) := by
  refine funOK_of_vc (C := cx [(5, sm_mNew), (10, sm_mText)]) (good ⟨k_mNew, k_mText, trivial⟩) (fn := Tryd.f17) rfl rfl rfl rfl fun hw hs => ?_
  repeat' ((conv => whnf); first | with_reducible (first | refine go1 (fun j q h => ?_) fun h => ?_ | refine go2 ⟨rfl, rfl⟩ (fun h => ?_) fun j h => ?_ | refine go2 ?_ (fun h => ?_) fun j h => ?_ | refine goQ ?_ (fun h => ?_) fun h => ?_) | apply go3 | apply go4 | apply go5 | ((first | apply go6 | apply go7 | apply go8 | apply go9 | apply goA) <;> intro h) | with_reducible (first | refine IdxK.mk _ rfl ?_ | refine call_ite (fun h => ?_) fun h => ?_ | refine goB ?_ fun hc => ?_ | refine goC ?_ fun hc => ?_ | refine goD ?_ fun hc => ?_ | refine goE ?_ fun hc => ?_ | apply goF | apply goG | refine goH ?_ fun b hb => ?_) | apply goI | apply goJ | apply goK | apply goL | apply goM | apply goN | apply goO | with_reducible refine goP ?_)
  all_goals try conv => whnf
  all_goals try (refine Side.mk ?_; try dsimp only)
  · exact ⟨by decide, by decide, by show t.length ≤ _; omega⟩
  · rw [show (0 : Int) + ((fldsB (fText 1 t)).length : Nat) = ((fldsB (fText 1 t)).length : Nat) from Int.zero_add _, List.nil_append]
    refine EndP.mk [] ?_ <;> (repeat' first | trivial | rfl | exact eqS _ _ | apply andI | apply eqA | apply eqB | apply eqC | apply eqD | apply eqE | apply eqF | apply eqG | apply eqH | apply eqI)
def sm_l19of : Sm := fun args σ => match args, σ with
  | [.str t], [] => some (t.length ≤ 1000, .ptr 0 0, some (eMv ((fldsB (fText 1 t)).length : Nat) (eFs (fText 1 t))))
  | _, _ => none
theorem k_l19of : SOK 17 sm_l19of := by
  intro args sg pre x r he hp
  unfold sm_l19of at he
  split at he <;> cases he
  · exact f_l19of_1 (hp := hp) ..
/-- an operation of the law's -/
structure MOp where
  kind : Int
  no : Int
  wi : Int
  num : Int
  text : List UInt8
instance : Inhabited MOp := ⟨⟨0, 0, 0, 0, []⟩⟩
def eMo (o : MOp) : V := .agg [.int .u8 o.kind, .int .i64 o.no, .int .i64 o.wi, .int .u64 o.num, .str o.text]
def fP (f : Pf) : Pt := ⟨false, f, []⟩
def sP (no : Int) (fs : List Pf) : List Pt := if mayT no 2 = true then [⟨true, ⟨no, 2, 0, []⟩, fs⟩] else []
/-- what an operation adds -/
def addP (o : MOp) : List Pt :=
  if o.kind = 0 then (fSure o.no o.wi o.num).map fP else if o.kind = 1 then (fNum o.no o.wi o.num).map fP
  else if o.kind = 2 then (fK ⟨o.no, 2, 0, o.text⟩).map fP else if o.kind = 3 then (fText o.no o.text).map fP
  else if o.kind = 4 then sP o.no (fText 1 o.text) else if (fldsB (fText 1 o.text)).length > 0 then sP o.no (fText 1 o.text) else []
theorem msgB_app (l k : List Pt) : msgB (l ++ k) = msgB l ++ msgB k := by simp [msgB, fldsB]
theorem msgB_fP (l : List Pf) : msgB (l.map fP) = fldsB l := by
  unfold msgB
  rw [List.map_map]
  congr 1
  exact (List.map_congr_left (g := id) fun f _ => rfl).trans (List.map_id _)
theorem ePt_fP (l : List Pf) : (l.map fP).map ePt = eFs l := by
  rw [List.map_map]; exact List.map_congr_left fun f _ => rfl
theorem sP_sb (no : Int) (fs : List Pf) : (sP no fs).map ePt = sbL no (eFs fs) (fldsB fs).length := by
  unfold sP sbL
  split <;> rfl
theorem sP_len (no : Int) (fs : List Pf) : (msgB (sP no fs)).length = sbN no (fldsB fs).length := by
  unfold sP sbN
  by_cases h : mayT no 2 = true
  · rw [if_pos h, if_pos h]
    have e : msgB [⟨true, ⟨no, 2, 0, []⟩, fs⟩] = fldB ⟨no, 2, 0, fldsB fs⟩ := flds_one _
    rw [e]
    unfold fldB conB
    dsimp only
    rw [if_pos h, if_neg (by decide), if_neg (by decide), if_pos rfl, List.length_append, List.length_append, Int.toNat_natCast, Nat.add_assoc]
  · rw [if_neg h, if_neg h]; rfl
/-- a message of so many parts -/
abbrev eP0 (P : List Pt) : List O := eMv ((msgB P).length : Nat) (P.map ePt)
theorem eP_add (P Q : List Pt) : eP0 (P ++ Q) = eMv (((msgB P).length : Int) + ((msgB Q).length : Nat)) (P.map ePt ++ Q.map ePt) := by
  unfold eP0
  rw [msgB_app, List.length_append, List.map_append]
  rfl
theorem ftext_len (no : Int) (t : List UInt8) : (fText no t).length ≤ 1 ∧ ∀ f ∈ fText no t, f.text.length ≤ t.length ∧ f.num = 0 := by
  unfold fText fK
  repeat' split
  all_goals simp
theorem f_l19add (P : List Pt) (o : MOp) (hn : (msgB P).length ≤ 100000000) (hP : P.length ≤ 100000) (ht : o.text.length ≤ 1000) :
    OK 6 [.ptr 0 0, eMo o, .str o.text] (eP0 P) (.tuple []) (some (eP0 (P ++ addP o))) := by
  refine funOK_of_vc (C := cx [(17, sm_l19of), (15, sm_mSureN), (11, sm_mNum), (16, sm_mSureT), (10, sm_mText), (13, sm_mSureS), (12, sm_mSub)]) (good ⟨k_l19of, k_mSureN, k_mNum, k_mSureT, k_mText, k_mSureS, k_mSub, trivial⟩) (fn := Tryd.f6) rfl rfl rfl rfl fun hw _ => ?_
  rw [eP_add]
  have hA : ∀ f : Pf, f.text.length ≤ 1000 → AOk ((msgB P).length : Nat) (P.map ePt) f := fun f hf => ⟨by omega, by rw [List.length_map]; omega, by omega⟩
  have hF : (fldsB (fText 1 o.text)).length ≤ 2000 := by
    unfold fText fK
    repeat' split
    · decide
    · rw [flds_one]
      exact Nat.le_trans (fldB_len (f := ⟨1, 2, 0, o.text⟩) ⟨Int.le_refl 0, (by decide : (0 : Int) ≤ 18446744073709551615)⟩ (by show o.text.length ≤ _; omega)) (by show 20 + o.text.length ≤ _; omega)
    · decide
  have hS : SOk ((msgB P).length : Nat) (P.map ePt) ((fldsB (fText 1 o.text)).length : Nat) := ⟨by omega, by rw [List.length_map]; omega, by omega⟩
  repeat' ((conv => whnf); first | with_reducible (first | refine go1 (fun j q h => ?_) fun h => ?_ | refine go2 ⟨rfl, rfl⟩ (fun h => ?_) fun j h => ?_ | refine go2 ?_ (fun h => ?_) fun j h => ?_ | refine goQ ?_ (fun h => ?_) fun h => ?_) | apply go3 | apply go4 | apply go5 | ((first | apply go6 | apply go7 | apply go8 | apply go9 | apply goA) <;> intro h) | with_reducible (first | refine IdxK.mk _ rfl ?_ | refine call_ite (fun h => ?_) fun h => ?_ | refine goB ?_ fun hc => ?_ | refine goC ?_ fun hc => ?_ | refine goD ?_ fun hc => ?_ | refine goE ?_ fun hc => ?_ | apply goF | apply goG | refine goH ?_ fun b hb => ?_) | apply goI | apply goJ | apply goK | apply goL | apply goM | apply goN | apply goO | with_reducible refine goP ?_)
  all_goals try conv => whnf
  all_goals try (refine Side.mk ?_; try dsimp only)
  all_goals first
    | exact hA _ (Nat.zero_le _)
    | exact hA _ ht
    | exact hS
    | exact ht
    | (show EndP _ _ _ _ _ _; unfold addP; repeat (first | rw [if_pos (by assumption)] | rw [if_neg (by assumption)]))
  · rw [msgB_fP, ePt_fP]
    refine EndP.mk [] ?_ <;> (repeat' first | trivial | rfl | exact eqS _ _ | apply andI | apply eqA | apply eqB | apply eqC | apply eqD | apply eqE | apply eqF | apply eqG | apply eqH | apply eqI)
  · rw [msgB_fP, ePt_fP]
    refine EndP.mk [] ?_ <;> (repeat' first | trivial | rfl | exact eqS _ _ | apply andI | apply eqA | apply eqB | apply eqC | apply eqD | apply eqE | apply eqF | apply eqG | apply eqH | apply eqI)
  · rw [msgB_fP, ePt_fP]
    refine EndP.mk [] ?_ <;> (repeat' first | trivial | rfl | exact eqS _ _ | apply andI | apply eqA | apply eqB | apply eqC | apply eqD | apply eqE | apply eqF | apply eqG | apply eqH | apply eqI)
  · rw [msgB_fP, ePt_fP]
    refine EndP.mk [] ?_ <;> (repeat' first | trivial | rfl | exact eqS _ _ | apply andI | apply eqA | apply eqB | apply eqC | apply eqD | apply eqE | apply eqF | apply eqG | apply eqH | apply eqI)
  · rw [sP_len, sP_sb]
    refine EndP.mk [] ?_ <;> (repeat' first | trivial | rfl | exact eqS _ _ | apply andI | apply eqA | apply eqB | apply eqC | apply eqD | apply eqE | apply eqF | apply eqG | apply eqH | apply eqI)
  · by_cases hz : (fldsB (fText 1 o.text)).length > 0
    · rw [if_pos hz, sP_len, sP_sb]
      refine EndP.mk [] ?_ <;> (repeat' first | trivial | rfl | exact eqS _ _ | apply andI | apply eqA | apply eqB | apply eqC | apply eqD | apply eqE | apply eqF | apply eqG | apply eqH | apply eqI)
      · unfold sb0N
        rw [if_pos (by omega)]
      · unfold sb0L
        rw [if_pos (by omega)]
    · rw [if_neg hz]
      refine EndP.mk [] ?_ <;> (repeat' first | trivial | rfl | exact eqS _ _ | apply andI | apply eqA | apply eqB | apply eqC | apply eqD | apply eqE | apply eqF | apply eqG | apply eqH | apply eqI)
      · unfold sb0N
        rw [if_neg (by omega)]; rfl
      · unfold sb0L
        rw [if_neg (by omega)]; rfl
theorem dec_fP (l : List Pf) : (eFs l).map decPt = l.map fP := by
  unfold eFs
  rw [List.map_map]
  exact List.map_congr_left fun f _ => rfl
theorem dec_sP (no : Int) (fs : List Pf) : ((sP no fs).map ePt).map decPt = sP no fs := by
  unfold sP
  split
  · show [Pt.mk true ⟨no, 2, 0, []⟩ ((eFs fs).map decIf)] = _
    rw [decIf_map]
  · rfl
theorem dec_add (o : MOp) : ((addP o).map ePt).map decPt = addP o := by
  unfold addP
  repeat' split
  all_goals first
    | exact dec_sP _ _
    | (rw [ePt_fP, dec_fP])
    | rfl
structure AdOk (n : Int) (L : List V) (o : MOp) : Prop where
  n : n = ((msgB (L.map decPt)).length : Nat)
  l : L = (L.map decPt).map ePt
  b : (msgB (L.map decPt)).length ≤ 100000000
  k : L.length ≤ 100000
  t : o.text.length ≤ 1000
theorem f_l19add_1 (n : Int) (L : List V) (k no wi u : Int) (t s : List UInt8) (hp : s = t ∧ AdOk n L ⟨k, no, wi, u, t⟩) : OK 6 ([.ptr 0 0, .agg [.int .u8 k, .int .i64 no, .int .i64 wi, .int .u64 u, .str t], .str s]) ([.cells [.buf 1, .int .i64 n], .buf 1 0 L]) (.tuple []) (some (eP0 (L.map decPt ++ addP ⟨k, no, wi, u, t⟩))) := by
  obtain ⟨e, hp⟩ := hp
  subst e
  have := f_l19add (L.map decPt) ⟨k, no, wi, u, _⟩ hp.b (by rw [List.length_map]; exact hp.k) hp.t
  unfold eP0 at this
  rw [← hp.l, ← hp.n] at this
  exact this
def sm_l19add : Sm := fun args σ => match args, σ with
  | [.ptr 0 0, .agg [.int .u8 k, .int .i64 no, .int .i64 wi, .int .u64 u, .str t], .str s], [.cells [.buf 1, .int .i64 n], .buf 1 0 L] => some (s = t ∧ AdOk n L ⟨k, no, wi, u, t⟩, .tuple [], some (eP0 (L.map decPt ++ addP ⟨k, no, wi, u, t⟩)))
  | _, _ => none
theorem k_l19add : SOK 6 sm_l19add := by
  intro args sg pre x r he hp
  unfold sm_l19add at he
  split at he <;> cases he
  · exact f_l19add_1 (hp := hp) ..
end Go.Proofs.YtgiocgghmlmgfaaDoor
