/-
  A part of the proof.
-/
import Derived.Test.YtipejldppicijaaGreatDoorGS
import Derived.Test.YtipejldppicijaaGreatDoorPRef
set_option linter.unusedSimpArgs false
set_option linter.unusedVariables false
set_option maxHeartbeats 4000000
namespace Go.Proofs.YtipejldppicijaaGreatDoor
open Go Go.VG
set_option maxRecDepth 100000
theorem Hq (k id : Int) (hp : True) : OK 23 ([.int .u8 k, .int .i64 id]) ([]) (c8 ⟨k, id, 0, 0, 0, []⟩) (none) := by
 refine af (C := cx []) (ah trivial) (fn := Tryz.f23) rfl rfl rfl rfl fun hw hs => ?_
 all_goals try conv => whnf
 all_goals try (refine a8.mk ?_; try dsimp only)
 all_goals try refine stay ?_
 refine a7.mk [] ?_ <;> (repeat' first | trivial)
def lH : Sm := fun args σ => match args, σ with
 | [.int .u8 k, .int .i64 id], [] => some (True, c8 ⟨k, id, 0, 0, 0, []⟩, none)
 | _, _ => none
theorem nY : aa 23 lH := by
 intro args sg pre x r he hp
 unfold lH at he
 split at he <;> cases he
 . exact Hq (hp := hp) ..
theorem Hu (id : Int) (t : List UInt8) (hp : True) : OK 52 ([.int .i64 id, .str t]) ([]) (c8 ⟨115, id, 0, 0, 0, t⟩) (none) := by
 refine af (C := cx []) (ah trivial) (fn := Tryz.f52) rfl rfl rfl rfl fun hw hs => ?_
 all_goals try conv => whnf
 all_goals try (refine a8.mk ?_; try dsimp only)
 all_goals try refine stay ?_
 refine a7.mk [] ?_ <;> (repeat' first | trivial)
def tD : Sm := fun args σ => match args, σ with
 | [.int .i64 id, .str t], [] => some (True, c8 ⟨115, id, 0, 0, 0, t⟩, none)
 | _, _ => none
theorem AM : aa 52 tD := by
 intro args sg pre x r he hp
 unfold tD at he
 split at he <;> cases he
 . exact Hu (hp := hp) ..
theorem Hv (id k n : Int) (hp : True) : OK 53 ([.int .i64 id, .int .u8 k, .int .i64 n]) ([]) (c8 ⟨110, id, n, k, 0, []⟩) (none) := by
 refine af (C := cx []) (ah trivial) (fn := Tryz.f53) rfl rfl rfl rfl fun hw hs => ?_
 all_goals try conv => whnf
 all_goals try (refine a8.mk ?_; try dsimp only)
 all_goals try refine stay ?_
 refine a7.mk [] ?_ <;> (repeat' first | trivial)
def tE : Sm := fun args σ => match args, σ with
 | [.int .i64 id, .int .u8 k, .int .i64 n], [] => some (True, c8 ⟨110, id, n, k, 0, []⟩, none)
 | _, _ => none
theorem AN : aa 53 tE := by
 intro args sg pre x r he hp
 unfold tE at he
 split at he <;> cases he
 . exact Hv (hp := hp) ..
theorem Hy (v : ae) : OK 54 [ev v] [] (.int .i64 (cz v.kind)) none := by
 refine af (C := cx []) (ah trivial) (fn := Tryz.f54) rfl rfl rfl rfl fun hw _ => ?_
 repeat' ((conv => whnf); (apply al <;> intro h))
 all_goals try conv => whnf
 all_goals try (refine a8.mk ?_; try dsimp only)
 all_goals try refine stay ?_
 all_goals
  have he : cz v.kind = cz v.kind := rfl
  conv at he => rhs; unfold cz
  repeat (first | rw [if_pos (by omega)] at he | rw [if_neg (by omega)] at he)
  rw [he]
  refine a7.mk [] ?_ <;> (repeat' first | trivial)
def xu : Sm := fun args σ => match args, σ with
 | [x], [] => some (dV x, .int .i64 (cz (aY x).kind), none)
 | _, _ => none
theorem Jw : aa 54 xu := by
 intro args sg pre x r he hp
 unfold xu at he
 split at he <;> cases he
 exact (Hy _).args (aq.cons hp aq.nil)
theorem Hx (v : ae) (h1 : v.ok) (h2 : v.size ≤ 300000) : OK 55 [ev v] [] (c8 (du v (text v))) none := by
 refine af (C := cx [(23, lH), (52, tD), (53, tE), (56, sP)]) (ah ⟨nY, AM, AN, Ai, trivial⟩) (fn := Tryz.f55) rfl rfl rfl rfl fun hw _ => ?_
 repeat' ((conv => whnf); first | apply a9 | (apply al <;> intro h))
 all_goals try conv => whnf
 all_goals try (refine a8.mk ?_; try dsimp only)
 all_goals (try simp only [oL, oM, kr] at *)
 all_goals first | refine stay ?_ | trivial | skip
 all_goals (try simp only [az] at *)
 all_goals first
  | exact ⟨ba v, h1, h2⟩
  | (show a7 _ _ _ _ _ _
     have he : du v (text v) = du v (text v) := rfl
     conv at he => rhs; unfold du
     repeat (first | rw [if_pos (by omega)] at he | rw [if_neg (by omega)] at he)
     rw [he]
     refine a7.mk [] ?_ <;> (repeat' first | trivial)
     )
  | skip
def xt : Sm := fun args σ => match args, σ with
 | [x], [] => some (dV x ∧ (aY x).ok ∧ (aY x).size ≤ 300000, c8 (du (aY x) (text (aY x))), none)
 | _, _ => none
theorem Jv : aa 55 xt := by
 intro args sg pre x r he hp
 unfold xt at he
 split at he <;> cases he
 exact (Hx _ hp.2.1 hp.2.2).args (aq.cons hp.1 aq.nil)
theorem Hr (id : Int) (a : ak) (h1 : a.value.ok) (h2 : a.value.size ≤ 300000) : OK 21 [.int .i64 id, ea a] [] (.list true 6 ((cL id a.key a.value (text a.value)).map c8)) none := by
 refine af (C := cx [(23, lH), (52, tD), (54, xu), (53, tE), (55, xt)]) (ah ⟨nY, AM, Jw, AN, Jv, trivial⟩) (fn := Tryz.f21) rfl rfl rfl rfl fun hw _ => ?_
 unfold cL
 simp only [List.map_cons, List.map_nil]
 repeat' ((conv => whnf); apply a9)
 all_goals try conv => whnf
 all_goals try (refine a8.mk ?_; try dsimp only)
 all_goals (try simp only [az] at *)
 all_goals first
  | exact ba _
  | exact ⟨ba _, h1, h2⟩
  | skip
 refine a7.mk [] ?_ <;> (repeat' first | trivial)
def oA : Sm := fun args σ => match args, σ with
 | [.int .i64 id, y], [] => some (Wk y (ea (cD y)) ∧ (cD y).value.ok ∧ (cD y).value.size ≤ 300000, .list true 6 ((cL id (cD y).key (cD y).value (text (cD y).value)).map c8), none)
 | _, _ => none
theorem s3 : aa 21 oA := by
 intro args sg pre x r he hp
 unfold oA at he
 split at he <;> cases he
 exact (Hr _ _ hp.2.1 hp.2.2).args (aq.cons (Wk.refl _) (aq.cons hp.1 aq.nil))
theorem uW : ∀ l : List ak, ((l.map aL).flatten).length = 5 * l.length
 | [] => rfl
 | a :: l => by
   rw [List.map_cons, List.flatten_cons, List.length_append, uW l, List.length_cons]
   show 5 + _ = _
   omega
theorem zB {l : List ak} {i : Nat} (h : i < l.length) : (((l.take (i + 1)).map aL).flatten) = ((l.take i).map aL).flatten ++ aL (l.getD i default) := by
 rw [qZ h, List.map_append, List.flatten_append]; simp
theorem Hs (id : Int) (l : List ak) (hz : cX l) (h0 : 0 < l.length) : OK 22 [.int .i64 id, .list false 7 (bB l)] [] (.list false 6 ((dx id l).map c8)) none := by
 refine af (C := cx [(21, oA), (23, lH)]) (ah ⟨s3, nY, trivial⟩) (fn := Tryz.f22) rfl rfl rfl rfl fun hw _ => ?_
 have hl := jW l
 have hz2 := hz.z
 rw [iH]
 have e1 : (l.map ea).length = l.length := by simp
 repeat' ((conv => whnf); (apply al <;> intro h))
 all_goals try conv => whnf
 all_goals try (refine a8.mk ?_; try dsimp only)
 . exfalso; omega
 refine bd.mk Nat (fun i => i ≤ l.length) (fun i => if i = 0 then ⟨32, [(0, .int .i64 id), (1, .list false 7 (l.map ea)), (5, .list true 6 [c8 ⟨91, id, l.length, 12, 0, []⟩]), (6, .int .i64 0)], [], []⟩ else ⟨32, [(0, .int .i64 id), (1, .list false 7 (l.map ea)), (5, .buf 0), (6, .int .i64 i)], [.buf 6 0 ((⟨91, id, l.length, 12, 0, []⟩ :: ((l.take i).map aL).flatten).map c8)], [0]⟩) (fun i => l.length - i) [] 0 (Nat.zero_le _) ?_ (fun i hi _ _ => ?_)
 . rw [if_pos rfl]
   refine Go.VG.Sub.mk rfl ?_ ?_ ?_ ?_ <;> (repeat' first | trivial | apply ab | apply au | apply cJ | apply cK | apply aM)
   rw [e1]
 have hA : ∀ i, i < l.length → (l.getD i default).value.ok ∧ (l.getD i default).value.size ≤ 300000 := fun i h => by
  have h1 := sm h
  have h2 := qA h1
  exact ⟨hz.ok _ h1, by omega⟩
 by_cases hi0 : i = 0
 . subst hi0
   rw [if_pos rfl]
   repeat' ((conv => whnf); first | apply a9 | (apply al <;> intro h) | with_reducible apply iL)
   all_goals try conv => whnf
   all_goals try (refine a8.mk ?_; try dsimp only)
   all_goals (try simp only [uJ, Int.toNat_zero] at *)
   . exact Int.le_refl 0
   . exact h0
   . exact ⟨Wk.refl _, hA 0 h0⟩
   . show 1 + 5 ≤ 4294967296
     decide
   . exact .inr (by unfold cL; simp)
   . refine ⟨[], 1, by omega, ?_, by omega⟩
     rw [if_neg (by decide)]
     refine Go.VG.Sub.mk rfl ?_ ?_ ?_ ?_ <;> (repeat' first | trivial | apply ab | apply aE | apply aM)
     have := zB (l := l) h0
     rw [this]; rfl
   all_goals (exfalso; omega)
 rw [if_neg hi0]
 have hfl := uW (l.take i)
 have htl : (l.take i).length ≤ l.length := by simp only [List.length_take]; omega
 have hT : ∀ k v t, (cL 0 k v t).length = 5 := fun _ _ _ => rfl
 repeat' ((conv => whnf); first | apply a9 | (apply al <;> intro h) | with_reducible apply jd)
 all_goals try conv => whnf
 all_goals try (refine a8.mk ?_; try dsimp only)
 all_goals (try simp only [uJ, Int.toNat_natCast] at *)
 all_goals try first
  | omega
  | exact ⟨Wk.refl _, hA i (by omega)⟩
 . simp only [List.length_map, List.length_cons, hfl, hT]
   omega
 . refine ⟨[], i + 1, by omega, ?_, by omega⟩
   rw [if_neg (by omega), show IntKind.i64.wrap ((i : Int) + 1) = ((i + 1 : Nat) : Int) by rw [bU]; omega]
   refine Go.VG.Sub.mk rfl ?_ ?_ ?_ ?_ <;> (repeat' first | trivial | apply ab | apply aE | apply aM)
   . have := zB (l := l) (i := i) (by omega)
     rw [this, List.map_append]; rfl
 . simp only [List.length_map, List.length_cons, hfl, List.length_nil]
   omega
 . have hi2 : i = l.length := by omega
   subst hi2
   unfold dx
   rw [if_neg hi0]
   refine a7.mk [.bH 0] ?_ <;> (repeat' first | trivial | apply ab | apply cJ | apply aM)
   rw [List.take_length, List.map_append]; rfl
def xp : Sm := fun args σ => match args, σ with
 | [.int .i64 id, y], [] => some ((dK y ∧ cX (bF y)) ∧ 0 < (bF y).length, .list false 6 ((dx id (bF y)).map c8), none)
 | _, _ => none
theorem Jt : aa 22 xp := by
 intro args sg pre x r he hp
 unfold xp at he
 split at he <;> cases he
 exact (Hs _ _ hp.1.2 hp.2).args (aq.cons (Wk.refl _) (aq.cons hp.1.1 aq.nil))
theorem Ht (id : Int) : OK 22 [.int .i64 id, .list false 7 []] [] (.list true 0 []) none := by
 refine af (C := cx [(21, oA), (23, lH)]) (ah ⟨s3, nY, trivial⟩) (fn := Tryz.f22) rfl rfl rfl rfl fun hw _ => ?_
 all_goals try conv => whnf
 all_goals try (refine a8.mk ?_; try dsimp only)
 refine a7.mk [] ?_ <;> (repeat' first | trivial)
def xq : Sm := fun args σ => match args, σ with
 | [.int .i64 id, y], [] => some (dK y ∧ bF y = [], .list true 0 [], none)
 | _, _ => none
theorem Ju : aa 22 xq := by
 intro args sg pre x r he hp
 unfold xq at he
 split at he <;> cases he
 have hy := hp.1
 unfold dK at hy
 rw [hp.2] at hy
 exact (Ht _).args (aq.cons (Wk.refl _) (aq.cons hy aq.nil))
end Go.Proofs.YtipejldppicijaaGreatDoor
