/-
  A message that is written: parts within parts, and what is laid of them (numbers and texts alone).
-/
import Derived.Test.YtkkfdkfopdjomaaDoorMWe
set_option linter.unusedSimpArgs false
set_option linter.unusedVariables false
set_option maxHeartbeats 4000000
namespace Go.Proofs.YtkkfdkfopdjomaaDoor
open Go Go.VG
set_option maxRecDepth 100000
theorem f_pFPutW_1 (l : List V) (f : Pf) (hp : (f.wi = 0 ∨ f.wi = 2) ∧ l.length ≤ 800000000 ∧ f.text.length ≤ 1000000000) : OK 107 ([.buf 0, ePf f]) ([.buf 1 0 l]) (.buf 1) (some [.buf 1 0 l, .buf 1 0 (l ++ bl (fldB f))]) := by
  refine funOK_of_vc (C := cx [(100, sm_pTagPut), (44, sm_pMay), (99, sm_vPut)]) (good ⟨k_pTagPut, k_pMay, k_vPut, trivial⟩) (fn := Tryd.f107) rfl rfl rfl rfl fun hw hs => ?_
  have hn : 0 ≤ f.num ∧ f.num ≤ 18446744073709551615 := hw.2.1.2.2.1
  have ht := tagB_len f.no f.wi
  have h4 := vput_len (u := f.text.length) (by omega)
  have hwt : IntKind.u64.wrap (f.text.length : Int) = f.text.length := by rw [wu64]; omega
  have h5 : 0 ≤ IntKind.u32.wrap f.num ∧ IntKind.u32.wrap f.num ≤ 4294967295 := by rw [wu32]; omega
  have h6 : low 4 (IntKind.u32.wrap f.num).toNat = low 4 f.num.toNat := by
    rw [← low_mod 4 f.num.toNat, show (IntKind.u32.wrap f.num).toNat = f.num.toNat % 256 ^ 4 by rw [wu32, show 256 ^ 4 = 4294967296 by decide]; omega]
  have hl6 : (l ++ bl (tagB f.no f.wi)).length ≤ 2000000000 := by rw [List.length_append, bl_length]; omega
  obtain ⟨hw0, hp⟩ := hp
  repeat' ((conv => whnf); first | with_reducible (first | refine go1 (fun j q h => ?_) fun h => ?_ | refine go2 ⟨rfl, rfl⟩ (fun h => ?_) fun j h => ?_ | refine go2 ?_ (fun h => ?_) fun j h => ?_ | refine goQ ?_ (fun h => ?_) fun h => ?_) | apply go3 | apply go4 | apply go5 | ((first | apply go6 | apply go7 | apply go8 | apply go9 | apply goA) <;> intro h) | with_reducible (first | refine IdxK.mk _ rfl ?_ | refine call_ite (fun h => ?_) fun h => ?_ | refine goB ?_ fun hc => ?_ | refine goC ?_ fun hc => ?_ | refine goD ?_ fun hc => ?_ | refine goE ?_ fun hc => ?_ | apply goF | apply goG | refine goH ?_ fun b hb => ?_) | apply goI | apply goJ | apply goK | apply goL | apply goM | apply goN | apply goO | with_reducible refine goP ?_)
  all_goals try conv => whnf
  all_goals try (refine Side.mk ?_; try dsimp only)
  all_goals (try simp only [hwt, Int.toNat_natCast, h6] at *)
  all_goals (try simp only [Cu_eta] at *)
  all_goals first | refine stay ?_ | trivial | omega | (simp (discharger := omega) only [wR]; omega) | (simp only [lnS]; omega) | (simp (discharger := omega) [-List.getD_eq_getElem?_getD, wR] <;> omega) | skip
  all_goals
    first
    | exact ⟨h5, hl6⟩
    | (exfalso; omega)
    | skip
  all_goals
    have hf : fldB f = fldB f := rfl
    conv at hf => rhs; unfold fldB conB
    first
    | (have hm : mayT f.no f.wi = true := decide_eq_true (by assumption)
       rw [if_pos hm] at hf
       repeat (first | rw [if_pos (by assumption)] at hf | rw [if_neg (by assumption)] at hf)
       show EndP _ _ _ _ _ _
       rw [hf]
       (refine EndP.mk [.swap 1 4] ?_ <;> (repeat' first | trivial | rfl | exact eqS _ _ | apply andI | apply eqA | apply eqB | apply eqC | apply eqD | apply eqE | apply eqF | apply eqG | apply eqH | apply eqI))
       all_goals
         first | skip
         simp only [h6, bl_append, List.append_assoc]
       done)
    | (have hm : mayT f.no f.wi = false := decide_eq_false (by assumption)
       have hg : tagB f.no f.wi = [] := by unfold tagB; rw [hm, if_neg Bool.false_ne_true]
       rw [hm, if_neg Bool.false_ne_true] at hf
       rw [hf, hg]
       (refine EndP.mk [.swap 1 3] ?_ <;> (repeat' first | trivial | rfl | exact eqS _ _ | apply andI | apply eqA | apply eqB | apply eqC | apply eqD | apply eqE | apply eqF | apply eqG | apply eqH | apply eqI))
       done)
def sm_pFPutW : Sm := fun args σ => match args, σ with
  | [.buf 0, .agg [.int .i64 n_f, .int .i64 w_f, .int .u64 u_f, .str t_f]], [.buf 1 0 l] => some (True ∧ (((Pf.mk n_f w_f u_f t_f).wi = 0 ∨ (Pf.mk n_f w_f u_f t_f).wi = 2) ∧ l.length ≤ 800000000 ∧ (Pf.mk n_f w_f u_f t_f).text.length ≤ 1000000000), .buf 1, some [.buf 1 0 l, .buf 1 0 (l ++ bl (fldB (Pf.mk n_f w_f u_f t_f)))])
  | _, _ => none
theorem k_pFPutW : SOK 107 sm_pFPutW := by
  intro args sg pre x r he hp
  unfold sm_pFPutW at he
  split at he <;> cases he
  · rw [viewPf (hp).1]; exact f_pFPutW_1 (hp := hp.2) ..
theorem f_mxLay_1 (l : List V) (f : Pf) (hp : (f.wi = 0 ∨ f.wi = 2) ∧ l.length ≤ 800000000 ∧ f.text.length ≤ 1000000000) : OK 105 ([ePf f, .buf 0]) ([.buf 1 0 l]) (.buf 1) (some [.buf 1 0 l, .buf 1 0 (l ++ bl (fldB f))]) := by
  refine funOK_of_vc (C := cx [(107, sm_pFPutW)]) (good ⟨k_pFPutW, trivial⟩) (fn := Tryd.f105) rfl rfl rfl rfl fun hw hs => ?_
  repeat' ((conv => whnf); first | with_reducible (first | refine go1 (fun j q h => ?_) fun h => ?_ | refine go2 ⟨rfl, rfl⟩ (fun h => ?_) fun j h => ?_ | refine go2 ?_ (fun h => ?_) fun j h => ?_ | refine goQ ?_ (fun h => ?_) fun h => ?_) | apply go3 | apply go4 | apply go5 | ((first | apply go6 | apply go7 | apply go8 | apply go9 | apply goA) <;> intro h) | with_reducible (first | refine IdxK.mk _ rfl ?_ | refine call_ite (fun h => ?_) fun h => ?_ | refine goB ?_ fun hc => ?_ | refine goC ?_ fun hc => ?_ | refine goD ?_ fun hc => ?_ | refine goE ?_ fun hc => ?_ | apply goF | apply goG | refine goH ?_ fun b hb => ?_) | apply goI | apply goJ | apply goK | apply goL | apply goM | apply goN | apply goO | with_reducible refine goP ?_)
  all_goals try conv => whnf
  all_goals try (refine Side.mk ?_; try dsimp only)
  · exact ⟨trivial, hp⟩
  · refine EndP.mk [.swap 1 2] ?_ <;> (repeat' first | trivial | rfl | exact eqS _ _ | apply andI | apply eqA | apply eqB | apply eqC | apply eqD | apply eqE | apply eqF | apply eqG | apply eqH | apply eqI)
def sm_mxLay : Sm := fun args σ => match args, σ with
  | [.agg [.int .i64 n_f, .int .i64 w_f, .int .u64 u_f, .str t_f], .buf 0], [.buf 1 0 l] => some (True ∧ (((Pf.mk n_f w_f u_f t_f).wi = 0 ∨ (Pf.mk n_f w_f u_f t_f).wi = 2) ∧ l.length ≤ 800000000 ∧ (Pf.mk n_f w_f u_f t_f).text.length ≤ 1000000000), .buf 1, some [.buf 1 0 l, .buf 1 0 (l ++ bl (fldB (Pf.mk n_f w_f u_f t_f)))])
  | _, _ => none
theorem k_mxLay : SOK 105 sm_mxLay := by
  intro args sg pre x r he hp
  unfold sm_mxLay at he
  split at he <;> cases he
  · rw [viewPf (hp).1]; exact f_mxLay_1 (hp := hp.2) ..
mutual
/-- a part's bytes -/
def pB : V → List UInt8
  | .iface _ x => qB x
  | _ => []
def qB : V → List UInt8
  | .agg [.int _ no, .int _ wi, .int _ u, .str t] => fldB ⟨no, wi, u, t⟩
  | .agg [.int _ no, .int _ _, x, .int _ n] => tagB no 2 ++ (vput n.toNat ++ xB x)
  | _ => []
def xB : V → List UInt8
  | .box [.list _ _ l, _] _ => psB l
  | _ => []
def psB : List V → List UInt8
  | [] => []
  | v :: l => pB v ++ psB l
end
abbrev eIn (c : Bool) (no : Int) (l : List V) (n : Int) : V := .agg [.int .i64 no, .int .i64 2, .box [.list c 1 l, .int .i64 n] 0, .int .i64 n]
theorem pB_fld (f : Pf) : pB (.iface 112 (ePf f)) = fldB f := by simp only [pB, qB, ePf]
theorem pB_sub (c : Bool) (no : Int) (l : List V) (n : Int) : pB (.iface 97 (eIn c no l n)) = tagB no 2 ++ (vput n.toNat ++ psB l) := by simp only [pB, qB, xB, eIn]
theorem psB_nil : psB [] = [] := by simp only [psB]
theorem psB_cons (v : V) (l : List V) : psB (v :: l) = pB v ++ psB l := by simp only [psB]
/-- parts within so many others -/
inductive OkP : Nat → V → Prop
  | fld (d : Nat) (f : Pf) (ht : f.text.length ≤ 1000000) (hw : f.wi = 0 ∨ f.wi = 2) : OkP d (.iface 112 (ePf f))
  | sub (d : Nat) (c : Bool) (no : Int) (l : List V) (n : Nat) (hn : n = (psB l).length) (h9 : n ≤ 100000000) (hl : l.length ≤ 1000000) (h : ∀ v ∈ l, OkP d v) : OkP (d + 1) (.iface 97 (eIn c no l n))
theorem psB_next {l : List V} {i : Nat} (h : i < l.length) : psB (l.take (i + 1)) = psB (l.take i) ++ pB (l.getD i default) := by
  induction l generalizing i with
  | nil => simp at h
  | cons v l ih =>
    cases i with
    | zero => rw [List.take_succ_cons, List.take_zero, List.take_zero, psB_cons, psB_nil, List.append_nil]; rfl
    | succ i =>
      rw [List.take_succ_cons, List.take_succ_cons, psB_cons, psB_cons, ih (by simpa using h), List.append_assoc]; rfl
theorem psB_app (l k : List V) : psB (l ++ k) = psB l ++ psB k := by
  induction l with
  | nil => rw [psB_nil]; rfl
  | cons v l ih => rw [List.cons_append, psB_cons, psB_cons, ih, List.append_assoc]
theorem psB_take (l : List V) (i : Nat) : (psB (l.take i)).length ≤ (psB l).length := by
  have e := psB_app (l.take i) (l.drop i)
  rw [List.take_append_drop] at e
  rw [e, List.length_append]; omega
def sm_boxL (d : Nat) : Sm := fun args σ => match args, σ with
  | [.box [.list _ 1 (v :: l), .int .i64 _] 0, .buf 0], [.buf 1 0 b] => some ((∀ x ∈ (v :: l), OkP d x) ∧ (v :: l).length ≤ 1000000 ∧ b.length + (psB (v :: l)).length ≤ 500000000, .buf 1, some [.buf 1 0 b, .buf 1 0 (b ++ bl (psB (v :: l)))])
  | [.box [.list _ 1 [], .int .i64 _] 0, .buf 0], [.buf 1 0 b] => some (True, .buf 0, some [.buf 1 0 b])
  | _, _ => none
def sm_inL (d : Nat) : Sm := fun args σ => match args, σ with
  | [.agg [.int .i64 no, .int .i64 2, .box [.list _ 1 l, .int .i64 m] 0, .int .i64 (.ofNat n)], .buf 0], [.buf 1 0 b] => some (m = n ∧ (∀ x ∈ l, OkP d x) ∧ l.length ≤ 1000000 ∧ b.length + (tagB no 2 ++ (vput n ++ psB l)).length ≤ 500000000 ∧ n ≤ 100000000, .buf 1, some [.buf 1 0 b, .buf 1 0 (b ++ bl (tagB no 2 ++ (vput n ++ psB l)))])
  | _, _ => none
theorem k_inL (d : Nat) (hB : SOK 30 (sm_boxL d)) : SOK 97 (sm_inL d) := by
  intro args sg pre x r he hp
  unfold sm_inL at he
  split at he <;> cases he
  rename_i no c l m n b
  obtain ⟨rfl, h1, h2, h3, h5⟩ := hp
  rw [List.length_append, List.length_append] at h3
  have ht := tagB_len no 2
  have hv := vput_len (u := n) (by omega)
  have hw2 : IntKind.u64.wrap (n : Int) = n := by rw [wu64]; omega
  have hw3 : IntKind.u64.wrap (Int.ofNat n) = (n : Int) := hw2
  cases l with
  | nil =>
    rw [psB_nil, List.append_nil]
    refine funOK_of_vc (C := cx [(100, sm_pTagPut), (99, sm_vPut), (30, sm_boxL d)]) (good ⟨k_pTagPut, k_vPut, hB, trivial⟩) (fn := Tryd.f97) rfl rfl rfl rfl fun hw _ => ?_
    repeat' ((conv => whnf); first | with_reducible (first | refine go1 (fun j q h => ?_) fun h => ?_ | refine go2 ⟨rfl, rfl⟩ (fun h => ?_) fun j h => ?_ | refine go2 ?_ (fun h => ?_) fun j h => ?_ | refine goQ ?_ (fun h => ?_) fun h => ?_) | apply go3 | apply go4 | apply go5 | ((first | apply go6 | apply go7 | apply go8 | apply go9 | apply goA) <;> intro h) | with_reducible (first | refine IdxK.mk _ rfl ?_ | refine call_ite (fun h => ?_) fun h => ?_ | refine goB ?_ fun hc => ?_ | refine goC ?_ fun hc => ?_ | refine goD ?_ fun hc => ?_ | refine goE ?_ fun hc => ?_ | apply goF | apply goG | refine goH ?_ fun b hb => ?_) | apply goI | apply goJ | apply goK | apply goL | apply goM | apply goN | apply goO | with_reducible refine goP ?_)
    all_goals try conv => whnf
    all_goals try (refine Side.mk ?_; try dsimp only)
    all_goals (try simp only [hw2, hw3, Int.toNat_natCast] at *)
    · omega
    · exact ⟨by omega, by rw [List.length_append, bl_length]; omega⟩
    · refine EndP.mk [.swap 1 3] ?_ <;> (repeat' first | trivial | rfl | exact eqS _ _ | apply andI | apply eqA | apply eqB | apply eqC | apply eqD | apply eqE | apply eqF | apply eqG | apply eqH | apply eqI)
      simp only [bl_append, List.append_assoc]
  | cons v l =>
    refine funOK_of_vc (C := cx [(100, sm_pTagPut), (99, sm_vPut), (30, sm_boxL d)]) (good ⟨k_pTagPut, k_vPut, hB, trivial⟩) (fn := Tryd.f97) rfl rfl rfl rfl fun hw _ => ?_
    repeat' ((conv => whnf); first | with_reducible (first | refine go1 (fun j q h => ?_) fun h => ?_ | refine go2 ⟨rfl, rfl⟩ (fun h => ?_) fun j h => ?_ | refine go2 ?_ (fun h => ?_) fun j h => ?_ | refine goQ ?_ (fun h => ?_) fun h => ?_) | apply go3 | apply go4 | apply go5 | ((first | apply go6 | apply go7 | apply go8 | apply go9 | apply goA) <;> intro h) | with_reducible (first | refine IdxK.mk _ rfl ?_ | refine call_ite (fun h => ?_) fun h => ?_ | refine goB ?_ fun hc => ?_ | refine goC ?_ fun hc => ?_ | refine goD ?_ fun hc => ?_ | refine goE ?_ fun hc => ?_ | apply goF | apply goG | refine goH ?_ fun b hb => ?_) | apply goI | apply goJ | apply goK | apply goL | apply goM | apply goN | apply goO | with_reducible refine goP ?_)
    all_goals try conv => whnf
    all_goals try (refine Side.mk ?_; try dsimp only)
    all_goals (try simp only [hw2, hw3, Int.toNat_natCast] at *)
    · omega
    · exact ⟨by omega, by rw [List.length_append, bl_length]; omega⟩
    · exact ⟨h1, h2, by simp only [List.length_append, bl_length]; omega⟩
    · refine EndP.mk [.swap 1 4] ?_ <;> (repeat' first | trivial | rfl | exact eqS _ _ | apply andI | apply eqA | apply eqB | apply eqC | apply eqD | apply eqE | apply eqF | apply eqG | apply eqH | apply eqI)
      simp only [bl_append, List.append_assoc]
end Go.Proofs.YtkkfdkfopdjomaaDoor
