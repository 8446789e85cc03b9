/-
  The laws JstringBack and JstringOne.
-/
import Derived.Test.YtgbkjecepncjoaaJBr
import Derived.Test.YtgbkjecepncjoaaJRw
set_option linter.unusedSimpArgs false
set_option linter.unusedVariables false
set_option maxHeartbeats 4000000
namespace Go.Proofs.Ytgbkjecepncjoaa
open Go Go.VG
set_option maxRecDepth 100000
theorem part_len4 (t : List UInt8) (i : Nat) : (partD t i).2.2 = 0 → (partD t i).1.length ≤ 4 := by
  have hr := uRune_le t i
  unfold partD
  repeat' split
  all_goals intro h
  · have := esc_next t (i + 1) h; omega
  · exfalso; simp at h
  · exfalso; simp at h
  · show ((t.take (i + (uRune t i).2)).drop i).length ≤ 4
    rw [List.length_drop, List.length_take]; omega
theorem go_len : ∀ (t : List UInt8) (n i : Nat) (o : List UInt8), (readDGo t n i o).2.2.length ≤ o.length + 4 * n
  | t, 0, _, _ => by rw [readDGo]; simp
  | t, n + 1, i, o => by
    rw [readDGo]
    repeat' split
    · simp
    · show o.length ≤ _; omega
    · simp
    · have h := part_len4 t i (by omega)
      have := go_len t n (partD t i).2.1.toNat (o ++ (partD t i).1)
      rw [List.length_append] at this; omega
theorem readD_len (s : List UInt8) : (Cu.new s).readD.2.length ≤ 4 * s.length := by
  unfold Cu.readD Cu.new
  simp only
  repeat' split
  all_goals first
    | (simp; done)
    | (have := go_len (s.take s.length) (s.length - 0) (0 + 1) []; simp at this ⊢; omega)
theorem read_len (s : List UInt8) : (Cu.new s).read.2.length ≤ 4 * s.length := by rw [(read_eq (new_ok s)).1]; exact readD_len s
theorem f_jsBack_1 (p : List UInt8) (s : List UInt8) (r : List UInt8) (hp : p.length + s.length + r.length ≤ 1500000) : OK 4 ([.str p, .str s, .str r]) ([]) (.bool true) (none) := by
  refine funOK_of_vc (C := cx [(13, sm_jstringPut), (14, sm_r10Text), (15, sm_jsSize), (16, sm_uCheck), (17, sm_jsWorks), (18, sm_cNew), (19, sm_jsRead), (20, sm_cErr), (21, sm_cLeft)]) (good ⟨k_jstringPut, k_r10Text, k_jsSize, k_uCheck, k_jsWorks, k_cNew, k_jsRead, k_cErr, k_cLeft, trivial⟩) (fn := Try.f4) rfl rfl rfl rfl fun hw hs => ?_
  have hq := quote_len s
  have hbl : (bl p).length = p.length := bl_length p
  have hd : List.drop (p.length : Int).toNat (p ++ quote s) = quote s := List.drop_left
  have k0 := new_ok (quote s ++ r)
  have k1 := (read_ok k0).1
  have k2 : ¬ uCheck s ≥ 0 → (Cu.new (quote s ++ r)).read = (⟨quote s ++ r, (quote s).length, (quote s ++ r).length, 0⟩, s) := fun h => read_quote (check_txt.1 h) r
  have k3 : (Cu.new (quote s ++ r)).s.length = (quote s).length + r.length := List.length_append
  repeat' (
      conv => whnf
      first
      | refine req_i ?_ ?_
      | refine when_i ?_ ?_
      | refine brn_not ?_
      | refine brn_dec (fun h => ?_) (fun h => ?_)
      | refine brn_int (fun h => ?_) (fun h => ?_)
      | refine brn_intne (fun h => ?_) (fun h => ?_)
      | refine brn_str (fun h => ?_) (fun h => ?_)
      | refine brn_i (fun h => ?_) (fun h => ?_)
      | with_reducible refine IdxK.mk _ rfl ?_
      | with_reducible refine idx_blI ?_ (fun hc => ?_)
      | with_reducible refine idx_bl ?_ (fun hc => ?_)
      | with_reducible refine idx_strI ?_ (fun hc => ?_)
      | with_reducible refine idx_str ?_ (fun hc => ?_)
      | with_reducible refine idx_mapDI ?_ ?_
      | with_reducible refine idx_mapD ?_ ?_
      | with_reducible refine idx_at ?_ (fun b hb => ?_)
      | refine ex_bl ?_
      | refine ex_b1 ?_ ?_
      | refine ex_b2 ?_ ?_ ?_
      | refine ex_b3 ?_ ?_ ?_ ?_
      | refine ex_b4 ?_ ?_ ?_ ?_ ?_
      | refine optK_setL ?_ ?_
      | refine optK_takeL ?_ ?_
      | with_reducible refine forceDs_i ?_
      )
  all_goals try (conv => whnf)
  all_goals try (refine Side.mk ?_; try dsimp only)
  all_goals (try simp only [Cu_eta] at *)
  all_goals first
    | (show LoopP _ _ _ _; skip)
    | (show EndP _ _ _ _ _ _; skip)
    | (show ∃ _, _; skip)
    | (first
          | trivial
          | omega
          | (simp (discharger := omega) only [wu8, wu16, wu32, wu64, wi32, wi64, Int.tdiv_eq_ediv_of_nonneg, Int.tmod_eq_emod_of_nonneg]; omega)
          | (simp only [List.length_append, List.length_cons, List.length_nil, bl_length, List.length_take, List.length_drop]; omega)
          | (simp (discharger := omega) [-List.getD_eq_getElem?_getD, wu8, wu16, wu32, wu64, wi32, wi64, Int.tdiv_eq_ediv_of_nonneg, Int.tmod_eq_emod_of_nonneg]; done)
          | (simp (discharger := omega) [-List.getD_eq_getElem?_getD, wu8, wu16, wu32, wu64, wi32, wi64, Int.tdiv_eq_ediv_of_nonneg, Int.tmod_eq_emod_of_nonneg]; omega))
    | skip
  refine ex_bl2 ?_
  repeat' (
      conv => whnf
      first
      | refine req_i ?_ ?_
      | refine when_i ?_ ?_
      | refine brn_not ?_
      | refine brn_dec (fun h => ?_) (fun h => ?_)
      | refine brn_int (fun h => ?_) (fun h => ?_)
      | refine brn_intne (fun h => ?_) (fun h => ?_)
      | refine brn_str (fun h => ?_) (fun h => ?_)
      | refine brn_i (fun h => ?_) (fun h => ?_)
      | with_reducible refine IdxK.mk _ rfl ?_
      | with_reducible refine idx_blI ?_ (fun hc => ?_)
      | with_reducible refine idx_bl ?_ (fun hc => ?_)
      | with_reducible refine idx_strI ?_ (fun hc => ?_)
      | with_reducible refine idx_str ?_ (fun hc => ?_)
      | with_reducible refine idx_mapDI ?_ ?_
      | with_reducible refine idx_mapD ?_ ?_
      | with_reducible refine idx_at ?_ (fun b hb => ?_)
      | refine ex_bl ?_
      | refine ex_b1 ?_ ?_
      | refine ex_b2 ?_ ?_ ?_
      | refine ex_b3 ?_ ?_ ?_ ?_
      | refine ex_b4 ?_ ?_ ?_ ?_ ?_
      | refine optK_setL ?_ ?_
      | refine optK_takeL ?_ ?_
      | with_reducible refine forceDs_i ?_
      )
  all_goals try (conv => whnf)
  all_goals try (refine Side.mk ?_; try dsimp only)
  all_goals (try simp only [Cu_eta] at *)
  all_goals first
    | (show LoopP _ _ _ _; skip)
    | (show EndP _ _ _ _ _ _; skip)
    | (show ∃ _, _; skip)
    | (first
          | trivial
          | omega
          | (simp (discharger := omega) only [wu8, wu16, wu32, wu64, wi32, wi64, Int.tdiv_eq_ediv_of_nonneg, Int.tmod_eq_emod_of_nonneg]; omega)
          | (simp only [List.length_append, List.length_cons, List.length_nil, bl_length, List.length_take, List.length_drop]; omega)
          | (simp (discharger := omega) [-List.getD_eq_getElem?_getD, wu8, wu16, wu32, wu64, wi32, wi64, Int.tdiv_eq_ediv_of_nonneg, Int.tmod_eq_emod_of_nonneg]; done)
          | (simp (discharger := omega) [-List.getD_eq_getElem?_getD, wu8, wu16, wu32, wu64, wi32, wi64, Int.tdiv_eq_ediv_of_nonneg, Int.tmod_eq_emod_of_nonneg]; omega))
    | skip
  all_goals (try rw [hd] at *)
  all_goals first
    | exact ⟨trivial, k0, by omega⟩
    | exact ⟨trivial, k1⟩
    | exact absurd rfl (by assumption)
    | exact absurd (show (Cu.new (quote s ++ r)).read.2 = s by rw [k2 (by assumption)]) (by assumption)
    | exact absurd (show (Cu.new (quote s ++ r)).read.1.c = 0 by rw [k2 (by assumption)]) (by assumption)
    | exact absurd (show (Cu.new (quote s ++ r)).read.1.left = (r.length : Int) by rw [k2 (by assumption)]; unfold Cu.left; simp only [List.length_append]; omega) (by assumption)
    | exact absurd (show ((quote s).length : Int) = IntKind.i64.wrap (((p ++ quote s).length : Int) - p.length) by rw [List.length_append]; (first | omega | (simp (discharger := omega) only [wu8, wu16, wu32, wu64, wi32, wi64, Int.tdiv_eq_ediv_of_nonneg, Int.tmod_eq_emod_of_nonneg]; omega) | (simp only [List.length_append, List.length_cons, List.length_nil, bl_length, List.length_take, List.length_drop]; omega) | (simp (discharger := omega) [-List.getD_eq_getElem?_getD, wu8, wu16, wu32, wu64, wi32, wi64, Int.tdiv_eq_ediv_of_nonneg, Int.tmod_eq_emod_of_nonneg]; done) | (simp (discharger := omega) [-List.getD_eq_getElem?_getD, wu8, wu16, wu32, wu64, wi32, wi64, Int.tdiv_eq_ediv_of_nonneg, Int.tmod_eq_emod_of_nonneg]; omega))) (by assumption)
    | (show EndP _ _ _ _ _ _
       refine EndP.mk [] ?_ <;> (repeat' (first | trivial | rfl | exact scopedL_bl _ _ | refine And.intro ?_ ?_ | refine congrArg V.str ?_ | refine congrArg (V.int _) ?_ | refine congrArg V.bool ?_ | refine congrArg (O.buf _ _) ?_ | refine congrArg O.cells ?_ | refine congrArg (V.list _ _) ?_ | refine congrArg V.agg ?_ | refine congrArg V.tuple ?_ | refine cons_eq ?_ ?_))
       done)
    | skip
def sm_jsBack : Sm := fun args σ => match args, σ with
  | [.str p, .str s, .str r], [] => some (p.length + s.length + r.length ≤ 1500000, .bool true, none)
  | _, _ => none
theorem k_jsBack : SOK 4 sm_jsBack := by
  intro args sg pre x r he hp
  unfold sm_jsBack at he
  split at he <;> cases he
  · exact f_jsBack_1 (hp := hp) ..
theorem f_jsOne_1 (s : List UInt8) (t : List UInt8) (hp : s.length + t.length ≤ 1500000) : OK 6 ([.str s, .str t]) ([]) (.bool true) (none) := by
  refine funOK_of_vc (C := cx [(13, sm_jstringPut), (16, sm_uCheck), (17, sm_jsWorks), (18, sm_cNew), (19, sm_jsRead), (20, sm_cErr), (25, sm_cEnd)]) (good ⟨k_jstringPut, k_uCheck, k_jsWorks, k_cNew, k_jsRead, k_cErr, k_cEnd, trivial⟩) (fn := Try.f6) rfl rfl rfl rfl fun hw hs => ?_
  have k0 := new_ok s
  have k1 := read_len s
  have k2 : ∀ x, (Cu.new x).s = x := fun _ => rfl
  have k3 : (Cu.new s).read.1.c = 0 → Txt (Cu.new s).read.2 := read_txt k0 rfl
  have k4 : (Cu.new s).read.1.c = 0 → ¬ uCheck (Cu.new s).read.2 ≥ 0 := fun h => check_txt.2 (k3 h)
  have k5 : (Cu.new s).read.1.c = 0 → (Cu.new (quote (Cu.new s).read.2)).read = (⟨quote (Cu.new s).read.2, (quote (Cu.new s).read.2).length, (quote (Cu.new s).read.2).length, 0⟩, (Cu.new s).read.2) := fun h => by
    have := read_quote (k3 h) []
    rwa [List.append_nil] at this
  have k6 := quote_len (Cu.new s).read.2
  have k7 := new_ok (quote (Cu.new s).read.2)
  have k8 := (read_ok k7).1
  have k9 : (quote s == quote t) = (s == t) := by
    by_cases e : s = t
    · subst e; simp
    · rw [beq_eq_false_iff_ne.2 e, beq_eq_false_iff_ne.2 (fun h => e (quote_inj.1 h))]
  repeat' (
      conv => whnf
      first
      | refine req_i ?_ ?_
      | refine when_i ?_ ?_
      | refine brn_not ?_
      | refine brn_dec (fun h => ?_) (fun h => ?_)
      | refine brn_int (fun h => ?_) (fun h => ?_)
      | refine brn_intne (fun h => ?_) (fun h => ?_)
      | refine brn_str (fun h => ?_) (fun h => ?_)
      | refine brn_i (fun h => ?_) (fun h => ?_)
      | with_reducible refine IdxK.mk _ rfl ?_
      | with_reducible refine idx_blI ?_ (fun hc => ?_)
      | with_reducible refine idx_bl ?_ (fun hc => ?_)
      | with_reducible refine idx_strI ?_ (fun hc => ?_)
      | with_reducible refine idx_str ?_ (fun hc => ?_)
      | with_reducible refine idx_mapDI ?_ ?_
      | with_reducible refine idx_mapD ?_ ?_
      | with_reducible refine idx_at ?_ (fun b hb => ?_)
      | refine ex_bl ?_
      | refine ex_b1 ?_ ?_
      | refine ex_b2 ?_ ?_ ?_
      | refine ex_b3 ?_ ?_ ?_ ?_
      | refine ex_b4 ?_ ?_ ?_ ?_ ?_
      | refine optK_setL ?_ ?_
      | refine optK_takeL ?_ ?_
      | with_reducible refine forceDs_i ?_
      )
  all_goals try (conv => whnf)
  all_goals try (refine Side.mk ?_; try dsimp only)
  all_goals (try simp only [Cu_eta] at *)
  all_goals first
    | (show LoopP _ _ _ _; skip)
    | (show EndP _ _ _ _ _ _; skip)
    | (show ∃ _, _; skip)
    | (first
          | trivial
          | omega
          | (simp (discharger := omega) only [wu8, wu16, wu32, wu64, wi32, wi64, Int.tdiv_eq_ediv_of_nonneg, Int.tmod_eq_emod_of_nonneg]; omega)
          | (simp only [List.length_append, List.length_cons, List.length_nil, bl_length, List.length_take, List.length_drop]; omega)
          | (simp (discharger := omega) [-List.getD_eq_getElem?_getD, wu8, wu16, wu32, wu64, wi32, wi64, Int.tdiv_eq_ediv_of_nonneg, Int.tmod_eq_emod_of_nonneg]; done)
          | (simp (discharger := omega) [-List.getD_eq_getElem?_getD, wu8, wu16, wu32, wu64, wi32, wi64, Int.tdiv_eq_ediv_of_nonneg, Int.tmod_eq_emod_of_nonneg]; omega))
    | skip
  all_goals first
    | exact ⟨trivial, k0, by rw [k2]; omega⟩
    | exact ⟨trivial, k7, by rw [k2]; omega⟩
    | exact ⟨trivial, k8⟩
    | (show (Cu.new s).read.2.length ≤ _; omega)
    | exact absurd k9 (by assumption)
    | exact absurd (by assumption) (k4 (by assumption))
    | exact absurd (show (Cu.new (quote (Cu.new s).read.2)).read.2 = (Cu.new s).read.2 by rw [k5 (by assumption)]) (by assumption)
    | exact absurd (show (Cu.new (quote (Cu.new s).read.2)).read.1.fin = 0 by rw [k5 (by assumption)]; unfold Cu.fin; simp) (by assumption)
    | (show EndP _ _ _ _ _ _
       refine EndP.mk [] ?_ <;> (repeat' (first | trivial | rfl | exact scopedL_bl _ _ | refine And.intro ?_ ?_ | refine congrArg V.str ?_ | refine congrArg (V.int _) ?_ | refine congrArg V.bool ?_ | refine congrArg (O.buf _ _) ?_ | refine congrArg O.cells ?_ | refine congrArg (V.list _ _) ?_ | refine congrArg V.agg ?_ | refine congrArg V.tuple ?_ | refine cons_eq ?_ ?_))
       done)
    | skip
def sm_jsOne : Sm := fun args σ => match args, σ with
  | [.str s, .str t], [] => some (s.length + t.length ≤ 1500000, .bool true, none)
  | _, _ => none
theorem k_jsOne : SOK 6 sm_jsOne := by
  intro args sg pre x r he hp
  unfold sm_jsOne at he
  split at he <;> cases he
  · exact f_jsOne_1 (hp := hp) ..
end Go.Proofs.Ytgbkjecepncjoaa
