/-
  A writer of JSON: the document's states.
-/
import Derived.Test.YtgbkjecepncjoaaJWm
set_option linter.unusedSimpArgs false
set_option linter.unusedVariables false
set_option maxHeartbeats 4000000
namespace Go.Proofs.Ytgbkjecepncjoaa
open Go Go.VG
set_option maxRecDepth 100000
structure DS where
  out : List UInt8
  op : List UInt8
  keyed : Bool
  after : Bool
  code : Int
abbrev eD (s : DS) : V := .agg [.str s.out, .str s.op, .bool s.keyed, .bool s.after, .int .i64 s.code]
def DS.last (s : DS) : UInt8 := if s.op = [] then 0 else s.op.getD (s.op.length - 1) 0
def DS.comma (s : DS) : List UInt8 := if s.after = true then [44] else []
def JOp.value (o : JOp) : List UInt8 :=
  if o.kind = 115 then quote o.text else if o.kind = 110 then decI o.n else if o.kind = 116 then [116, 114, 117, 101] else if o.kind = 102 then [102, 97, 108, 115, 101] else [110, 117, 108, 108]
def DS.bad (s : DS) (c : Int) : DS := { s with code := c }
def DS.stop (s : DS) : Prop := (s.op = [] ∧ s.out ≠ []) ∨ (s.last.toNat = 123 ∧ s.keyed = false)
instance (s : DS) : Decidable s.stop := by unfold DS.stop; infer_instance
def DS.does (s : DS) (o : JOp) : DS :=
  if s.code ≠ 0 then s
  else if o.kind = 101 then
    if s.op = [] then s.bad 12 else if s.keyed = true then s.bad 12 else ⟨s.out ++ [s.last + 2], s.op.take (s.op.length - 1), false, true, 0⟩
  else if o.kind = 107 then
    if s.last.toNat = 123 then (if s.keyed = true then s.bad 12 else ⟨s.out ++ s.comma ++ quote o.text ++ [58], s.op, true, false, 0⟩) else s.bad 12
  else if o.kind = 123 ∨ o.kind = 91 then
    if s.op.length ≥ 32 then s.bad 33 else if s.stop then s.bad 12 else ⟨s.out ++ s.comma ++ [byte o.kind], s.op ++ [byte o.kind], false, false, 0⟩
  else if s.stop then s.bad 12
  else ⟨s.out ++ s.comma ++ o.value, s.op, false, true, 0⟩
theorem value_len (o : JOp) (h : -9223372036854775808 ≤ o.n ∧ o.n ≤ 9223372036854775807) : o.value.length ≤ 6 * o.text.length + 30 := by
  have h2 := quote_len o.text
  have h3 := decI_len h.1 h.2
  unfold JOp.value
  repeat' split
  all_goals (first | omega | (simp; done) | (simp; omega))
theorem comma_len (s : DS) : s.comma.length ≤ 1 := by unfold DS.comma; split <;> simp
def DS.done (s : DS) : List UInt8 × Int := if s.code ≠ 0 then ([], s.code) else if s.out = [] ∨ s.op ≠ [] then ([], 1) else (s.out, 0)
theorem viewD {a b : List UInt8} {k f : Bool} {c : Int} (_ : True) : V.agg [.str a, .str b, .bool k, .bool f, .int .i64 c] = eD ⟨a, b, k, f, c⟩ := rfl
theorem viewO {k : Int} {t : List UInt8} {n : Int} (_ : True) : V.agg [.int .u8 k, .str t, .int .i64 n] = eo ⟨k, t, n⟩ := rfl
theorem byte_add2 (x : UInt8) : byte (IntKind.u8.wrap ((x.toNat : Int) + 2)) = x + 2 := by
  refine UInt8.toNat_inj.1 ?_
  have h := x.toNat_lt
  have h2 := byte_toNat (n := ((x.toNat : Int) + 2) % 256) (by omega)
  rw [wu8]
  rw [UInt8.toNat_add]
  show (byte _).toNat = (x.toNat + 2) % 256
  omega
theorem f_r15bad_1 (s : DS) (c : Int) (hp : True) : OK 34 ([eD s, .int .i64 c]) ([]) (eD (s.bad c)) (none) := by
  refine funOK_of_vc (C := cx []) (good trivial) (fn := Try.f34) rfl rfl rfl rfl fun hw hs => ?_
  repeat' (
      conv => whnf
      first
      | refine req_i ?_ ?_
      | refine when_i ?_ ?_
      | refine brn_not ?_
      | refine brn_dec (fun h => ?_) (fun h => ?_)
      | refine brn_int (fun h => ?_) (fun h => ?_)
      | refine brn_intne (fun h => ?_) (fun h => ?_)
      | refine brn_str (fun h => ?_) (fun h => ?_)
      | refine brn_i (fun h => ?_) (fun h => ?_)
      | with_reducible refine IdxK.mk _ rfl ?_
      | with_reducible refine idx_blI ?_ (fun hc => ?_)
      | with_reducible refine idx_bl ?_ (fun hc => ?_)
      | with_reducible refine idx_strI ?_ (fun hc => ?_)
      | with_reducible refine idx_str ?_ (fun hc => ?_)
      | with_reducible refine idx_mapDI ?_ ?_
      | with_reducible refine idx_mapD ?_ ?_
      | with_reducible refine idx_at ?_ (fun b hb => ?_)
      | refine ex_bl ?_
      | refine ex_b1 ?_ ?_
      | refine ex_b2 ?_ ?_ ?_
      | refine ex_b3 ?_ ?_ ?_ ?_
      | refine ex_b4 ?_ ?_ ?_ ?_ ?_
      | refine optK_setL ?_ ?_
      | refine optK_takeL ?_ ?_
      | with_reducible refine forceDs_i ?_
      )
  all_goals try (conv => whnf)
  all_goals try (refine Side.mk ?_; try dsimp only)
  all_goals first
    | (show LoopP _ _ _ _; skip)
    | (show EndP _ _ _ _ _ _; skip)
    | (show ∃ _, _; skip)
    | (first
          | trivial
          | omega
          | (simp (discharger := omega) only [wu8, wu16, wu32, wu64, wi32, wi64, Int.tdiv_eq_ediv_of_nonneg, Int.tmod_eq_emod_of_nonneg]; omega)
          | (simp only [List.length_append, List.length_cons, List.length_nil, bl_length, List.length_take, List.length_drop]; omega)
          | (simp (discharger := omega) [-List.getD_eq_getElem?_getD, wu8, wu16, wu32, wu64, wi32, wi64, Int.tdiv_eq_ediv_of_nonneg, Int.tmod_eq_emod_of_nonneg]; done)
          | (simp (discharger := omega) [-List.getD_eq_getElem?_getD, wu8, wu16, wu32, wu64, wi32, wi64, Int.tdiv_eq_ediv_of_nonneg, Int.tmod_eq_emod_of_nonneg]; omega))
    | skip
  refine EndP.mk [] ?_ <;> (repeat' (first | trivial | rfl | exact scopedL_bl _ _ | refine And.intro ?_ ?_ | refine congrArg V.str ?_ | refine congrArg (V.int _) ?_ | refine congrArg V.bool ?_ | refine congrArg (O.buf _ _) ?_ | refine congrArg O.cells ?_ | refine congrArg (V.list _ _) ?_ | refine congrArg V.agg ?_ | refine congrArg V.tuple ?_ | refine cons_eq ?_ ?_))
def sm_r15bad : Sm := fun args σ => match args, σ with
  | [.agg [.str a_s, .str b_s, .bool k_s, .bool f_s, .int .i64 c_s], .int .i64 c], [] => some (True ∧ (True), eD ((DS.mk a_s b_s k_s f_s c_s).bad c), none)
  | _, _ => none
theorem k_r15bad : SOK 34 sm_r15bad := by
  intro args sg pre x r he hp
  unfold sm_r15bad at he
  split at he <;> cases he
  · rw [viewD (hp).1]; exact f_r15bad_1 (hp := hp.2) ..
theorem f_r15last_1 (s : DS) (hp : True) : OK 35 ([eD s]) ([]) (bv s.last) (none) := by
  refine funOK_of_vc (C := cx []) (good trivial) (fn := Try.f35) rfl rfl rfl rfl fun hw hs => ?_
  have hb : s.op.length ≤ 9223372036854775807 := hw.1.2.1
  repeat' (
      conv => whnf
      first
      | refine req_i ?_ ?_
      | refine when_i ?_ ?_
      | refine brn_not ?_
      | refine brn_dec (fun h => ?_) (fun h => ?_)
      | refine brn_int (fun h => ?_) (fun h => ?_)
      | refine brn_intne (fun h => ?_) (fun h => ?_)
      | refine brn_str (fun h => ?_) (fun h => ?_)
      | refine brn_i (fun h => ?_) (fun h => ?_)
      | with_reducible refine IdxK.mk _ rfl ?_
      | with_reducible refine idx_blI ?_ (fun hc => ?_)
      | with_reducible refine idx_bl ?_ (fun hc => ?_)
      | with_reducible refine idx_strI ?_ (fun hc => ?_)
      | with_reducible refine idx_str ?_ (fun hc => ?_)
      | with_reducible refine idx_mapDI ?_ ?_
      | with_reducible refine idx_mapD ?_ ?_
      | with_reducible refine idx_at ?_ (fun b hb => ?_)
      | refine ex_bl ?_
      | refine ex_b1 ?_ ?_
      | refine ex_b2 ?_ ?_ ?_
      | refine ex_b3 ?_ ?_ ?_ ?_
      | refine ex_b4 ?_ ?_ ?_ ?_ ?_
      | refine optK_setL ?_ ?_
      | refine optK_takeL ?_ ?_
      | with_reducible refine forceDs_i ?_
      )
  all_goals try (conv => whnf)
  all_goals try (refine Side.mk ?_; try dsimp only)
  all_goals first
    | (show LoopP _ _ _ _; skip)
    | (show EndP _ _ _ _ _ _; skip)
    | (show ∃ _, _; skip)
    | (first
          | trivial
          | omega
          | (simp (discharger := omega) only [wu8, wu16, wu32, wu64, wi32, wi64, Int.tdiv_eq_ediv_of_nonneg, Int.tmod_eq_emod_of_nonneg]; omega)
          | (simp only [List.length_append, List.length_cons, List.length_nil, bl_length, List.length_take, List.length_drop]; omega)
          | (simp (discharger := omega) [-List.getD_eq_getElem?_getD, wu8, wu16, wu32, wu64, wi32, wi64, Int.tdiv_eq_ediv_of_nonneg, Int.tmod_eq_emod_of_nonneg]; done)
          | (simp (discharger := omega) [-List.getD_eq_getElem?_getD, wu8, wu16, wu32, wu64, wi32, wi64, Int.tdiv_eq_ediv_of_nonneg, Int.tmod_eq_emod_of_nonneg]; omega))
    | skip
  all_goals first
    | (have := List.length_pos_iff.2 (show s.op ≠ [] by assumption); (first | omega | (simp (discharger := omega) only [wu8, wu16, wu32, wu64, wi32, wi64, Int.tdiv_eq_ediv_of_nonneg, Int.tmod_eq_emod_of_nonneg]; omega) | (simp only [List.length_append, List.length_cons, List.length_nil, bl_length, List.length_take, List.length_drop]; omega) | (simp (discharger := omega) [-List.getD_eq_getElem?_getD, wu8, wu16, wu32, wu64, wi32, wi64, Int.tdiv_eq_ediv_of_nonneg, Int.tmod_eq_emod_of_nonneg]; done) | (simp (discharger := omega) [-List.getD_eq_getElem?_getD, wu8, wu16, wu32, wu64, wi32, wi64, Int.tdiv_eq_ediv_of_nonneg, Int.tmod_eq_emod_of_nonneg]; omega)))
    | skip
  all_goals
    unfold DS.last
    first | rw [if_pos (by assumption)] | rw [if_neg (by assumption)]
    refine EndP.mk [] ?_ <;> (repeat' (first | trivial | rfl | exact scopedL_bl _ _ | refine And.intro ?_ ?_ | refine congrArg V.str ?_ | refine congrArg (V.int _) ?_ | refine congrArg V.bool ?_ | refine congrArg (O.buf _ _) ?_ | refine congrArg O.cells ?_ | refine congrArg (V.list _ _) ?_ | refine congrArg V.agg ?_ | refine congrArg V.tuple ?_ | refine cons_eq ?_ ?_))
  have := List.length_pos_iff.2 (show s.op ≠ [] by assumption)
  rw [show (IntKind.i64.wrap (↑s.op.length - 1)).toNat = s.op.length - 1 by (first | omega | (simp (discharger := omega) only [wu8, wu16, wu32, wu64, wi32, wi64, Int.tdiv_eq_ediv_of_nonneg, Int.tmod_eq_emod_of_nonneg]; omega) | (simp only [List.length_append, List.length_cons, List.length_nil, bl_length, List.length_take, List.length_drop]; omega) | (simp (discharger := omega) [-List.getD_eq_getElem?_getD, wu8, wu16, wu32, wu64, wi32, wi64, Int.tdiv_eq_ediv_of_nonneg, Int.tmod_eq_emod_of_nonneg]; done) | (simp (discharger := omega) [-List.getD_eq_getElem?_getD, wu8, wu16, wu32, wu64, wi32, wi64, Int.tdiv_eq_ediv_of_nonneg, Int.tmod_eq_emod_of_nonneg]; omega))]
def sm_r15last : Sm := fun args σ => match args, σ with
  | [.agg [.str a_s, .str b_s, .bool k_s, .bool f_s, .int .i64 c_s]], [] => some (True ∧ (True), bv (DS.mk a_s b_s k_s f_s c_s).last, none)
  | _, _ => none
theorem k_r15last : SOK 35 sm_r15last := by
  intro args sg pre x r he hp
  unfold sm_r15last at he
  split at he <;> cases he
  · rw [viewD (hp).1]; exact f_r15last_1 (hp := hp.2) ..
theorem f_r15comma_1 (s : DS) (hp : True) : OK 36 ([eD s]) ([]) (.str s.comma) (none) := by
  refine funOK_of_vc (C := cx []) (good trivial) (fn := Try.f36) rfl rfl rfl rfl fun hw hs => ?_
  repeat' (
      conv => whnf
      first
      | refine req_i ?_ ?_
      | refine when_i ?_ ?_
      | refine brn_not ?_
      | refine brn_dec (fun h => ?_) (fun h => ?_)
      | refine brn_int (fun h => ?_) (fun h => ?_)
      | refine brn_intne (fun h => ?_) (fun h => ?_)
      | refine brn_str (fun h => ?_) (fun h => ?_)
      | refine brn_i (fun h => ?_) (fun h => ?_)
      | with_reducible refine IdxK.mk _ rfl ?_
      | with_reducible refine idx_blI ?_ (fun hc => ?_)
      | with_reducible refine idx_bl ?_ (fun hc => ?_)
      | with_reducible refine idx_strI ?_ (fun hc => ?_)
      | with_reducible refine idx_str ?_ (fun hc => ?_)
      | with_reducible refine idx_mapDI ?_ ?_
      | with_reducible refine idx_mapD ?_ ?_
      | with_reducible refine idx_at ?_ (fun b hb => ?_)
      | refine ex_bl ?_
      | refine ex_b1 ?_ ?_
      | refine ex_b2 ?_ ?_ ?_
      | refine ex_b3 ?_ ?_ ?_ ?_
      | refine ex_b4 ?_ ?_ ?_ ?_ ?_
      | refine optK_setL ?_ ?_
      | refine optK_takeL ?_ ?_
      | with_reducible refine forceDs_i ?_
      )
  all_goals try (conv => whnf)
  all_goals try (refine Side.mk ?_; try dsimp only)
  all_goals first
    | (show LoopP _ _ _ _; skip)
    | (show EndP _ _ _ _ _ _; skip)
    | (show ∃ _, _; skip)
    | (first
          | trivial
          | omega
          | (simp (discharger := omega) only [wu8, wu16, wu32, wu64, wi32, wi64, Int.tdiv_eq_ediv_of_nonneg, Int.tmod_eq_emod_of_nonneg]; omega)
          | (simp only [List.length_append, List.length_cons, List.length_nil, bl_length, List.length_take, List.length_drop]; omega)
          | (simp (discharger := omega) [-List.getD_eq_getElem?_getD, wu8, wu16, wu32, wu64, wi32, wi64, Int.tdiv_eq_ediv_of_nonneg, Int.tmod_eq_emod_of_nonneg]; done)
          | (simp (discharger := omega) [-List.getD_eq_getElem?_getD, wu8, wu16, wu32, wu64, wi32, wi64, Int.tdiv_eq_ediv_of_nonneg, Int.tmod_eq_emod_of_nonneg]; omega))
    | skip
  all_goals
    unfold DS.comma
    refine EndP.mk [] ?_ <;> (repeat' (first | trivial | rfl | exact scopedL_bl _ _ | refine And.intro ?_ ?_ | refine congrArg V.str ?_ | refine congrArg (V.int _) ?_ | refine congrArg V.bool ?_ | refine congrArg (O.buf _ _) ?_ | refine congrArg O.cells ?_ | refine congrArg (V.list _ _) ?_ | refine congrArg V.agg ?_ | refine congrArg V.tuple ?_ | refine cons_eq ?_ ?_))
    simp_all
def sm_r15comma : Sm := fun args σ => match args, σ with
  | [.agg [.str a_s, .str b_s, .bool k_s, .bool f_s, .int .i64 c_s]], [] => some (True ∧ (True), .str (DS.mk a_s b_s k_s f_s c_s).comma, none)
  | _, _ => none
theorem k_r15comma : SOK 36 sm_r15comma := by
  intro args sg pre x r he hp
  unfold sm_r15comma at he
  split at he <;> cases he
  · rw [viewD (hp).1]; exact f_r15comma_1 (hp := hp.2) ..
theorem f_r15value_1 (o : JOp) (hp : o.text.length ≤ 100000000) : OK 37 ([eo o]) ([]) (.str o.value) (none) := by
  refine funOK_of_vc (C := cx [(14, sm_r10Text), (54, sm_R06Text)]) (good ⟨k_r10Text, k0_R06Text, trivial⟩) (fn := Try.f37) rfl rfl rfl rfl fun hw hs => ?_
  have hn : -9223372036854775808 ≤ o.n ∧ o.n ≤ 9223372036854775807 := hw.1.2.2.1
  repeat' (
      conv => whnf
      first
      | refine req_i ?_ ?_
      | refine when_i ?_ ?_
      | refine brn_not ?_
      | refine brn_dec (fun h => ?_) (fun h => ?_)
      | refine brn_int (fun h => ?_) (fun h => ?_)
      | refine brn_intne (fun h => ?_) (fun h => ?_)
      | refine brn_str (fun h => ?_) (fun h => ?_)
      | refine brn_i (fun h => ?_) (fun h => ?_)
      | with_reducible refine IdxK.mk _ rfl ?_
      | with_reducible refine idx_blI ?_ (fun hc => ?_)
      | with_reducible refine idx_bl ?_ (fun hc => ?_)
      | with_reducible refine idx_strI ?_ (fun hc => ?_)
      | with_reducible refine idx_str ?_ (fun hc => ?_)
      | with_reducible refine idx_mapDI ?_ ?_
      | with_reducible refine idx_mapD ?_ ?_
      | with_reducible refine idx_at ?_ (fun b hb => ?_)
      | refine ex_bl ?_
      | refine ex_b1 ?_ ?_
      | refine ex_b2 ?_ ?_ ?_
      | refine ex_b3 ?_ ?_ ?_ ?_
      | refine ex_b4 ?_ ?_ ?_ ?_ ?_
      | refine optK_setL ?_ ?_
      | refine optK_takeL ?_ ?_
      | with_reducible refine forceDs_i ?_
      )
  all_goals try (conv => whnf)
  all_goals try (refine Side.mk ?_; try dsimp only)
  all_goals first
    | (show LoopP _ _ _ _; skip)
    | (show EndP _ _ _ _ _ _; skip)
    | (show ∃ _, _; skip)
    | (first
          | trivial
          | omega
          | (simp (discharger := omega) only [wu8, wu16, wu32, wu64, wi32, wi64, Int.tdiv_eq_ediv_of_nonneg, Int.tmod_eq_emod_of_nonneg]; omega)
          | (simp only [List.length_append, List.length_cons, List.length_nil, bl_length, List.length_take, List.length_drop]; omega)
          | (simp (discharger := omega) [-List.getD_eq_getElem?_getD, wu8, wu16, wu32, wu64, wi32, wi64, Int.tdiv_eq_ediv_of_nonneg, Int.tmod_eq_emod_of_nonneg]; done)
          | (simp (discharger := omega) [-List.getD_eq_getElem?_getD, wu8, wu16, wu32, wu64, wi32, wi64, Int.tdiv_eq_ediv_of_nonneg, Int.tmod_eq_emod_of_nonneg]; omega))
    | skip
  all_goals first | exact hn | skip
  all_goals
    unfold JOp.value
    repeat (first | rw [if_pos (by assumption)] | rw [if_neg (by assumption)])
    refine EndP.mk [] ?_ <;> (repeat' (first | trivial | rfl | exact scopedL_bl _ _ | refine And.intro ?_ ?_ | refine congrArg V.str ?_ | refine congrArg (V.int _) ?_ | refine congrArg V.bool ?_ | refine congrArg (O.buf _ _) ?_ | refine congrArg O.cells ?_ | refine congrArg (V.list _ _) ?_ | refine congrArg V.agg ?_ | refine congrArg V.tuple ?_ | refine cons_eq ?_ ?_))
def sm_r15value : Sm := fun args σ => match args, σ with
  | [.agg [.int .u8 k_o, .str t_o, .int .i64 n_o]], [] => some (True ∧ ((JOp.mk k_o t_o n_o).text.length ≤ 100000000), .str (JOp.mk k_o t_o n_o).value, none)
  | _, _ => none
theorem k_r15value : SOK 37 sm_r15value := by
  intro args sg pre x r he hp
  unfold sm_r15value at he
  split at he <;> cases he
  · rw [viewO (hp).1]; exact f_r15value_1 (hp := hp.2) ..
theorem f_r15Done_1 (s : DS) (hp : True) : OK 12 ([eD s]) ([]) (.tuple [.str s.done.1, .int .i64 s.done.2]) (none) := by
  refine funOK_of_vc (C := cx []) (good trivial) (fn := Try.f12) rfl rfl rfl rfl fun hw hs => ?_
  repeat' (
      conv => whnf
      first
      | refine req_i ?_ ?_
      | refine when_i ?_ ?_
      | refine brn_not ?_
      | refine brn_dec (fun h => ?_) (fun h => ?_)
      | refine brn_int (fun h => ?_) (fun h => ?_)
      | refine brn_intne (fun h => ?_) (fun h => ?_)
      | refine brn_str (fun h => ?_) (fun h => ?_)
      | refine brn_i (fun h => ?_) (fun h => ?_)
      | with_reducible refine IdxK.mk _ rfl ?_
      | with_reducible refine idx_blI ?_ (fun hc => ?_)
      | with_reducible refine idx_bl ?_ (fun hc => ?_)
      | with_reducible refine idx_strI ?_ (fun hc => ?_)
      | with_reducible refine idx_str ?_ (fun hc => ?_)
      | with_reducible refine idx_mapDI ?_ ?_
      | with_reducible refine idx_mapD ?_ ?_
      | with_reducible refine idx_at ?_ (fun b hb => ?_)
      | refine ex_bl ?_
      | refine ex_b1 ?_ ?_
      | refine ex_b2 ?_ ?_ ?_
      | refine ex_b3 ?_ ?_ ?_ ?_
      | refine ex_b4 ?_ ?_ ?_ ?_ ?_
      | refine optK_setL ?_ ?_
      | refine optK_takeL ?_ ?_
      | with_reducible refine forceDs_i ?_
      )
  all_goals try (conv => whnf)
  all_goals try (refine Side.mk ?_; try dsimp only)
  all_goals first
    | (show LoopP _ _ _ _; skip)
    | (show EndP _ _ _ _ _ _; skip)
    | (show ∃ _, _; skip)
    | (first
          | trivial
          | omega
          | (simp (discharger := omega) only [wu8, wu16, wu32, wu64, wi32, wi64, Int.tdiv_eq_ediv_of_nonneg, Int.tmod_eq_emod_of_nonneg]; omega)
          | (simp only [List.length_append, List.length_cons, List.length_nil, bl_length, List.length_take, List.length_drop]; omega)
          | (simp (discharger := omega) [-List.getD_eq_getElem?_getD, wu8, wu16, wu32, wu64, wi32, wi64, Int.tdiv_eq_ediv_of_nonneg, Int.tmod_eq_emod_of_nonneg]; done)
          | (simp (discharger := omega) [-List.getD_eq_getElem?_getD, wu8, wu16, wu32, wu64, wi32, wi64, Int.tdiv_eq_ediv_of_nonneg, Int.tmod_eq_emod_of_nonneg]; omega))
    | skip
  all_goals
    unfold DS.done
    repeat (first | rw [if_pos (by first | assumption | omega | exact .inl (by assumption) | exact .inr (by assumption))] | rw [if_neg (by first | assumption | omega | (intro hh; rcases hh with hh | hh <;> simp_all))])
    refine EndP.mk [] ?_ <;> (repeat' (first | trivial | rfl | exact scopedL_bl _ _ | refine And.intro ?_ ?_ | refine congrArg V.str ?_ | refine congrArg (V.int _) ?_ | refine congrArg V.bool ?_ | refine congrArg (O.buf _ _) ?_ | refine congrArg O.cells ?_ | refine congrArg (V.list _ _) ?_ | refine congrArg V.agg ?_ | refine congrArg V.tuple ?_ | refine cons_eq ?_ ?_))
def sm_r15Done : Sm := fun args σ => match args, σ with
  | [.agg [.str a_s, .str b_s, .bool k_s, .bool f_s, .int .i64 c_s]], [] => some (True ∧ (True), .tuple [.str (DS.mk a_s b_s k_s f_s c_s).done.1, .int .i64 (DS.mk a_s b_s k_s f_s c_s).done.2], none)
  | _, _ => none
theorem k_r15Done : SOK 12 sm_r15Done := by
  intro args sg pre x r he hp
  unfold sm_r15Done at he
  split at he <;> cases he
  · rw [viewD (hp).1]; exact f_r15Done_1 (hp := hp.2) ..
theorem f_r15Do_1 (s : DS) (o : JOp) (hp : s.out.length ≤ 2000000000 ∧ s.op.length ≤ 1000 ∧ o.text.length ≤ 100000000) : OK 10 ([eD s, eo o]) ([]) (eD (s.does o)) (none) := by
  refine funOK_of_vc (C := cx [(34, sm_r15bad), (35, sm_r15last), (36, sm_r15comma), (37, sm_r15value), (14, sm_r10Text)]) (good ⟨k_r15bad, k_r15last, k_r15comma, k_r15value, k_r10Text, trivial⟩) (fn := Try.f10) rfl rfl rfl rfl fun hw hs => ?_
  have hn : -9223372036854775808 ≤ o.n ∧ o.n ≤ 9223372036854775807 := hw.2.1.2.2.1
  have hk : 0 ≤ o.kind ∧ o.kind ≤ 255 := hw.2.1.1
  have l1 := comma_len s
  have l2 := value_len o hn
  have l3 := quote_len o.text
  obtain ⟨a, b, k, f, c⟩ := s
  obtain ⟨kd, tx, n⟩ := o
  dsimp only at hp l1 l2 l3 hn hk
  repeat' (
      conv => whnf
      first
      | refine req_i ?_ ?_
      | refine when_i ?_ ?_
      | refine brn_not ?_
      | refine brn_dec (fun h => ?_) (fun h => ?_)
      | refine brn_int (fun h => ?_) (fun h => ?_)
      | refine brn_intne (fun h => ?_) (fun h => ?_)
      | refine brn_str (fun h => ?_) (fun h => ?_)
      | refine brn_i (fun h => ?_) (fun h => ?_)
      | with_reducible refine IdxK.mk _ rfl ?_
      | with_reducible refine idx_blI ?_ (fun hc => ?_)
      | with_reducible refine idx_bl ?_ (fun hc => ?_)
      | with_reducible refine idx_strI ?_ (fun hc => ?_)
      | with_reducible refine idx_str ?_ (fun hc => ?_)
      | with_reducible refine idx_mapDI ?_ ?_
      | with_reducible refine idx_mapD ?_ ?_
      | with_reducible refine idx_at ?_ (fun b hb => ?_)
      | refine ex_bl ?_
      | refine ex_b1 ?_ ?_
      | refine ex_b2 ?_ ?_ ?_
      | refine ex_b3 ?_ ?_ ?_ ?_
      | refine ex_b4 ?_ ?_ ?_ ?_ ?_
      | refine optK_setL ?_ ?_
      | refine optK_takeL ?_ ?_
      | with_reducible refine forceDs_i ?_
      )
  all_goals try (conv => whnf)
  all_goals try (refine Side.mk ?_; try dsimp only)
  all_goals first
    | (show LoopP _ _ _ _; skip)
    | (show EndP _ _ _ _ _ _; skip)
    | (show ∃ _, _; skip)
    | (first
          | trivial
          | omega
          | (simp (discharger := omega) only [wu8, wu16, wu32, wu64, wi32, wi64, Int.tdiv_eq_ediv_of_nonneg, Int.tmod_eq_emod_of_nonneg]; omega)
          | (simp only [List.length_append, List.length_cons, List.length_nil, bl_length, List.length_take, List.length_drop]; omega)
          | (simp (discharger := omega) [-List.getD_eq_getElem?_getD, wu8, wu16, wu32, wu64, wi32, wi64, Int.tdiv_eq_ediv_of_nonneg, Int.tmod_eq_emod_of_nonneg]; done)
          | (simp (discharger := omega) [-List.getD_eq_getElem?_getD, wu8, wu16, wu32, wu64, wi32, wi64, Int.tdiv_eq_ediv_of_nonneg, Int.tmod_eq_emod_of_nonneg]; omega))
    | skip
  all_goals first
    | (have := List.length_pos_iff.2 (show b ≠ [] by assumption); (first | omega | (simp (discharger := omega) only [wu8, wu16, wu32, wu64, wi32, wi64, Int.tdiv_eq_ediv_of_nonneg, Int.tmod_eq_emod_of_nonneg]; omega) | (simp only [List.length_append, List.length_cons, List.length_nil, bl_length, List.length_take, List.length_drop]; omega) | (simp (discharger := omega) [-List.getD_eq_getElem?_getD, wu8, wu16, wu32, wu64, wi32, wi64, Int.tdiv_eq_ediv_of_nonneg, Int.tmod_eq_emod_of_nonneg]; done) | (simp (discharger := omega) [-List.getD_eq_getElem?_getD, wu8, wu16, wu32, wu64, wi32, wi64, Int.tdiv_eq_ediv_of_nonneg, Int.tmod_eq_emod_of_nonneg]; omega)))
    | skip
  all_goals
    dsimp only at *
    have he : DS.does ⟨a, b, k, f, c⟩ ⟨kd, tx, n⟩ = DS.does ⟨a, b, k, f, c⟩ ⟨kd, tx, n⟩ := rfl
    conv at he => rhs; unfold DS.does; dsimp only
    repeat (first | rw [if_pos (by first | assumption | omega | exact .inl ⟨by assumption, by assumption⟩ | exact .inr ⟨by omega, by assumption⟩)] at he | rw [if_neg (by first | assumption | omega | (rintro (⟨h1, h2⟩ | ⟨h1, h2⟩) <;> first | omega | (simp_all; done)) | (simp_all; done))] at he)
    rw [he]
    refine EndP.mk [] ?_ <;> (repeat' (first | trivial | rfl | exact scopedL_bl _ _ | refine And.intro ?_ ?_ | refine congrArg V.str ?_ | refine congrArg (V.int _) ?_ | refine congrArg V.bool ?_ | refine congrArg (O.buf _ _) ?_ | refine congrArg O.cells ?_ | refine congrArg (V.list _ _) ?_ | refine congrArg V.agg ?_ | refine congrArg V.tuple ?_ | refine cons_eq ?_ ?_))
  · exact congrArg (fun x => a ++ [x]) (byte_add2 _)
  · have := List.length_pos_iff.2 (show b ≠ [] by assumption)
    rw [show (IntKind.i64.wrap (↑b.length - 1)).toNat = b.length - 1 by (first | omega | (simp (discharger := omega) only [wu8, wu16, wu32, wu64, wi32, wi64, Int.tdiv_eq_ediv_of_nonneg, Int.tmod_eq_emod_of_nonneg]; omega) | (simp only [List.length_append, List.length_cons, List.length_nil, bl_length, List.length_take, List.length_drop]; omega) | (simp (discharger := omega) [-List.getD_eq_getElem?_getD, wu8, wu16, wu32, wu64, wi32, wi64, Int.tdiv_eq_ediv_of_nonneg, Int.tmod_eq_emod_of_nonneg]; done) | (simp (discharger := omega) [-List.getD_eq_getElem?_getD, wu8, wu16, wu32, wu64, wi32, wi64, Int.tdiv_eq_ediv_of_nonneg, Int.tmod_eq_emod_of_nonneg]; omega))]
def sm_r15Do : Sm := fun args σ => match args, σ with
  | [.agg [.str a_s, .str b_s, .bool k_s, .bool f_s, .int .i64 c_s], .agg [.int .u8 k_o, .str t_o, .int .i64 n_o]], [] => some (True ∧ (True ∧ ((DS.mk a_s b_s k_s f_s c_s).out.length ≤ 2000000000 ∧ (DS.mk a_s b_s k_s f_s c_s).op.length ≤ 1000 ∧ (JOp.mk k_o t_o n_o).text.length ≤ 100000000)), eD ((DS.mk a_s b_s k_s f_s c_s).does (JOp.mk k_o t_o n_o)), none)
  | _, _ => none
theorem k_r15Do : SOK 10 sm_r15Do := by
  intro args sg pre x r he hp
  unfold sm_r15Do at he
  split at he <;> cases he
  · rw [viewO (hp).1]; rw [viewD (hp.2).1]; exact f_r15Do_1 (hp := hp.2.2) ..
end Go.Proofs.Ytgbkjecepncjoaa
