/-
  A writer of JSON is told a script: the law's own functions.
-/
import Derived.Test.YtgbkjecepncjoaaJWs
set_option linter.unusedSimpArgs false
set_option linter.unusedVariables false
set_option maxHeartbeats 4000000
namespace Go.Proofs.Ytgbkjecepncjoaa
open Go Go.VG
set_option maxRecDepth 100000
theorem okW_d {w : WS} (h : w.out.length ≤ 1900000000 ∧ w.l.length ≤ 900) : okW (bl w.out) (w.l.map ef) ∧ (deW (bl w.out) (w.l.map ef) w.whole w.code).out.length ≤ 1900000000 ∧ (deW (bl w.out) (w.l.map ef) w.whole w.code).l.length ≤ 900 := by
  rw [deW_e]; exact ⟨okW_e (by omega) (by omega), h⟩
theorem f_jwDo_1 (w : WS) (o : JOp) (hp : (w.out.length ≤ 1900000000 ∧ w.l.length ≤ 900) ∧ o.text.length ≤ 100000000) : OK 9 ([.ptr 0 0, eo o]) (eW w) (.tuple []) (some (eW (w.op o))) := by
  refine funOK_of_vc (C := cx [(26, sm_jwObject), (28, sm_jwList), (31, sm_jwEnd), (27, sm_jwKey), (33, sm_jwText), (29, sm_jwWhole), (32, sm_jwFlag), (30, sm_jwNull)]) (good ⟨k_jwObject, k_jwList, k_jwEnd, k_jwKey, k_jwText, k_jwWhole, k_jwFlag, k_jwNull, trivial⟩) (fn := Try.f9) rfl rfl rfl rfl fun hw hs => ?_
  obtain ⟨hp, hq⟩ := hp
  repeat' (
      conv => whnf
      first
      | refine req_i ?_ ?_
      | refine when_i ?_ ?_
      | refine brn_not ?_
      | refine brn_dec (fun h => ?_) (fun h => ?_)
      | refine brn_int (fun h => ?_) (fun h => ?_)
      | refine brn_intne (fun h => ?_) (fun h => ?_)
      | refine brn_str (fun h => ?_) (fun h => ?_)
      | refine brn_i (fun h => ?_) (fun h => ?_)
      | with_reducible refine IdxK.mk _ rfl ?_
      | with_reducible refine idx_blI ?_ (fun hc => ?_)
      | with_reducible refine idx_bl ?_ (fun hc => ?_)
      | with_reducible refine idx_strI ?_ (fun hc => ?_)
      | with_reducible refine idx_str ?_ (fun hc => ?_)
      | with_reducible refine idx_mapDI ?_ ?_
      | with_reducible refine idx_mapD ?_ ?_
      | with_reducible refine idx_at ?_ (fun b hb => ?_)
      | refine ex_bl ?_
      | refine ex_b1 ?_ ?_
      | refine ex_b2 ?_ ?_ ?_
      | refine ex_b3 ?_ ?_ ?_ ?_
      | refine ex_b4 ?_ ?_ ?_ ?_ ?_
      | refine optK_setL ?_ ?_
      | refine optK_takeL ?_ ?_
      | with_reducible refine forceDs_i ?_
      )
  all_goals try (conv => whnf)
  all_goals try (refine Side.mk ?_; try dsimp only)
  all_goals first
    | (show LoopP _ _ _ _; skip)
    | (show EndP _ _ _ _ _ _; skip)
    | (show ∃ _, _; skip)
    | (first
          | trivial
          | omega
          | (simp (discharger := omega) only [wu8, wu16, wu32, wu64, wi32, wi64, Int.tdiv_eq_ediv_of_nonneg, Int.tmod_eq_emod_of_nonneg]; omega)
          | (simp only [List.length_append, List.length_cons, List.length_nil, bl_length, List.length_take, List.length_drop]; omega)
          | (simp (discharger := omega) [-List.getD_eq_getElem?_getD, wu8, wu16, wu32, wu64, wi32, wi64, Int.tdiv_eq_ediv_of_nonneg, Int.tmod_eq_emod_of_nonneg]; done)
          | (simp (discharger := omega) [-List.getD_eq_getElem?_getD, wu8, wu16, wu32, wu64, wi32, wi64, Int.tdiv_eq_ediv_of_nonneg, Int.tmod_eq_emod_of_nonneg]; omega))
    | skip
  all_goals first
    | exact okW_d hp
    | exact ⟨(okW_d hp).1, (okW_d hp).2, hq⟩
    | skip
  all_goals
    rw [deW_e]
    unfold WS.op
    repeat (first | rw [if_pos (by omega)] | rw [if_neg (by omega)])
    refine EndP.mk [] ?_ <;> (repeat' (first | trivial | rfl | exact scopedL_bl _ _ | refine And.intro ?_ ?_ | refine congrArg V.str ?_ | refine congrArg (V.int _) ?_ | refine congrArg V.bool ?_ | refine congrArg (O.buf _ _) ?_ | refine congrArg O.cells ?_ | refine congrArg (V.list _ _) ?_ | refine congrArg V.agg ?_ | refine congrArg V.tuple ?_ | refine cons_eq ?_ ?_))
def sm_jwDo : Sm := fun args σ => match args, σ with
  | [.ptr 0 0, .agg [.int .u8 k_o, .str t_o, .int .i64 n_o]], [.cells [.buf 1, .buf 2, .bool h_w, .int .i64 c_w, .func (.func 13) [] []], .buf 1 0 o_w, .buf 3 0 l_w] => some (True ∧ (okW o_w l_w ∧ (((deW o_w l_w h_w c_w).out.length ≤ 1900000000 ∧ (deW o_w l_w h_w c_w).l.length ≤ 900) ∧ (JOp.mk k_o t_o n_o).text.length ≤ 100000000)), .tuple [], some (eW ((deW o_w l_w h_w c_w).op (JOp.mk k_o t_o n_o))))
  | _, _ => none
theorem k_jwDo : SOK 9 sm_jwDo := by
  intro args sg pre x r he hp
  unfold sm_jwDo at he
  split at he <;> cases he
  · rw [viewO (hp).1]; rw [viewW (hp.2).1]; exact f_jwDo_1 (hp := hp.2.2) ..
theorem deW_lit (o : List UInt8) (l : List Fr) (wh : Bool) (c : Int) : deW (bl o) (l.map ef) wh c = ⟨o, l, wh, c⟩ := deW_e ⟨o, l, wh, c⟩
theorem okW_lit (o : List UInt8) (l : List Fr) (h : o.length ≤ 2000000000 ∧ l.length ≤ 1000) : okW (bl o) (l.map ef) := okW_e h.1 h.2
theorem quote_a : quote [97] = [34, 97, 34] := rfl
theorem decI_1 : decI 1 = [49] := by unfold decI; rw [if_neg (by decide), dec_lt (by decide)]; rfl
theorem w1 : WS.begin ⟨[], [], false, 0⟩ 123 125 = ⟨[123], [⟨125, false, false⟩], true, 0⟩ := rfl
theorem w2 : WS.key ⟨[123], [⟨125, false, false⟩], true, 0⟩ [97] = ⟨[123, 34, 97, 34, 58], [⟨125, true, true⟩], true, 0⟩ := rfl
theorem w3 : WS.begin ⟨[123, 34, 97, 34, 58], [⟨125, true, true⟩], true, 0⟩ 91 93 = ⟨[123, 34, 97, 34, 58, 91], [⟨125, true, false⟩, ⟨93, false, false⟩], true, 0⟩ := rfl
theorem w4 : WS.put ⟨[123, 34, 97, 34, 58, 91], [⟨125, true, false⟩, ⟨93, false, false⟩], true, 0⟩ [49] = ⟨[123, 34, 97, 34, 58, 91, 49], [⟨125, true, false⟩, ⟨93, true, false⟩], true, 0⟩ := rfl
theorem w5 : WS.put ⟨[123, 34, 97, 34, 58, 91, 49], [⟨125, true, false⟩, ⟨93, true, false⟩], true, 0⟩ [110, 117, 108, 108] = ⟨[123, 34, 97, 34, 58, 91, 49, 44, 110, 117, 108, 108], [⟨125, true, false⟩, ⟨93, true, false⟩], true, 0⟩ := rfl
theorem w6 : WS.fin ⟨[123, 34, 97, 34, 58, 91, 49, 44, 110, 117, 108, 108], [⟨125, true, false⟩, ⟨93, true, false⟩], true, 0⟩ = ⟨[123, 34, 97, 34, 58, 91, 49, 44, 110, 117, 108, 108, 93], [⟨125, true, false⟩], true, 0⟩ := rfl
theorem w7 : WS.done ⟨[123, 34, 97, 34, 58, 91, 49, 44, 110, 117, 108, 108, 93], [⟨125, true, false⟩], true, 0⟩ = ([], 1) := rfl
theorem w8 : WS.fin ⟨[123, 34, 97, 34, 58, 91, 49, 44, 110, 117, 108, 108, 93], [⟨125, true, false⟩], true, 0⟩ = ⟨[123, 34, 97, 34, 58, 91, 49, 44, 110, 117, 108, 108, 93, 125], [], true, 0⟩ := rfl
theorem w9 : WS.done ⟨[123, 34, 97, 34, 58, 91, 49, 44, 110, 117, 108, 108, 93, 125], [], true, 0⟩ = ([123, 34, 97, 34, 58, 91, 49, 44, 110, 117, 108, 108, 93, 125], 0) := rfl
theorem w10 : WS.put ⟨[123, 34, 97, 34, 58, 91, 49, 44, 110, 117, 108, 108, 93, 125], [], true, 0⟩ (flagT true) = ⟨[123, 34, 97, 34, 58, 91, 49, 44, 110, 117, 108, 108, 93, 125], [], true, 12⟩ := rfl
theorem w11 : WS.done ⟨[123, 34, 97, 34, 58, 91, 49, 44, 110, 117, 108, 108, 93, 125], [], true, 12⟩ = ([], 12) := rfl
theorem f_jwWorks_1  (hp : True) : OK 7 ([]) ([]) (.bool true) (none) := by
  refine funOK_of_vc (C := cx [(8, sm_jwNew), (26, sm_jwObject), (27, sm_jwKey), (28, sm_jwList), (29, sm_jwWhole), (30, sm_jwNull), (31, sm_jwEnd), (11, sm_jwDone), (32, sm_jwFlag), (33, sm_jwText)]) (good ⟨k_jwNew, k_jwObject, k_jwKey, k_jwList, k_jwWhole, k_jwNull, k_jwEnd, k_jwDone, k_jwFlag, k_jwText, trivial⟩) (fn := Try.f7) rfl rfl rfl rfl fun hw hs => ?_
  conv => whnf
  refine req_i ⟨?_⟩ ?_
  · first
    | trivial
    | exact ⟨okW_lit _ _ (by decide), by rw [deW_lit]; decide⟩
    | exact ⟨okW_lit _ _ (by decide), trivial⟩
    | exact ⟨okW_lit _ _ (by decide), by rw [deW_lit]; decide, by decide⟩
  simp only [WS.new, deW_lit, quote_a, decI_1, w1, w2, w3, w4, w5, w6, w7, w8, w9, w10, w11]
  conv => whnf
  refine req_i ⟨?_⟩ ?_
  · first
    | trivial
    | exact ⟨okW_lit _ _ (by decide), by rw [deW_lit]; decide⟩
    | exact ⟨okW_lit _ _ (by decide), trivial⟩
    | exact ⟨okW_lit _ _ (by decide), by rw [deW_lit]; decide, by decide⟩
  simp only [WS.new, deW_lit, quote_a, decI_1, w1, w2, w3, w4, w5, w6, w7, w8, w9, w10, w11]
  conv => whnf
  refine req_i ⟨?_⟩ ?_
  · first
    | trivial
    | exact ⟨okW_lit _ _ (by decide), by rw [deW_lit]; decide⟩
    | exact ⟨okW_lit _ _ (by decide), trivial⟩
    | exact ⟨okW_lit _ _ (by decide), by rw [deW_lit]; decide, by decide⟩
  simp only [WS.new, deW_lit, quote_a, decI_1, w1, w2, w3, w4, w5, w6, w7, w8, w9, w10, w11]
  conv => whnf
  refine req_i ⟨?_⟩ ?_
  · first
    | trivial
    | exact ⟨okW_lit _ _ (by decide), by rw [deW_lit]; decide⟩
    | exact ⟨okW_lit _ _ (by decide), trivial⟩
    | exact ⟨okW_lit _ _ (by decide), by rw [deW_lit]; decide, by decide⟩
  simp only [WS.new, deW_lit, quote_a, decI_1, w1, w2, w3, w4, w5, w6, w7, w8, w9, w10, w11]
  conv => whnf
  refine req_i ⟨?_⟩ ?_
  · first
    | trivial
    | exact ⟨okW_lit _ _ (by decide), by rw [deW_lit]; decide⟩
    | exact ⟨okW_lit _ _ (by decide), trivial⟩
    | exact ⟨okW_lit _ _ (by decide), by rw [deW_lit]; decide, by decide⟩
  simp only [WS.new, deW_lit, quote_a, decI_1, w1, w2, w3, w4, w5, w6, w7, w8, w9, w10, w11]
  conv => whnf
  refine req_i ⟨?_⟩ ?_
  · first
    | trivial
    | exact ⟨okW_lit _ _ (by decide), by rw [deW_lit]; decide⟩
    | exact ⟨okW_lit _ _ (by decide), trivial⟩
    | exact ⟨okW_lit _ _ (by decide), by rw [deW_lit]; decide, by decide⟩
  simp only [WS.new, deW_lit, quote_a, decI_1, w1, w2, w3, w4, w5, w6, w7, w8, w9, w10, w11]
  conv => whnf
  refine req_i ⟨?_⟩ ?_
  · first
    | trivial
    | exact ⟨okW_lit _ _ (by decide), by rw [deW_lit]; decide⟩
    | exact ⟨okW_lit _ _ (by decide), trivial⟩
    | exact ⟨okW_lit _ _ (by decide), by rw [deW_lit]; decide, by decide⟩
  simp only [WS.new, deW_lit, quote_a, decI_1, w1, w2, w3, w4, w5, w6, w7, w8, w9, w10, w11]
  conv => whnf
  refine req_i ⟨?_⟩ ?_
  · first
    | trivial
    | exact ⟨okW_lit _ _ (by decide), by rw [deW_lit]; decide⟩
    | exact ⟨okW_lit _ _ (by decide), trivial⟩
    | exact ⟨okW_lit _ _ (by decide), by rw [deW_lit]; decide, by decide⟩
  simp only [WS.new, deW_lit, quote_a, decI_1, w1, w2, w3, w4, w5, w6, w7, w8, w9, w10, w11]
  conv => whnf
  refine req_i ⟨?_⟩ ?_
  · first
    | trivial
    | exact ⟨okW_lit _ _ (by decide), by rw [deW_lit]; decide⟩
    | exact ⟨okW_lit _ _ (by decide), trivial⟩
    | exact ⟨okW_lit _ _ (by decide), by rw [deW_lit]; decide, by decide⟩
  simp only [WS.new, deW_lit, quote_a, decI_1, w1, w2, w3, w4, w5, w6, w7, w8, w9, w10, w11]
  conv => whnf
  refine req_i ⟨?_⟩ ?_
  · first
    | trivial
    | exact ⟨okW_lit _ _ (by decide), by rw [deW_lit]; decide⟩
    | exact ⟨okW_lit _ _ (by decide), trivial⟩
    | exact ⟨okW_lit _ _ (by decide), by rw [deW_lit]; decide, by decide⟩
  simp only [WS.new, deW_lit, quote_a, decI_1, w1, w2, w3, w4, w5, w6, w7, w8, w9, w10, w11]
  conv => whnf
  refine req_i ⟨?_⟩ ?_
  · first
    | trivial
    | exact ⟨okW_lit _ _ (by decide), by rw [deW_lit]; decide⟩
    | exact ⟨okW_lit _ _ (by decide), trivial⟩
    | exact ⟨okW_lit _ _ (by decide), by rw [deW_lit]; decide, by decide⟩
  simp only [WS.new, deW_lit, quote_a, decI_1, w1, w2, w3, w4, w5, w6, w7, w8, w9, w10, w11]
  conv => whnf
  refine req_i ⟨?_⟩ ?_
  · first
    | trivial
    | exact ⟨okW_lit _ _ (by decide), by rw [deW_lit]; decide⟩
    | exact ⟨okW_lit _ _ (by decide), trivial⟩
    | exact ⟨okW_lit _ _ (by decide), by rw [deW_lit]; decide, by decide⟩
  simp only [WS.new, deW_lit, quote_a, decI_1, w1, w2, w3, w4, w5, w6, w7, w8, w9, w10, w11]
  conv => whnf
  refine req_i ⟨?_⟩ ?_
  · first
    | trivial
    | exact ⟨okW_lit _ _ (by decide), by rw [deW_lit]; decide⟩
    | exact ⟨okW_lit _ _ (by decide), trivial⟩
    | exact ⟨okW_lit _ _ (by decide), by rw [deW_lit]; decide, by decide⟩
  simp only [WS.new, deW_lit, quote_a, decI_1, w1, w2, w3, w4, w5, w6, w7, w8, w9, w10, w11]
  conv => whnf
  refine req_i ⟨?_⟩ ?_
  · first
    | trivial
    | exact ⟨okW_lit _ _ (by decide), by rw [deW_lit]; decide⟩
    | exact ⟨okW_lit _ _ (by decide), trivial⟩
    | exact ⟨okW_lit _ _ (by decide), by rw [deW_lit]; decide, by decide⟩
  simp only [WS.new, deW_lit, quote_a, decI_1, w1, w2, w3, w4, w5, w6, w7, w8, w9, w10, w11]
  conv => whnf
  refine EndP.mk [] ?_ <;> (repeat' (first | trivial | rfl | exact scopedL_bl _ _ | refine And.intro ?_ ?_ | refine congrArg V.str ?_ | refine congrArg (V.int _) ?_ | refine congrArg V.bool ?_ | refine congrArg (O.buf _ _) ?_ | refine congrArg O.cells ?_ | refine congrArg (V.list _ _) ?_ | refine congrArg V.agg ?_ | refine congrArg V.tuple ?_ | refine cons_eq ?_ ?_))
def sm_jwWorks : Sm := fun args σ => match args, σ with
  | [], [] => some (True, .bool true, none)
  | _, _ => none
theorem k_jwWorks : SOK 7 sm_jwWorks := by
  intro args sg pre x r he hp
  unfold sm_jwWorks at he
  split at he <;> cases he
  · exact f_jwWorks_1 (hp := hp) ..
theorem does_len (s : DS) (o : JOp) (h : -9223372036854775808 ≤ o.n ∧ o.n ≤ 9223372036854775807) : (s.does o).out.length ≤ s.out.length + 6 * o.text.length + 40 ∧ (s.does o).op.length ≤ s.op.length + 1 := by
  have h1 := comma_len s
  have h2 := value_len o h
  have h3 := quote_len o.text
  unfold DS.does DS.bad
  repeat' split
  all_goals (constructor <;> (try simp only [List.length_append, List.length_cons, List.length_nil, List.length_take]) <;> omega)
def wA (l : List JOp) (i : Nat) : WS := (l.take i).foldl WS.op .new
def sA (l : List JOp) (i : Nat) : DS := (l.take i).foldl DS.does ⟨[], [], false, false, 0⟩
theorem take_nextG {α : Type} [Inhabited α] {l : List α} {i : Nat} (h : i < l.length) : l.take (i + 1) = l.take i ++ [l.getD i default] := by
  rw [List.take_add_one, List.getD_eq_getElem?_getD, List.getElem?_eq_getElem h]; rfl
theorem wA_next {l : List JOp} {i : Nat} (h : i < l.length) : wA l (i + 1) = (wA l i).op (l.getD i default) := by
  unfold wA; rw [take_nextG h, List.foldl_append]; rfl
theorem sA_next {l : List JOp} {i : Nat} (h : i < l.length) : sA l (i + 1) = (sA l i).does (l.getD i default) := by
  unfold sA; rw [take_nextG h, List.foldl_append]; rfl
def opsOk (l : List JOp) : Prop := ∀ i, i < l.length → (l.getD i default).text.length ≤ 1048576
def opsWf (l : List JOp) : Prop := ∀ i, i < l.length → (0 ≤ (l.getD i default).kind ∧ (l.getD i default).kind ≤ 255) ∧ (-9223372036854775808 ≤ (l.getD i default).n ∧ (l.getD i default).n ≤ 9223372036854775807)
theorem wf_ops {l : List JOp} (h : V.wfL (l.map eo)) : opsWf l := fun i hi => by
  have := wfL_iff.1 h (eo (l.getD i default)) (List.mem_map.2 ⟨l.getD i default, by rw [List.getD_eq_getElem?_getD, List.getElem?_eq_getElem hi]; exact List.getElem_mem hi, rfl⟩)
  exact ⟨this.1, this.2.2.1⟩
theorem script_facts {l : List JOp} (h1 : opsOk l) (h2 : opsWf l) : ∀ i, i ≤ l.length → Sim (wA l i) (sA l i) ∧ (wA l i).out.length ≤ i * 7000000 ∧ (wA l i).l.length ≤ i ∧ (sA l i).out.length ≤ i * 7000000 ∧ (sA l i).op.length ≤ i
  | 0, _ => ⟨sim_new, by simp [wA, WS.new], by simp [wA, WS.new], by simp [sA], by simp [sA]⟩
  | i + 1, hi => by
    obtain ⟨a, b, c, d, e⟩ := script_facts h1 h2 i (by omega)
    have o1 := h1 i (by omega)
    obtain ⟨o2, o3⟩ := h2 i (by omega)
    have p1 := op_len (wA l i) _ o3
    have p2 := does_len (sA l i) _ o3
    rw [wA_next (by omega), sA_next (by omega)]
    exact ⟨sim_op a _ o2, by omega, by omega, by omega, by omega⟩
theorem f_jwScript (l : List JOp) (hp : opsOk l) : OK 3 [.list false 3 (l.map eo)] [] (.bool true) none := by
  refine funOK_of_vc (C := cx [(7, sm_jwWorks), (8, sm_jwNew), (9, sm_jwDo), (10, sm_r15Do), (11, sm_jwDone), (12, sm_r15Done)]) (good ⟨k_jwWorks, k_jwNew, k_jwDo, k_r15Do, k_jwDone, k_r15Done, trivial⟩) (fn := Try.f3) rfl rfl rfl rfl fun hw hs => ?_
  have hwf := wf_ops hw.1.2
  have e1 : (l.map eo).length = l.length := by simp
  repeat' (
      conv => whnf
      first
      | refine req_i ?_ ?_
      | refine when_i ?_ ?_
      | refine brn_not ?_
      | refine brn_dec (fun h => ?_) (fun h => ?_)
      | refine brn_int (fun h => ?_) (fun h => ?_)
      | refine brn_intne (fun h => ?_) (fun h => ?_)
      | refine brn_str (fun h => ?_) (fun h => ?_)
      | refine brn_i (fun h => ?_) (fun h => ?_)
      | with_reducible refine IdxK.mk _ rfl ?_
      | with_reducible refine idx_blI ?_ (fun hc => ?_)
      | with_reducible refine idx_bl ?_ (fun hc => ?_)
      | with_reducible refine idx_strI ?_ (fun hc => ?_)
      | with_reducible refine idx_str ?_ (fun hc => ?_)
      | with_reducible refine idx_mapDI ?_ ?_
      | with_reducible refine idx_mapD ?_ ?_
      | with_reducible refine idx_at ?_ (fun b hb => ?_)
      | refine ex_bl ?_
      | refine ex_b1 ?_ ?_
      | refine ex_b2 ?_ ?_ ?_
      | refine ex_b3 ?_ ?_ ?_ ?_
      | refine ex_b4 ?_ ?_ ?_ ?_ ?_
      | refine optK_setL ?_ ?_
      | refine optK_takeL ?_ ?_
      | with_reducible refine forceDs_i ?_
      )
  all_goals try (conv => whnf)
  all_goals try (refine Side.mk ?_; try dsimp only)
  all_goals first
    | (show LoopP _ _ _ _; skip)
    | (show EndP _ _ _ _ _ _; skip)
    | (show ∃ _, _; skip)
    | (first
          | trivial
          | omega
          | (simp (discharger := omega) only [wu8, wu16, wu32, wu64, wi32, wi64, Int.tdiv_eq_ediv_of_nonneg, Int.tmod_eq_emod_of_nonneg]; omega)
          | (simp only [List.length_append, List.length_cons, List.length_nil, bl_length, List.length_take, List.length_drop]; omega)
          | (simp (discharger := omega) [-List.getD_eq_getElem?_getD, wu8, wu16, wu32, wu64, wi32, wi64, Int.tdiv_eq_ediv_of_nonneg, Int.tmod_eq_emod_of_nonneg]; done)
          | (simp (discharger := omega) [-List.getD_eq_getElem?_getD, wu8, wu16, wu32, wu64, wi32, wi64, Int.tdiv_eq_ediv_of_nonneg, Int.tmod_eq_emod_of_nonneg]; omega))
    | skip
  · refine EndP.mk [] ?_ <;> (repeat' (first | trivial | rfl | exact scopedL_bl _ _ | refine And.intro ?_ ?_ | refine congrArg V.str ?_ | refine congrArg (V.int _) ?_ | refine congrArg V.bool ?_ | refine congrArg (O.buf _ _) ?_ | refine congrArg O.cells ?_ | refine congrArg (V.list _ _) ?_ | refine congrArg V.agg ?_ | refine congrArg V.tuple ?_ | refine cons_eq ?_ ?_))
  refine LoopP.mk Nat (fun i => i ≤ l.length) (fun i => ⟨52, [(0, .list false 3 (l.map eo)), (3, .ptr 0 0), (4, .ptr 3 0), (5, .int .i64 i)], [.cells [.buf 1, .buf 2, .bool (wA l i).whole, .int .i64 (wA l i).code, .func (.func 13) [] []], .buf 1 0 (bl (wA l i).out), .buf 3 0 ((wA l i).l.map ef), .cells [.str (sA l i).out, .str (sA l i).op, .bool (sA l i).keyed, .bool (sA l i).after, .int .i64 (sA l i).code]], [1, 2]⟩) (fun i => l.length - i) [] 0 (Nat.zero_le _) ?_ (fun i hi _ _ => ?_)
  · refine Go.VG.Sub.mk rfl ?_ ?_ ?_ ?_ <;> (repeat' (first | trivial | rfl | exact scopedL_bl _ _ | refine And.intro ?_ ?_ | refine congrArg V.str ?_ | refine congrArg (V.int _) ?_ | refine congrArg V.bool ?_ | refine congrArg (O.buf _ _) ?_ | refine congrArg O.cells ?_ | refine congrArg (V.list _ _) ?_ | refine congrArg V.agg ?_ | refine congrArg V.tuple ?_ | refine cons_eq ?_ ?_))
  obtain ⟨f1, f2, f3, f4, f5⟩ := script_facts hp hwf i hi
  have g1 := hp i
  have wn : i < l.length → (deW (bl (wA l i).out) ((wA l i).l.map ef) (wA l i).whole (wA l i).code).op ⟨(l.getD i default).kind, (l.getD i default).text, (l.getD i default).n⟩ = wA l (i + 1) := fun h => by rw [deW_e]; exact (wA_next h).symm
  have sn : i < l.length → DS.does ⟨(sA l i).out, (sA l i).op, (sA l i).keyed, (sA l i).after, (sA l i).code⟩ ⟨(l.getD i default).kind, (l.getD i default).text, (l.getD i default).n⟩ = sA l (i + 1) := fun h => (sA_next h).symm
  have sd : i < l.length → (wA l (i + 1)).done = (sA l (i + 1)).done := fun h => sim_done (script_facts hp hwf (i + 1) (by omega)).1
  have se : i < l.length → DS.done ⟨(sA l (i + 1)).out, (sA l (i + 1)).op, (sA l (i + 1)).keyed, (sA l (i + 1)).after, (sA l (i + 1)).code⟩ = (sA l (i + 1)).done := fun h => rfl
  have sf := fun h => script_facts hp hwf (i + 1) h
  repeat' (
      conv => whnf
      first
      | refine req_i ?_ ?_
      | refine when_i ?_ ?_
      | refine brn_not ?_
      | refine brn_dec (fun h => ?_) (fun h => ?_)
      | refine brn_int (fun h => ?_) (fun h => ?_)
      | refine brn_intne (fun h => ?_) (fun h => ?_)
      | refine brn_str (fun h => ?_) (fun h => ?_)
      | refine brn_i (fun h => ?_) (fun h => ?_)
      | with_reducible refine IdxK.mk _ rfl ?_
      | with_reducible refine idx_blI ?_ (fun hc => ?_)
      | with_reducible refine idx_bl ?_ (fun hc => ?_)
      | with_reducible refine idx_strI ?_ (fun hc => ?_)
      | with_reducible refine idx_str ?_ (fun hc => ?_)
      | with_reducible refine idx_mapDI ?_ ?_
      | with_reducible refine idx_mapD ?_ ?_
      | with_reducible refine idx_at ?_ (fun b hb => ?_)
      | refine ex_bl ?_
      | refine ex_b1 ?_ ?_
      | refine ex_b2 ?_ ?_ ?_
      | refine ex_b3 ?_ ?_ ?_ ?_
      | refine ex_b4 ?_ ?_ ?_ ?_ ?_
      | refine optK_setL ?_ ?_
      | refine optK_takeL ?_ ?_
      | with_reducible refine forceDs_i ?_
      )
  all_goals try (conv => whnf)
  all_goals try (refine Side.mk ?_; try dsimp only)
  all_goals first
    | (show LoopP _ _ _ _; skip)
    | (show EndP _ _ _ _ _ _; skip)
    | (show ∃ _, _; skip)
    | (first
          | trivial
          | omega
          | (simp (discharger := omega) only [wu8, wu16, wu32, wu64, wi32, wi64, Int.tdiv_eq_ediv_of_nonneg, Int.tmod_eq_emod_of_nonneg]; omega)
          | (simp only [List.length_append, List.length_cons, List.length_nil, bl_length, List.length_take, List.length_drop]; omega)
          | (simp (discharger := omega) [-List.getD_eq_getElem?_getD, wu8, wu16, wu32, wu64, wi32, wi64, Int.tdiv_eq_ediv_of_nonneg, Int.tmod_eq_emod_of_nonneg]; done)
          | (simp (discharger := omega) [-List.getD_eq_getElem?_getD, wu8, wu16, wu32, wu64, wi32, wi64, Int.tdiv_eq_ediv_of_nonneg, Int.tmod_eq_emod_of_nonneg]; omega))
    | skip
  · rw [deW_e]; exact ⟨trivial, okW_e (by omega) (by omega), ⟨by omega, by omega⟩, by omega⟩
  · have hlt : i < l.length := by omega
    have := sf hlt
    rw [wn hlt]; exact ⟨okW_e (by omega) (by omega), trivial⟩
  · have hlt : i < l.length := by omega
    refine ⟨[], i + 1, by omega, ?_, by omega⟩
    simp only [wn hlt, sn hlt]
    refine Go.VG.Sub.mk rfl ?_ ?_ ?_ ?_ <;> (repeat' (first | trivial | rfl | exact scopedL_bl _ _ | refine And.intro ?_ ?_ | refine congrArg V.str ?_ | refine congrArg (V.int _) ?_ | refine congrArg V.bool ?_ | refine congrArg (O.buf _ _) ?_ | refine congrArg O.cells ?_ | refine congrArg (V.list _ _) ?_ | refine congrArg V.agg ?_ | refine congrArg V.tuple ?_ | refine cons_eq ?_ ?_))
    (first | omega | (simp (discharger := omega) only [wu8, wu16, wu32, wu64, wi32, wi64, Int.tdiv_eq_ediv_of_nonneg, Int.tmod_eq_emod_of_nonneg]; omega) | (simp only [List.length_append, List.length_cons, List.length_nil, bl_length, List.length_take, List.length_drop]; omega) | (simp (discharger := omega) [-List.getD_eq_getElem?_getD, wu8, wu16, wu32, wu64, wi32, wi64, Int.tdiv_eq_ediv_of_nonneg, Int.tmod_eq_emod_of_nonneg]; done) | (simp (discharger := omega) [-List.getD_eq_getElem?_getD, wu8, wu16, wu32, wu64, wi32, wi64, Int.tdiv_eq_ediv_of_nonneg, Int.tmod_eq_emod_of_nonneg]; omega))
  · exfalso
    have hlt : i < l.length := by omega
    have wn' : (wA l i).op ⟨(l.getD i default).kind, (l.getD i default).text, (l.getD i default).n⟩ = wA l (i + 1) := (wA_next hlt).symm
    have se' := se hlt
    have sd' := sd hlt
    have sn' := sn hlt
    clear wn sn sd se sf
    simp only [deW_e, wn', sn', se', sd', not_true_eq_false, ne_eq] at *
  · exfalso
    have hlt : i < l.length := by omega
    have wn' : (wA l i).op ⟨(l.getD i default).kind, (l.getD i default).text, (l.getD i default).n⟩ = wA l (i + 1) := (wA_next hlt).symm
    have se' := se hlt
    have sd' := sd hlt
    have sn' := sn hlt
    clear wn sn sd se sf
    simp only [deW_e, wn', sn', se', sd', not_true_eq_false, ne_eq] at *
  · refine EndP.mk [] ?_ <;> (repeat' (first | trivial | rfl | exact scopedL_bl _ _ | refine And.intro ?_ ?_ | refine congrArg V.str ?_ | refine congrArg (V.int _) ?_ | refine congrArg V.bool ?_ | refine congrArg (O.buf _ _) ?_ | refine congrArg O.cells ?_ | refine congrArg (V.list _ _) ?_ | refine congrArg V.agg ?_ | refine congrArg V.tuple ?_ | refine cons_eq ?_ ?_))
end Go.Proofs.Ytgbkjecepncjoaa
