/-
  A tree of JSON: the closure that recovers.
-/
import Derived.Test.YtafgmmfbhpbogaaGreatDoorB
import Derived.Test.YtafgmmfbhpbogaaGreatDoorVgZC
import Derived.TacticsInMore
set_option linter.unusedSimpArgs false
set_option linter.unusedVariables false
set_option maxHeartbeats 4000000
namespace Go.Proofs.YtafgmmfbhpbogaaGreatDoor
open Go Go.VG
set_option maxRecDepth 100000
theorem as0' (w : World) : (Instr.typeAssert .nilIface 20 229 true).run Tryz.prog w = .ok (.tuple #[.int .i64 0, .bool false]) w := by rfl
theorem as1' (n : Int) (w : World) : (Instr.typeAssert (.iface 229 (.int .i64 n)) 20 229 true).run Tryz.prog w = .ok (.tuple #[.int .i64 n, .bool true]) w := by rfl
theorem as0 {ev : Operand → Value} {o : Oper} {x : Operand} (ho : o.op = .typeAssert x 20 229 true) (hx : ev x = .nilIface) (w : World) : (execOp ev o).run Tryz.prog w = .ok (.value (.tuple #[.int .i64 0, .bool false])) w := by
  simp only [execOp, ho, hx, Sem.run_bind, as0', Result.andThen_ok, Sem.run_pure]
theorem as1 {ev : Operand → Value} {o : Oper} {x : Operand} {n : Int} (ho : o.op = .typeAssert x 20 229 true) (hx : ev x = .iface 229 (.int .i64 n)) (w : World) : (execOp ev o).run Tryz.prog w = .ok (.value (.tuple #[.int .i64 n, .bool true])) w := by
  simp only [execOp, ho, hx, Sem.run_bind, as1', Result.andThen_ok, Sem.run_pure]
theorem so_mv {ev : Operand → Value} {o : Oper} {x : Operand} {v : Value} {P : Program} (ho : o.op = .move x ∨ o.op = .assign x) (hx : ev x = v) (w : World) : (execOp ev o).run P w = .ok (.value v) w := by
  rcases ho with ho | ho <;> simp only [execOp, ho, hx, Sem.run_pure]
theorem so_ex {ev : Operand → Value} {o : Oper} {x : Operand} {i : Nat} {vs : Array Value} {v : Value} {P : Program} (ho : o.op = .extract x i) (hx : ev x = .tuple vs) (hv : vs[i]? = some v) (w : World) : (execOp ev o).run P w = .ok (.value v) w := by
  simp [execOp, ho, hx, Instr.extract, hv]
section
variable {P : Program} {ops : Array Oper} {Q : Exit → Act → List Frame → World → Prop} {i : Nat} {rest : List Nat} {a : Act} {cs : List Frame} {w : World} {o : Oper}
theorem so_val {v : Value} (ho : ops[i]? = some o) (hg : o.guard = none) (hx : (execOp a.eval o).run P w = .ok (.value v) w) (h : wpOpsSIn Fence.wide 0 P ops Q rest (a.put o.dst v) cs w) : wpOpsSIn Fence.wide 0 P ops Q (i :: rest) a cs w := by
  unfold wpOpsSIn
  rw [ho]
  refine ⟨fun _ _ => trivial, ?_⟩
  rw [if_pos (by simp [Region.wanted, hg]), hx]
  exact h
theorem so_rec {v : Value} {cs' : List Frame} (ho : ops[i]? = some o) (hg : o.guard = none) (hx : (execOp a.eval o).run P w = .ok .recover w) (hc : recoverD cs = some (v, cs')) (h : wpOpsSIn Fence.wide 0 P ops Q rest (a.put o.dst v) cs' w) : wpOpsSIn Fence.wide 0 P ops Q (i :: rest) a cs w := by
  unfold wpOpsSIn
  rw [ho]
  refine ⟨fun _ _ => trivial, ?_⟩
  rw [if_pos (by simp [Region.wanted, hg]), hx]
  show (match recoverD cs with | some (v, cs') => _ | none => _)
  rw [hc]
  exact h
theorem so_none (ho : ops[i]? = some o) (hg : o.guard = none) (hx : (execOp a.eval o).run P w = .ok .recover w) (hc : recoverD cs = none) (h : wpOpsSIn Fence.wide 0 P ops Q rest (a.put o.dst .nilIface) cs w) : wpOpsSIn Fence.wide 0 P ops Q (i :: rest) a cs w := by
  unfold wpOpsSIn
  rw [ho]
  refine ⟨fun _ _ => trivial, ?_⟩
  rw [if_pos (by simp [Region.wanted, hg]), hx]
  show (match recoverD cs with | some (v, cs') => _ | none => _)
  rw [hc]
  exact h
end
theorem lit11 (v1 v2 : Value) : [v1, v2].toArray ++ Array.replicate (11 - [v1, v2].toArray.size) undef = #[v1, v2, undef, undef, undef, undef, undef, undef, undef, undef, undef] := by rfl
theorem vr_tm {v1 v2 y4 y5 y6 y7 y8 : Value} {n : Int} {b : Bool} (hn : -9223372036854775808 ≤ n ∧ n ≤ 9223372036854775807) : ∀ (st : St) (g : Ghost) (n' : Nat), VRs st g [.ptr 0 0, .ptr 1 0] n' [v1, v2] → ∀ t, VR st g (lk [(3, .bool b), (2, .int .i64 n), (1, .ptr 1 0), (0, .ptr 0 0)] t) n' ((#[v1, v2, .int .i64 n, .bool b, y4, y5, y6, y7, y8, undef, undef] : Array Value).getD t undef) := by
  intro st g n' hv t
  obtain ⟨x1, q1, q2⟩ := VRs_get hv (i := 0) rfl
  obtain ⟨x2, q3, q4⟩ := VRs_get hv (i := 1) rfl
  cases q1; cases q3
  match t with
  | 0 => exact q2
  | 1 => exact q4
  | 2 => exact ⟨rfl, hn⟩
  | 3 => rfl
  | t + 4 => trivial
/-- nothing was panicked with -/
theorem clo_ret (σ : List O) (hσ : subSg σ σ σ.length) : CloOK Tryz.prog gl0 108 [.ptr 0 0, .ptr 1 0] σ none σ := by
  refine cloOK_of_ev (C := cx []) (good trivial) (cfn := Tryz.f108) (tm := [(3, .bool false), (2, .int .i64 0), (1, .ptr 1 0), (0, .ptr 0 0)]) rfl rfl rfl rfl (fun vs w c₀ cs Q hl hu h => ?_) ?_
  · obtain ⟨v1, v2, rfl⟩ : ∃ v1 v2, vs = [v1, v2] := by
      match vs, hl with
      | [v1, v2], _ => exact ⟨v1, v2, rfl⟩
    rw [show Tryz.f108.ntmps = 11 from rfl] at h ⊢
    rw [lit11]
    apply wpSIn_region
    show wpOpsSIn Fence.wide 0 Tryz.prog _ _ _ _ _ _
    refine so_none rfl rfl rfl (by simp [recoverD, hu, modeOf]) ?_
    refine so_val (v := .tuple #[.int .i64 0, .bool false]) rfl rfl (as0 rfl rfl w) ?_
    refine so_val (v := .tuple #[.int .i64 0, .bool false]) rfl rfl (so_mv (x := .tmp 6) (v := .tuple #[.int .i64 0, .bool false]) (.inl rfl) rfl w) ?_
    refine so_val (v := .int .i64 0) rfl rfl (so_ex (x := .tmp 4) (i := 0) (vs := #[.int .i64 0, .bool false]) (v := .int .i64 0) rfl rfl rfl w) ?_
    refine so_val (v := .bool false) rfl rfl (so_ex (x := .tmp 4) (i := 1) (vs := #[.int .i64 0, .bool false]) (v := .bool false) rfl rfl rfl w) ?_
    refine so_val (v := .int .i64 0) rfl rfl (so_mv (x := .tmp 7) (v := .int .i64 0) (.inr rfl) rfl w) ?_
    refine so_val (v := .bool false) rfl rfl (so_mv (x := .tmp 8) (v := .bool false) (.inr rfl) rfl w) ?_
    have hc0 : c₀ = { c₀ with mode := .returning } := by cases c₀; simp_all [modeOf]
    rw [hc0]
    refine h _ .returning rfl rfl rfl ?_
    exact vr_tm (by decide)
  · repeat' ((conv => whnf); apply go3)
    all_goals try conv => whnf
    all_goals try (refine Side.mk ?_; try dsimp only)
    · rfl
    · exact hσ
    · exact Nat.ble_eq_true_of_le (Nat.le_refl _)
theorem clo_pan (n : Int) (hm : -9223372036854775808 ≤ n ∧ n ≤ 9223372036854775807) : CloOK Tryz.prog gl0 108 [.ptr 0 0, .ptr 1 0] [.cells [.list true 0 []], .cells [.int .i64 0], .dead, .dead, .dead, .buf 1 0 []]
    (some (.iface 229 (.int .i64 n))) [.cells [.list true 0 []], .cells [.int .i64 n], .dead, .dead, .dead, .buf 1 0 []] := by
  refine cloOK_of_ev (C := cx []) (good trivial) (cfn := Tryz.f108) (tm := [(3, .bool true), (2, .int .i64 n), (1, .ptr 1 0), (0, .ptr 0 0)]) rfl rfl rfl rfl (fun vs w c₀ cs Q hl hu h => ?_) ?_
  · obtain ⟨v1, v2, rfl⟩ : ∃ v1 v2, vs = [v1, v2] := by
      match vs, hl with
      | [v1, v2], _ => exact ⟨v1, v2, rfl⟩
    rw [show Tryz.f108.ntmps = 11 from rfl] at h ⊢
    rw [lit11]
    apply wpSIn_region
    show wpOpsSIn Fence.wide 0 Tryz.prog _ _ _ _ _ _
    refine so_rec (v := .iface 229 (.int .i64 n)) (cs' := { c₀ with mode := .panicking [{ v := .iface 229 (.int .i64 n), recovered := true }] } :: cs) rfl rfl rfl (by simp [recoverD, hu, modeOf]) ?_
    refine so_val (v := .tuple #[.int .i64 n, .bool true]) rfl rfl (as1 rfl rfl w) ?_
    refine so_val (v := .tuple #[.int .i64 n, .bool true]) rfl rfl (so_mv (x := .tmp 6) (v := .tuple #[.int .i64 n, .bool true]) (.inl rfl) rfl w) ?_
    refine so_val (v := .int .i64 n) rfl rfl (so_ex (x := .tmp 4) (i := 0) (vs := #[.int .i64 n, .bool true]) (v := .int .i64 n) rfl rfl rfl w) ?_
    refine so_val (v := .bool true) rfl rfl (so_ex (x := .tmp 4) (i := 1) (vs := #[.int .i64 n, .bool true]) (v := .bool true) rfl rfl rfl w) ?_
    refine so_val (v := .int .i64 n) rfl rfl (so_mv (x := .tmp 7) (v := .int .i64 n) (.inr rfl) rfl w) ?_
    refine so_val (v := .bool true) rfl rfl (so_mv (x := .tmp 8) (v := .bool true) (.inr rfl) rfl w) ?_
    refine h _ (.panicking [{ v := .iface 229 (.int .i64 n), recovered := true }]) rfl rfl rfl ?_
    exact vr_tm hm
  · repeat' ((conv => whnf); apply go3)
    all_goals try conv => whnf
    all_goals try (refine Side.mk ?_; try dsimp only)
    · rfl
    · (repeat' first | trivial | rfl | refine And.intro ?_ ?_)
    · rfl
end Go.Proofs.YtafgmmfbhpbogaaGreatDoor
