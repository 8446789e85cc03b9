/-
  A tree of JSON: the law's own examples; the law JtreeReads.
-/
import Derived.Test.YtllncocibkgjkaaB
import Derived.Test.YtllncocibkgjkaaVgZC
import Derived.TacticsInMore
import Derived.Test.YtllncocibkgjkaaTRa
import Derived.Test.YtllncocibkgjkaaTRf
import Derived.Test.YtllncocibkgjkaaTRb
import Derived.Test.YtllncocibkgjkaaTRu
import Derived.Test.YtllncocibkgjkaaTRv
set_option linter.unusedSimpArgs false
set_option linter.unusedVariables false
set_option maxHeartbeats 4000000
namespace Go.Proofs.Ytllncocibkgjkaa
open Go Go.VG
set_option maxRecDepth 100000
theorem as0' (w : World) : (Instr.typeAssert .nilIface 20 100 true).run Try.prog w = .ok (.tuple #[.int .i64 0, .bool false]) w := by rfl
theorem as1' (n : Int) (w : World) : (Instr.typeAssert (.iface 100 (.int .i64 n)) 20 100 true).run Try.prog w = .ok (.tuple #[.int .i64 n, .bool true]) w := by rfl
theorem as0 {ev : Operand → Value} {o : Oper} {x : Operand} (ho : o.op = .typeAssert x 20 100 true) (hx : ev x = .nilIface) (w : World) : (execOp ev o).run Try.prog w = .ok (.value (.tuple #[.int .i64 0, .bool false])) w := by
  simp only [execOp, ho, hx, Sem.run_bind, as0', Result.andThen_ok, Sem.run_pure]
theorem as1 {ev : Operand → Value} {o : Oper} {x : Operand} {n : Int} (ho : o.op = .typeAssert x 20 100 true) (hx : ev x = .iface 100 (.int .i64 n)) (w : World) : (execOp ev o).run Try.prog w = .ok (.value (.tuple #[.int .i64 n, .bool true])) w := by
  simp only [execOp, ho, hx, Sem.run_bind, as1', Result.andThen_ok, Sem.run_pure]
theorem a4p {ev : Operand → Value} {o : Oper} {x : Operand} {v : Value} {P : Program} (ho : o.op = .move x ∨ o.op = .assign x) (hx : ev x = v) (w : World) : (execOp ev o).run P w = .ok (.value v) w := by
  rcases ho with ho | ho <;> simp only [execOp, ho, hx, Sem.run_pure]
theorem bbo {ev : Operand → Value} {o : Oper} {x : Operand} {i : Nat} {vs : Array Value} {v : Value} {P : Program} (ho : o.op = .extract x i) (hx : ev x = .tuple vs) (hv : vs[i]? = some v) (w : World) : (execOp ev o).run P w = .ok (.value v) w := by
  simp [execOp, ho, hx, Instr.extract, hv]
section
variable {P : Program} {ops : Array Oper} {Q : Exit → Act → List Frame → World → Prop} {i : Nat} {rest : List Nat} {a : Act} {cs : List Frame} {w : World} {o : Oper}
theorem ai9 {v : Value} (ho : ops[i]? = some o) (hg : o.guard = none) (hx : (execOp a.eval o).run P w = .ok (.value v) w) (h : wpOpsSIn Fence.wide 0 P ops Q rest (a.put o.dst v) cs w) : wpOpsSIn Fence.wide 0 P ops Q (i :: rest) a cs w := by
  unfold wpOpsSIn
  rw [ho]
  refine ⟨fun _ _ => trivial, ?_⟩
  rw [if_pos (by simp [Region.wanted, hg]), hx]
  exact h
theorem so_rec {v : Value} {cs' : List Frame} (ho : ops[i]? = some o) (hg : o.guard = none) (hx : (execOp a.eval o).run P w = .ok .recover w) (hc : recoverD cs = some (v, cs')) (h : wpOpsSIn Fence.wide 0 P ops Q rest (a.put o.dst v) cs' w) : wpOpsSIn Fence.wide 0 P ops Q (i :: rest) a cs w := by
  unfold wpOpsSIn
  rw [ho]
  refine ⟨fun _ _ => trivial, ?_⟩
  rw [if_pos (by simp [Region.wanted, hg]), hx]
  show (match recoverD cs with | some (v, cs') => _ | none => _)
  rw [hc]
  exact h
theorem bew (ho : ops[i]? = some o) (hg : o.guard = none) (hx : (execOp a.eval o).run P w = .ok .recover w) (hc : recoverD cs = none) (h : wpOpsSIn Fence.wide 0 P ops Q rest (a.put o.dst .nilIface) cs w) : wpOpsSIn Fence.wide 0 P ops Q (i :: rest) a cs w := by
  unfold wpOpsSIn
  rw [ho]
  refine ⟨fun _ _ => trivial, ?_⟩
  rw [if_pos (by simp [Region.wanted, hg]), hx]
  show (match recoverD cs with | some (v, cs') => _ | none => _)
  rw [hc]
  exact h
end
theorem lit11 (v1 v2 : Value) : [v1, v2].toArray ++ Array.replicate (11 - [v1, v2].toArray.size) undef = #[v1, v2, undef, undef, undef, undef, undef, undef, undef, undef, undef] := by rfl
theorem vr_tm {v1 v2 y4 y5 y6 y7 y8 : Value} {n : Int} {b : Bool} (hn : -9223372036854775808 ≤ n ∧ n ≤ 9223372036854775807) : ∀ (st : St) (g : aa1) (n' : Nat), VRs st g [.ptr 0 0, .ptr 1 0] n' [v1, v2] → ∀ t, VR st g (lk [(3, .bool b), (2, .int .i64 n), (1, .ptr 1 0), (0, .ptr 0 0)] t) n' ((#[v1, v2, .int .i64 n, .bool b, y4, y5, y6, y7, y8, undef, undef] : Array Value).getD t undef) := by
  intro st g n' hv t
  obtain ⟨x1, q1, q2⟩ := afq hv (i := 0) rfl
  obtain ⟨x2, q3, q4⟩ := afq hv (i := 1) rfl
  cases q1; cases q3
  match t with
  | 0 => exact q2
  | 1 => exact q4
  | 2 => exact ⟨rfl, hn⟩
  | 3 => rfl
  | t + 4 => trivial
theorem bd1 (σ : List O) (hσ : agc σ σ σ.length) : a9a Try.prog gl0 55 [.ptr 0 0, .ptr 1 0] σ none σ := by
  refine ap2 (C := cx []) (abh trivial) (cfn := Try.f55) (tm := [(3, .bool false), (2, .int .i64 0), (1, .ptr 1 0), (0, .ptr 0 0)]) rfl rfl rfl rfl (fun vs w c₀ cs Q hl hu h => ?_) ?_
  · obtain ⟨v1, v2, rfl⟩ : ∃ v1 v2, vs = [v1, v2] := by
      match vs, hl with
      | [v1, v2], _ => exact ⟨v1, v2, rfl⟩
    rw [show Try.f55.ntmps = 11 from rfl] at h ⊢
    rw [lit11]
    apply wpSIn_region
    show wpOpsSIn Fence.wide 0 Try.prog _ _ _ _ _ _
    refine bew rfl rfl rfl (by simp [recoverD, hu, ao4]) ?_
    refine ai9 (v := .tuple #[.int .i64 0, .bool false]) rfl rfl (as0 rfl rfl w) ?_
    refine ai9 (v := .tuple #[.int .i64 0, .bool false]) rfl rfl (a4p (x := .tmp 6) (v := .tuple #[.int .i64 0, .bool false]) (.inl rfl) rfl w) ?_
    refine ai9 (v := .int .i64 0) rfl rfl (bbo (x := .tmp 4) (i := 0) (vs := #[.int .i64 0, .bool false]) (v := .int .i64 0) rfl rfl rfl w) ?_
    refine ai9 (v := .bool false) rfl rfl (bbo (x := .tmp 4) (i := 1) (vs := #[.int .i64 0, .bool false]) (v := .bool false) rfl rfl rfl w) ?_
    refine ai9 (v := .int .i64 0) rfl rfl (a4p (x := .tmp 7) (v := .int .i64 0) (.inr rfl) rfl w) ?_
    refine ai9 (v := .bool false) rfl rfl (a4p (x := .tmp 8) (v := .bool false) (.inr rfl) rfl w) ?_
    have hc0 : c₀ = { c₀ with mode := .returning } := by cases c₀; simp_all [ao4]
    rw [hc0]
    refine h _ .returning rfl rfl rfl ?_
    exact vr_tm (by decide)
  · repeat' ((conv => whnf); first | with_reducible (first | refine go1 (fun j q h => ?_) fun h => ?_ | refine go2 ⟨rfl, rfl⟩ (fun h => ?_) fun j h => ?_ | refine go2 ?_ (fun h => ?_) fun j h => ?_ | refine goQ ?_ (fun h => ?_) fun h => ?_) | refine go3 ?_ ?_ | refine go4 ?_ ?_ | refine go5 ?_ | ((first | refine go6 ?_ ?_ | refine go7 ?_ ?_ | refine go8 ?_ ?_ | refine go9 ?_ ?_ | refine goA ?_ ?_) <;> intro h) | with_reducible (first | refine aai.mk _ rfl ?_ | refine goB ?_ fun hc => ?_ | refine goC ?_ fun hc => ?_ | refine goD ?_ fun hc => ?_ | refine goE ?_ fun hc => ?_ | refine goF ?_ ?_ | refine goG ?_ ?_ | refine goH ?_ fun b hb => ?_) | refine goI ?_ | refine goJ ?_ ?_ | refine goK ?_ ?_ ?_ | refine goL ?_ ?_ ?_ ?_ | refine goM ?_ ?_ ?_ ?_ ?_ | refine goN ?_ ?_ | refine goO ?_ ?_ | with_reducible refine goP ?_)
    all_goals try conv => whnf
    all_goals try (refine aac.mk ?_; try dsimp only)
    · rfl
    · exact hσ
    · exact Nat.ble_eq_true_of_le (Nat.le_refl _)
theorem ay8 (n : Int) (hm : -9223372036854775808 ≤ n ∧ n ≤ 9223372036854775807) : a9a Try.prog gl0 55 [.ptr 0 0, .ptr 1 0] [.cells [.list true 0 []], .cells [.int .i64 0], .dead, .dead, .dead, .buf 1 0 []]
    (some (.iface 100 (.int .i64 n))) [.cells [.list true 0 []], .cells [.int .i64 n], .dead, .dead, .dead, .buf 1 0 []] := by
  refine ap2 (C := cx []) (abh trivial) (cfn := Try.f55) (tm := [(3, .bool true), (2, .int .i64 n), (1, .ptr 1 0), (0, .ptr 0 0)]) rfl rfl rfl rfl (fun vs w c₀ cs Q hl hu h => ?_) ?_
  · obtain ⟨v1, v2, rfl⟩ : ∃ v1 v2, vs = [v1, v2] := by
      match vs, hl with
      | [v1, v2], _ => exact ⟨v1, v2, rfl⟩
    rw [show Try.f55.ntmps = 11 from rfl] at h ⊢
    rw [lit11]
    apply wpSIn_region
    show wpOpsSIn Fence.wide 0 Try.prog _ _ _ _ _ _
    refine so_rec (v := .iface 100 (.int .i64 n)) (cs' := { c₀ with mode := .panicking [{ v := .iface 100 (.int .i64 n), recovered := true }] } :: cs) rfl rfl rfl (by simp [recoverD, hu, ao4]) ?_
    refine ai9 (v := .tuple #[.int .i64 n, .bool true]) rfl rfl (as1 rfl rfl w) ?_
    refine ai9 (v := .tuple #[.int .i64 n, .bool true]) rfl rfl (a4p (x := .tmp 6) (v := .tuple #[.int .i64 n, .bool true]) (.inl rfl) rfl w) ?_
    refine ai9 (v := .int .i64 n) rfl rfl (bbo (x := .tmp 4) (i := 0) (vs := #[.int .i64 n, .bool true]) (v := .int .i64 n) rfl rfl rfl w) ?_
    refine ai9 (v := .bool true) rfl rfl (bbo (x := .tmp 4) (i := 1) (vs := #[.int .i64 n, .bool true]) (v := .bool true) rfl rfl rfl w) ?_
    refine ai9 (v := .int .i64 n) rfl rfl (a4p (x := .tmp 7) (v := .int .i64 n) (.inr rfl) rfl w) ?_
    refine ai9 (v := .bool true) rfl rfl (a4p (x := .tmp 8) (v := .bool true) (.inr rfl) rfl w) ?_
    refine h _ (.panicking [{ v := .iface 100 (.int .i64 n), recovered := true }]) rfl rfl rfl ?_
    exact vr_tm hm
  · repeat' ((conv => whnf); first | with_reducible (first | refine go1 (fun j q h => ?_) fun h => ?_ | refine go2 ⟨rfl, rfl⟩ (fun h => ?_) fun j h => ?_ | refine go2 ?_ (fun h => ?_) fun j h => ?_ | refine goQ ?_ (fun h => ?_) fun h => ?_) | refine go3 ?_ ?_ | refine go4 ?_ ?_ | refine go5 ?_ | ((first | refine go6 ?_ ?_ | refine go7 ?_ ?_ | refine go8 ?_ ?_ | refine go9 ?_ ?_ | refine goA ?_ ?_) <;> intro h) | with_reducible (first | refine aai.mk _ rfl ?_ | refine goB ?_ fun hc => ?_ | refine goC ?_ fun hc => ?_ | refine goD ?_ fun hc => ?_ | refine goE ?_ fun hc => ?_ | refine goF ?_ ?_ | refine goG ?_ ?_ | refine goH ?_ fun b hb => ?_) | refine goI ?_ | refine goJ ?_ ?_ | refine goK ?_ ?_ ?_ | refine goL ?_ ?_ ?_ ?_ | refine goM ?_ ?_ ?_ ?_ ?_ | refine goN ?_ ?_ | refine goO ?_ ?_ | with_reducible refine goP ?_)
    all_goals try conv => whnf
    all_goals try (refine aac.mk ?_; try dsimp only)
    · rfl
    · (repeat' first | trivial | rfl | refine And.intro ?_ ?_)
    · rfl
end Go.Proofs.Ytllncocibkgjkaa
set_option linter.unusedSimpArgs false
set_option linter.unusedVariables false
set_option maxHeartbeats 4000000
namespace Go.Proofs.Ytllncocibkgjkaa
open Go Go.VG
set_option maxRecDepth 100000
def Cd (n : Int) : Prop := 0 ≤ n ∧ n ≤ 100
theorem abm {n : Int} (h : decide (0 ≤ n ∧ n ≤ 100) = true) : Cd n := by unfold Cd; exact of_decide_eq_true h
theorem ay9 (t : List UInt8) : ∀ (n i : Nat) (a : Int), Cd (afc t n i a).2
  | 0, _, _ => by rw [afc]; exact abm rfl
  | n + 1, i, a => by
    rw [afc]
    repeat' split
    all_goals first
      | exact abm rfl
      | exact ay9 t n _ _
theorem be9 (t : List UInt8) (i : Nat) (n : Int) : Cd (ae5 t i n).2.2 := by
  unfold ae5
  repeat' split
  all_goals first
    | exact abm rfl
    | exact ay9 _ _ _ _
theorem esc_cd (t : List UInt8) (i : Nat) : Cd (amo t i).2.2 := by
  unfold amo
  repeat' split
  all_goals first
    | exact abm rfl
    | exact ay9 _ _ _ _
    | exact be9 _ _ _
theorem bec (t : List UInt8) (i : Nat) : Cd (ad1 t i).2.2 := by
  unfold ad1
  repeat' split
  all_goals first
    | exact abm rfl
    | exact esc_cd _ _
theorem ass (t : List UInt8) : ∀ (n i : Nat) (o : List UInt8), Cd (ab4 t n i o).1
  | 0, _, _ => by rw [ab4]; exact abm rfl
  | n + 1, i, o => by
    rw [ab4]
    repeat' split
    all_goals first
      | exact abm rfl
      | exact bec _ _
      | exact ass t n _ _
theorem ams {c : Cu} {k : Int} (h0 : c.c = 0) (h : Cd k) : Cd (c.fail k).c := by
  unfold Cu.fail
  rw [if_pos h0]; exact h
theorem bbe {c : Cu} (h0 : c.c = 0) : Cd c.aiy.1.c := by
  unfold Cu.aiy
  repeat' split
  · exact absurd h0 (by assumption)
  · exact ams h0 (abm rfl)
  · exact ams h0 (abm rfl)
  · show Cd c.c; rw [h0]; exact abm rfl
  · exact ams h0 (ass _ _ _ _)
theorem azk (t : List UInt8) (i : Nat) : Cd (agv t i).2 := by
  unfold agv
  repeat' split
  all_goals exact abm rfl
theorem be6 (t : List UInt8) (i : Nat) : Cd (aob t i).2 := by
  have hw : Cd (abe t i).2 := by
    unfold abe; split
    · exact abm rfl
    · exact azk _ _
  have hb : ∀ x, Cd x.2 → Cd (ac6 t x).2 := fun x hx => by
    unfold ac6; split
    · exact azk _ _
    · exact hx
  have hp : ∀ x, Cd x.2 → Cd (aq4 t x).2 := fun x hx => by
    unfold aq4; split
    · exact azk _ _
    · exact hx
  exact hp _ (hb _ hw)
theorem be5 {c : Cu} (h0 : c.c = 0) : Cd c.a44.1.c := by
  unfold Cu.a44
  repeat' split
  · exact absurd h0 (by assumption)
  · exact ams h0 (be6 _ _)
  · show Cd c.c; rw [h0]; exact abm rfl
theorem a29 (c : Cu) : ∀ (s : List UInt8) (i : Nat), Cd (af4 c s i)
  | [], _ => abm rfl
  | b :: s, i => by
    unfold af4
    repeat' split
    all_goals first
      | exact abm rfl
      | exact a29 c s _
theorem a28 {c : Cu} (h0 : c.c = 0) (k : UInt8) : Cd (c.afk k).1.c := by
  unfold Cu.afk
  split
  · exact ams h0 (a29 _ _ _)
  · show Cd c.c; rw [h0]; exact abm rfl
theorem bf2 {d : Cu} (h0 : d.c = 0) : Cd d.a1z.1.c := by
  have z : Cd d.c := by rw [h0]; exact abm rfl
  unfold Cu.a1z
  repeat' split
  · exact z
  · exact z
  · exact bbe h0
  · exact be5 h0
  · exact a28 h0 _
  · exact a28 h0 _
  · exact ams h0 (abm rfl)
theorem bb2 {c : Cu} (h0 : c.c = 0) : Cd c.aan.1.c := by
  unfold Cu.aan
  rw [if_neg (by omega)]
  exact bf2 (d := { c with p := an4 anr c.txt c.p }) h0
theorem am4 {c : Cu} (h : c.live) : Cd c.tkE := by
  have hs := apy h.1
  unfold Cu.tkE
  repeat' split
  · rw [hs.2.1]; exact bb2 h.2.1
  · exact abm rfl
  · exact abm rfl
def CdV (v : VF) : Prop := ∀ t key c, c.live → Cd (v t key c).1
theorem awh {v : VF} (hf : a2a v) (hv : CdV v) : ∀ (n : Nat) (t : Tk) (c : Cu) (acc : List Nd), c.live → Cd (af7 v n t c acc).1
  | 0, _, _, _, _ => by rw [af7]; exact abm rfl
  | n + 1, t, c, acc, hc => by
    rw [af7]
    by_cases h1 : (v t [] c).1 ≠ 0
    · rw [if_pos h1]; exact hv _ _ _ hc
    rw [if_neg h1]
    have f1 := hf t [] c hc (by omega)
    by_cases h2 : (v t [] c).2.2.tkE ≠ 0
    · rw [if_pos h2]; exact am4 f1.live
    rw [if_neg h2]
    obtain ⟨l1, _⟩ := abi f1.live (by omega)
    by_cases h3 : (v t [] c).2.2.next.2.k.toNat = 93
    · rw [if_pos h3]; exact abm rfl
    rw [if_neg h3]
    by_cases h4 : (v t [] c).2.2.next.2.k.toNat ≠ 44
    · rw [if_pos h4]; exact abm rfl
    rw [if_neg h4]
    by_cases h5 : (v t [] c).2.2.next.1.tkE ≠ 0
    · rw [if_pos h5]; exact am4 l1
    rw [if_neg h5]
    obtain ⟨m1, _⟩ := abi l1 (by omega)
    exact awh hf hv n _ _ _ m1
theorem bdd {v : VF} (hf : a2a v) (hv : CdV v) {c : Cu} (hc : c.live) : Cd (aff v c).1 := by
  unfold aff
  by_cases h1 : c.tkE ≠ 0
  · rw [if_pos h1]; exact am4 hc
  rw [if_neg h1]
  obtain ⟨l1, _⟩ := abi hc (by omega)
  split
  · exact abm rfl
  · exact awh hf hv _ _ _ _ l1
theorem awi {v : VF} (hf : a2a v) (hv : CdV v) : ∀ (n : Nat) (t : Tk) (c : Cu) (ks : List (List UInt8)) (acc : List Nd), c.live → Cd (af9 v n t c ks acc).1
  | 0, _, _, _, _, _ => by rw [af9]; exact abm rfl
  | n + 1, t, c, ks, acc, hc => by
    rw [af9]
    by_cases h0 : aop t c ks ≠ 0
    · rw [if_pos h0]
      show Cd (aop t c ks)
      unfold aop
      repeat' split
      all_goals first
        | exact abm rfl
        | exact am4 hc
        | exact am4 (abi hc (by omega)).1
    rw [if_neg h0]
    obtain ⟨_, _, q1, _, q2⟩ := a7p (t := t) (ks := ks) hc (by omega)
    obtain ⟨a1, _⟩ := abi hc q1
    obtain ⟨b1, _⟩ := abi a1 q2
    by_cases h1 : (ai7 v t c).1 ≠ 0
    · rw [if_pos h1]; exact hv _ _ _ b1
    rw [if_neg h1]
    have f1 : Fit c.next.1.next.1 (ai7 v t c) := hf _ _ _ b1 (show (ai7 v t c).1 = 0 by omega)
    by_cases h2 : (ai7 v t c).2.2.tkE ≠ 0
    · rw [if_pos h2]; exact am4 f1.live
    rw [if_neg h2]
    obtain ⟨l1, _⟩ := abi f1.live (by omega)
    by_cases h3 : (ai7 v t c).2.2.next.2.k.toNat = 125
    · rw [if_pos h3]; exact abm rfl
    rw [if_neg h3]
    by_cases h4 : (ai7 v t c).2.2.next.2.k.toNat ≠ 44
    · rw [if_pos h4]; exact abm rfl
    rw [if_neg h4]
    by_cases h5 : (ai7 v t c).2.2.next.1.tkE ≠ 0
    · rw [if_pos h5]; exact am4 l1
    rw [if_neg h5]
    obtain ⟨m1, _⟩ := abi l1 (by omega)
    exact awi hf hv n _ _ _ _ m1
theorem bde {v : VF} (hf : a2a v) (hv : CdV v) {c : Cu} (hc : c.live) : Cd (af8 v c).1 := by
  unfold af8
  by_cases h1 : c.tkE ≠ 0
  · rw [if_pos h1]; exact am4 hc
  rw [if_neg h1]
  obtain ⟨l1, _⟩ := abi hc (by omega)
  split
  · exact abm rfl
  · exact awi hf hv _ _ _ _ _ l1
theorem bdg : ∀ k, CdV (gv k)
  | 0 => fun t key c hc => by
    rw [gv]
    repeat' split
    all_goals exact abm rfl
  | k + 1 => fun t key c hc => by
    rw [gv]
    repeat' split
    · exact bde (aev k) (bdg k) hc
    · exact bdd (aev k) (bdg k) hc
    all_goals exact abm rfl
end Go.Proofs.Ytllncocibkgjkaa
set_option linter.unusedSimpArgs false
set_option linter.unusedVariables false
set_option maxHeartbeats 4000000
namespace Go.Proofs.Ytllncocibkgjkaa
open Go Go.VG
set_option maxRecDepth 100000
noncomputable def cxr (l : List (Nat × Sm)) (p : List (Nat × PSm)) (h : List (Nat × List Pro)) : Ctx := ⟨Try.prog, tt, gl0, fun f => lkS l f, fun _ _ _ => False, fun r => lkH h r, fun _ => false, fun _ _ _ _ => none, fun f => lkP p f, fun _ => false⟩
theorem goodr {l : List (Nat × Sm)} {p : List (Nat × PSm)} {hs : List (Nat × List Pro)} (h : OKs l) (hp : OKp p) : ac4 (cxr l p hs) where
  ti := a4u
  mt := fun _ _ _ h => h.elim
  hm := alh
  gam := fun f args sg pre x r h' hp => asi h args sg pre x r h' hp
  del := fun f args sg pre c u r x r2 h' hq => a14 hp args sg pre c u r x r2 h' hq
theorem a9v (s : List UInt8) (hp : s.length ≤ 10000000) : OK 24 [.str s] [] (.tuple [.buf 0, .int .i64 (af0 s)]) (some [.buf 4 0 ((ajv s).map eNd)]) := by
  refine a6k (C := cxr [(17, aun)] [(57, ae6), (56, abd 32), (58, aq5)] [(3, [.cell 3 1 4])]) (goodr ⟨bcd, trivial⟩ ⟨ag1, asg 32, a7c, trivial⟩) (gf := 55) (fn := Try.f24) rfl rfl rfl rfl rfl rfl rfl rfl rfl rfl fun hw hs => ?_
  have hc : (Cu.new s).live := ⟨⟨Nat.zero_le _, Nat.le_refl _⟩, rfl, hp⟩
  have hn := fun h => abi hc h
  have hrg : ∀ {n : Int}, Cd n → -9223372036854775808 ≤ n ∧ n ≤ 9223372036854775807 := fun h => ⟨by have := h.1; omega, by have := h.2; omega⟩
  have hnil : ∀ {n : Int}, af0 s = n → n ≠ 0 → ajv s = [] := fun h h0 => by unfold ajv; rw [if_neg (by rw [h]; exact h0)]
  repeat' ((conv => whnf); first | with_reducible (first | refine go1 (fun j q h => ?_) fun h => ?_ | refine go2 ⟨rfl, rfl⟩ (fun h => ?_) fun j h => ?_ | refine go2 ?_ (fun h => ?_) fun j h => ?_ | refine goQ ?_ (fun h => ?_) fun h => ?_) | refine go3 ?_ ?_ | refine go4 ?_ ?_ | refine go5 ?_ | ((first | refine go6 ?_ ?_ | refine go7 ?_ ?_ | refine go8 ?_ ?_ | refine go9 ?_ ?_ | refine goA ?_ ?_) <;> intro h) | with_reducible (first | refine aai.mk _ rfl ?_ | refine goB ?_ fun hc => ?_ | refine goC ?_ fun hc => ?_ | refine goD ?_ fun hc => ?_ | refine goE ?_ fun hc => ?_ | refine goF ?_ ?_ | refine goG ?_ ?_ | refine goH ?_ fun b hb => ?_) | refine goI ?_ | refine goJ ?_ ?_ | refine goK ?_ ?_ ?_ | refine goL ?_ ?_ ?_ ?_ | refine goM ?_ ?_ ?_ ?_ ?_ | refine goN ?_ ?_ | refine goO ?_ ?_ | with_reducible refine goP ?_)
  all_goals try conv => whnf
  all_goals try (refine aac.mk ?_; try dsimp only)
  all_goals (try simp only [aa3, ah0] at *)
  · rfl
  · exact ⟨trivial, hc.1, hc.2.2⟩
  · have e : af0 s = (Cu.new s).tkE := by unfold af0; rw [if_pos (by assumption)]
    rw [hnil e (by assumption), e]
    refine bc4.mk _ (ay8 _ (hrg (am4 hc))) rfl ?_
    refine aa9.mk [.cell 0 0 4, .swap 0 6] ?_ <;> (repeat' first | trivial | rfl | exact eqS _ _ | apply And.intro | apply eqA | apply eqB | apply eqC | apply eqD | apply eqE | apply eqF | apply eqG | apply eqH | apply eqI)
  all_goals
    have h0 : ¬ (Cu.new s).tkE ≠ 0 := by assumption
    obtain ⟨l1, l2, l3, l4, _⟩ := hn (by omega)
    have hkk := (Cu.new s).next.2.k.toNat_lt
    have le := l1.1
    have he : (Cu.new s).e = s.length := rfl
    have fit := aev 32 (Cu.new s).next.2 [] (Cu.new s).next.1 l1
  · exact ⟨by omega, l1, by decide, ⟨[], rfl⟩, by show 0 + _ + 1 ≤ _; omega⟩
  · have e : af0 s = (gv 32 (Cu.new s).next.2 [] (Cu.new s).next.1).1 := by unfold af0; rw [if_neg h0, if_pos (by assumption)]
    rw [hnil e (by assumption), e]
    refine bc4.mk _ (ay8 _ (hrg (bdg 32 _ _ _ l1))) rfl ?_
    refine aa9.mk [.cell 0 0 4, .swap 0 6] ?_ <;> (repeat' first | trivial | rfl | exact eqS _ _ | apply And.intro | apply eqA | apply eqB | apply eqC | apply eqD | apply eqE | apply eqF | apply eqG | apply eqH | apply eqI)
  all_goals
    have h1 : ¬ (gv 32 (Cu.new s).next.2 [] (Cu.new s).next.1).1 ≠ 0 := by assumption
    have f := fit (by omega)
  · exact ⟨trivial, f.live.1, f.live.2.2⟩
  · have e : af0 s = 2 := by unfold af0; rw [if_neg h0, if_neg h1, if_pos (by assumption)]
    rw [hnil e (by decide), e]
    refine bc4.mk _ (ay8 2 (by decide)) rfl ?_
    refine aa9.mk [.cell 0 0 4, .swap 0 6] ?_ <;> (repeat' first | trivial | rfl | exact eqS _ _ | apply And.intro | apply eqA | apply eqB | apply eqC | apply eqD | apply eqE | apply eqF | apply eqG | apply eqH | apply eqI)
  · have e : af0 s = 0 := by unfold af0; rw [if_neg h0, if_neg h1, if_neg (by assumption)]
    have el : ajv s = (gv 32 (Cu.new s).next.2 [] (Cu.new s).next.1).2.1 := by unfold ajv; rw [if_pos e]
    rw [el, e]
    refine bc4.mk _ (bd1 _ ?_) rfl ?_
    · (repeat' first | trivial | rfl | refine And.intro ?_ ?_)
    refine aa9.mk [.swap 0 4] ?_ <;> (repeat' first | trivial | rfl | exact eqS _ _ | apply And.intro | apply eqA | apply eqB | apply eqC | apply eqD | apply eqE | apply eqF | apply eqG | apply eqH | apply eqI)
end Go.Proofs.Ytllncocibkgjkaa
set_option linter.unusedSimpArgs false
set_option linter.unusedVariables false
set_option maxHeartbeats 4000000
namespace Go.Proofs.Ytllncocibkgjkaa
open Go Go.VG
set_option maxRecDepth 100000
instance : DecidableEq Nd := fun a b =>
  if h : a.k = b.k ∧ a.key = b.key ∧ a.t = b.t ∧ a.sz = b.sz then isTrue (by cases a; cases b; simp_all) else isFalse (by rintro rfl; exact h ⟨rfl, rfl, rfl, rfl⟩)
def x1 : List UInt8 := [123, 34, 97, 34, 58, 32, 91, 49, 44, 32, 116, 114, 117, 101, 93, 125]
def x2 : List UInt8 := [123, 34, 97, 34, 58, 49, 44, 34, 97, 34, 58, 50, 125]
def x3 : List UInt8 := [91, 49, 44, 93]
def x4 : List UInt8 := [49, 32, 63]
def n1 : List Nd := [⟨123, [], [], 4⟩, ⟨91, [97], [], 3⟩, ⟨110, [], [49], 1⟩, ⟨116, [], [], 1⟩]
theorem bcv : aeh x1 = 0 ∧ ah4 x1 = n1 := by decide +kernel
theorem x2_val : aeh x2 = 8 := by decide +kernel
theorem x3_val : aeh x3 = 3 := by decide +kernel
theorem x4_val : aeh x4 = 2 := by decide +kernel
theorem a7s : ahh n1 = [123, 34, 97, 34, 58, 91, 49, 44, 116, 114, 117, 101, 93, 125] := by decide +kernel
theorem apw : amx n1 1 = [2, 3] ∧ amx n1 9 = [] := by decide +kernel
theorem be3 : a2b n1 := ⟨by decide +kernel, by decide⟩
def ajn (R : List UInt8 → Int × List Nd) : Sm := fun args σ => match args, σ with
  | [.str s], [] => some (s.length ≤ 10000000, .tuple [.buf 0, .int .i64 (R s).1], some [eNb (R s).2])
  | _, _ => none
theorem awn {R : List UInt8 → Int × List Nd} (hR : ∀ s, R s = (af0 s, ajv s)) : SOK 24 (ajn R) := by
  intro args sg pre x r he hp
  unfold ajn at he
  split at he <;> cases he
  rw [hR]
  exact a9v _ hp
theorem a3l {R : List UInt8 → Int × List Nd} (hR : ∀ s, R s = (af0 s, ajv s)) : OK 23 [] [] (.bool true) none := by
  refine aa0 (C := cxh [(24, ajn R), (28, aks), (30, am1)] [(5, [.frz 0])]) (abh ⟨awn hR, a40, a0x, trivial⟩) (fn := Try.f23) rfl rfl rfl rfl fun hw hs => ?_
  have a1 : R x1 = (0, n1) := by rw [hR, ← (ag9 (s := x1) (by decide)).1, ← (ag9 (s := x1) (by decide)).2, bcv.1, bcv.2]
  have a2 : (R x2).1 = 8 := by rw [hR]; show af0 x2 = 8; rw [← (ag9 (s := x2) (by decide)).1, x2_val]
  have a3 : (R x3).1 = 3 := by rw [hR]; show af0 x3 = 3; rw [← (ag9 (s := x3) (by decide)).1, x3_val]
  have a4 : (R x4).1 = 2 := by rw [hR]; show af0 x4 = 2; rw [← (ag9 (s := x4) (by decide)).1, x4_val]
  have ab : ∀ {p q : Prop}, p → ¬ p → q := fun h k => absurd h k
  repeat' ((conv => whnf); first | with_reducible (first | refine go1 (fun j q h => ?_) fun h => ?_ | refine go2 ⟨rfl, rfl⟩ (fun h => ?_) fun j h => ?_ | refine go2 ?_ (fun h => ?_) fun j h => ?_ | refine goQ ?_ (fun h => ?_) fun h => ?_) | refine go3 ?_ ?_ | refine go4 ?_ ?_ | refine go5 ?_ | ((first | refine go6 ?_ ?_ | refine go7 ?_ ?_ | refine go8 ?_ ?_ | refine go9 ?_ ?_ | refine goA ?_ ?_) <;> intro h) | with_reducible (first | refine aai.mk _ rfl ?_ | refine goB ?_ fun hc => ?_ | refine goC ?_ fun hc => ?_ | refine goD ?_ fun hc => ?_ | refine goE ?_ fun hc => ?_ | refine goF ?_ ?_ | refine goG ?_ ?_ | refine goH ?_ fun b hb => ?_) | refine goI ?_ | refine goJ ?_ ?_ | refine goK ?_ ?_ ?_ | refine goL ?_ ?_ ?_ ?_ | refine goM ?_ ?_ ?_ ?_ ?_ | refine goN ?_ ?_ | refine goO ?_ ?_ | with_reducible refine goP ?_)
  all_goals try conv => whnf
  all_goals try (refine aac.mk ?_; try dsimp only)
  all_goals first
    | decide
    | (show (0 : Nat) < (R x1).2.length; rw [a1]; decide)
    | (show (1 : Nat) < (R x1).2.length; rw [a1]; decide)
    | (show (2 : Nat) < (R x1).2.length; rw [a1]; decide)
    | exact ab (show (R x1).1 = 0 by rw [a1]) (by assumption)
    | exact ab (show (((R x1).2.map eNd).length : Int) = 4 by rw [a1]; rfl) (by assumption)
    | exact ab (show ((R x1).2.getD 0 default).sz = 4 by rw [a1]; rfl) (by assumption)
    | exact ab (show ((R x1).2.getD 1 default).key = [97] by rw [a1]; rfl) (by assumption)
    | exact ab (show ((R x1).2.getD 2 default).t = [49] by rw [a1]; rfl) (by assumption)
    | exact ab (show (R x2).1 = 8 from a2) (by assumption)
    | exact ab (show (R x3).1 = 3 from a3) (by assumption)
    | exact ab (show (R x4).1 = 2 from a4) (by assumption)
    | (show okN ((R x1).2.map eNd) ∧ a2b (upN ((R x1).2.map eNd)); rw [aaa, a1]; exact ⟨aco, be3⟩)
    | exact ab (show (112 :: ahh (upN ((R x1).2.map eNd))) = [112, 123, 34, 97, 34, 58, 91, 49, 44, 116, 114, 117, 101, 93, 125] by rw [aaa, a1, a7s]) (by assumption)
    | exact ab (show (((amx (upN ((R x1).2.map eNd)) 1).map nI).length : Int) = 2 by rw [aaa, a1, apw.1]; rfl) (by assumption)
    | exact ab (show (((amx (upN ((R x1).2.map eNd)) 9).map nI).length : Int) = 0 by rw [aaa, a1, apw.2]; rfl) (by assumption)
    | skip
  · show okN ((R x1).2.map eNd) ∧ a2b (upN ((R x1).2.map eNd)) ∧ _ + (ahh (upN ((R x1).2.map eNd))).length ≤ _
    rw [aaa, a1, a7s]
    exact ⟨aco, be3, by decide⟩
  refine ⟨112 :: ahh (upN ((R x1).2.map eNd)), rfl, ?_⟩
  repeat' ((conv => whnf); first | with_reducible (first | refine go1 (fun j q h => ?_) fun h => ?_ | refine go2 ⟨rfl, rfl⟩ (fun h => ?_) fun j h => ?_ | refine go2 ?_ (fun h => ?_) fun j h => ?_ | refine goQ ?_ (fun h => ?_) fun h => ?_) | refine go3 ?_ ?_ | refine go4 ?_ ?_ | refine go5 ?_ | ((first | refine go6 ?_ ?_ | refine go7 ?_ ?_ | refine go8 ?_ ?_ | refine go9 ?_ ?_ | refine goA ?_ ?_) <;> intro h) | with_reducible (first | refine aai.mk _ rfl ?_ | refine goB ?_ fun hc => ?_ | refine goC ?_ fun hc => ?_ | refine goD ?_ fun hc => ?_ | refine goE ?_ fun hc => ?_ | refine goF ?_ ?_ | refine goG ?_ ?_ | refine goH ?_ fun b hb => ?_) | refine goI ?_ | refine goJ ?_ ?_ | refine goK ?_ ?_ ?_ | refine goL ?_ ?_ ?_ ?_ | refine goM ?_ ?_ ?_ ?_ ?_ | refine goN ?_ ?_ | refine goO ?_ ?_ | with_reducible refine goP ?_)
  all_goals try conv => whnf
  all_goals try (refine aac.mk ?_; try dsimp only)
  all_goals first
    | decide
    | (show (0 : Nat) < (R x1).2.length; rw [a1]; decide)
    | (show (1 : Nat) < (R x1).2.length; rw [a1]; decide)
    | (show (2 : Nat) < (R x1).2.length; rw [a1]; decide)
    | exact ab (show (R x1).1 = 0 by rw [a1]) (by assumption)
    | exact ab (show (((R x1).2.map eNd).length : Int) = 4 by rw [a1]; rfl) (by assumption)
    | exact ab (show ((R x1).2.getD 0 default).sz = 4 by rw [a1]; rfl) (by assumption)
    | exact ab (show ((R x1).2.getD 1 default).key = [97] by rw [a1]; rfl) (by assumption)
    | exact ab (show ((R x1).2.getD 2 default).t = [49] by rw [a1]; rfl) (by assumption)
    | exact ab (show (R x2).1 = 8 from a2) (by assumption)
    | exact ab (show (R x3).1 = 3 from a3) (by assumption)
    | exact ab (show (R x4).1 = 2 from a4) (by assumption)
    | (show okN ((R x1).2.map eNd) ∧ a2b (upN ((R x1).2.map eNd)); rw [aaa, a1]; exact ⟨aco, be3⟩)
    | exact ab (show (112 :: ahh (upN ((R x1).2.map eNd))) = [112, 123, 34, 97, 34, 58, 91, 49, 44, 116, 114, 117, 101, 93, 125] by rw [aaa, a1, a7s]) (by assumption)
    | exact ab (show (((amx (upN ((R x1).2.map eNd)) 1).map nI).length : Int) = 2 by rw [aaa, a1, apw.1]; rfl) (by assumption)
    | exact ab (show (((amx (upN ((R x1).2.map eNd)) 9).map nI).length : Int) = 0 by rw [aaa, a1, apw.2]; rfl) (by assumption)
    | skip
  · have e : (((((amx (upN ((R x1).2.map eNd)) 9).map nI).length : Nat) : Int) == 0) = true := by rw [aaa, a1, apw.2]; rfl
    refine aa9.mk [] ?_ <;> (repeat' first | trivial | rfl | exact eqS _ _ | apply And.intro | apply eqA | apply eqB | apply eqC | apply eqD | apply eqE | apply eqF | apply eqG | apply eqH | apply eqI)
theorem az1  (hp : True) : OK 23 ([]) ([]) (.bool true) (none) := by
  exact a3l (R := fun s => (af0 s, ajv s)) fun _ => rfl
def anh : Sm := fun args σ => match args, σ with
  | [], [] => some (True, .bool true, none)
  | _, _ => none
theorem a76 : SOK 23 anh := by
  intro args sg pre x r he hp
  unfold anh at he
  split at he <;> cases he
  · exact az1 (hp := hp) ..
def akr (R : List UInt8 → Int × List Nd) : Sm := fun args σ => match args, σ with
  | [.str s], [] => some (s.length ≤ 10000000, .tuple [.buf 0, .int .i64 (R s).1], some [eNb (R s).2])
  | _, _ => none
theorem a3y {R : List UInt8 → Int × List Nd} (hR : ∀ s, R s = (af0 s, ajv s)) : SOK 25 (akr R) := by
  intro args sg pre x r he hp
  unfold akr at he
  split at he <;> cases he
  rw [hR]
  have h := ayz _ hp
  rw [(ag9 hp).1, (ag9 hp).2] at h
  exact h
theorem gv_len (d : Nat) {c : Cu} (hc : c.live) (t : Tk) (key : List UInt8) (h : (gv d t key c).1 = 0) : (gv d t key c).2.1.length ≤ c.s.length + 1 := by
  have f := aev d t key c hc h
  have h1 := f.len
  obtain ⟨h3, h4⟩ := f.live.1
  rw [f.e] at h3 h4
  rw [f.s] at h4
  omega
theorem a8x {s : List UInt8} (h : s.length ≤ 10000000) : (ajv s).length ≤ s.length + 1 := by
  unfold ajv
  split
  · rename_i h0
    have hc : (Cu.new s).live := ⟨⟨Nat.zero_le _, Nat.le_refl _⟩, rfl, h⟩
    unfold af0 at h0
    by_cases h1 : (Cu.new s).tkE ≠ 0
    · rw [if_pos h1] at h0; exact absurd h0 h1
    rw [if_neg h1] at h0
    obtain ⟨l1, l2, _⟩ := abi hc (by omega)
    by_cases h2 : (gv 32 (Cu.new s).next.2 [] (Cu.new s).next.1).1 ≠ 0
    · rw [if_pos h2] at h0; exact absurd h0 h2
    have := gv_len 32 l1 (Cu.new s).next.2 [] (by omega)
    rw [l2] at this
    exact this
  · exact Nat.zero_le _
theorem ayo {R : List UInt8 → Int × List Nd} (hR : ∀ s, R s = (af0 s, ajv s)) (s : List UInt8) : OK 6 [.str s] [] (.bool true) none := by
  refine aa0 (C := cx [(23, anh), (24, ajn R), (25, akr R), (26, ang), (27, aj2)]) (abh ⟨a76, awn hR, a3y hR, a75, aza, trivial⟩) (fn := Try.f6) rfl rfl rfl rfl fun hw hs => ?_
  have hl : s.length ≤ 300 → (R s).2.length ≤ 301 := fun h => by rw [hR]; have := a8x (s := s) (by omega); show (ajv s).length ≤ _; omega
  repeat' ((conv => whnf); first | with_reducible (first | refine go1 (fun j q h => ?_) fun h => ?_ | refine go2 ⟨rfl, rfl⟩ (fun h => ?_) fun j h => ?_ | refine go2 ?_ (fun h => ?_) fun j h => ?_ | refine goQ ?_ (fun h => ?_) fun h => ?_) | refine go3 ?_ ?_ | refine go4 ?_ ?_ | refine go5 ?_ | ((first | refine go6 ?_ ?_ | refine go7 ?_ ?_ | refine go8 ?_ ?_ | refine go9 ?_ ?_ | refine goA ?_ ?_) <;> intro h) | with_reducible (first | refine aai.mk _ rfl ?_ | refine goB ?_ fun hc => ?_ | refine goC ?_ fun hc => ?_ | refine goD ?_ fun hc => ?_ | refine goE ?_ fun hc => ?_ | refine goF ?_ ?_ | refine goG ?_ ?_ | refine goH ?_ fun b hb => ?_) | refine goI ?_ | refine goJ ?_ ?_ | refine goK ?_ ?_ ?_ | refine goL ?_ ?_ ?_ ?_ | refine goM ?_ ?_ ?_ ?_ ?_ | refine goN ?_ ?_ | refine goO ?_ ?_ | with_reducible refine goP ?_)
  all_goals try conv => whnf
  all_goals try (refine aac.mk ?_; try dsimp only)
  all_goals (try simp only [aaa] at *)
  all_goals (try simp only [aaa, aaf] at *)
  all_goals first
    | (exact aco)
    | (refine stay ?_)
    | (first | trivial | omega | (simp (discharger := omega) only [wR]; omega) | (simp only [lnS]; omega) | (simp (discharger := omega) [-List.getD_eq_getElem?_getD, wR] <;> omega)) | skip
  · refine aa9.mk [] ?_ <;> (repeat' first | trivial | rfl | exact eqS _ _ | apply And.intro | apply eqA | apply eqB | apply eqC | apply eqD | apply eqE | apply eqF | apply eqG | apply eqH | apply eqI)
  · exact ⟨aco, by have := hl (by omega); omega⟩
  · exact ⟨aco, aco, trivial, by have := hl (by omega); omega⟩
  · refine aa9.mk [] ?_ <;> (repeat' first | trivial | rfl | exact eqS _ _ | apply And.intro | apply eqA | apply eqB | apply eqC | apply eqD | apply eqE | apply eqF | apply eqG | apply eqH | apply eqI)
  · exact absurd trivial (by assumption)
theorem a38 (s : List UInt8) : OK 6 [.str s] [] (.bool true) none := ayo (R := fun s => (af0 s, ajv s)) (fun _ => rfl) s
end Go.Proofs.Ytllncocibkgjkaa
