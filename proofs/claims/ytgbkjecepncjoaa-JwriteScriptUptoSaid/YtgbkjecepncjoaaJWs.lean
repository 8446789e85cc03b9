/-
  A writer of JSON: what it holds goes along with the document's state, whatever it is told.
-/
import Derived.Test.YtgbkjecepncjoaaJWp
import Derived.Test.YtgbkjecepncjoaaJWr
set_option linter.unusedSimpArgs false
set_option linter.unusedVariables false
set_option maxHeartbeats 4000000
namespace Go.Proofs.Ytgbkjecepncjoaa
open Go Go.VG
set_option maxRecDepth 100000
def fr (c : UInt8) : Fr := ⟨c + 2, true, false⟩
inductive Sim : WS → DS → Prop
  | err (w : WS) (s : DS) : w.code = s.code → s.code ≠ 0 → Sim w s
  | nil (out : List UInt8) (wh af : Bool) : (out = [] → wh = false ∧ af = false) → (out ≠ [] → wh = true) → Sim ⟨out, [], wh, 0⟩ ⟨out, [], false, af, 0⟩
  | cons (out p : List UInt8) (c : UInt8) (k af : Bool) : out ≠ [] → (c = 123 ∨ c = 91) → (∀ x ∈ p, x = 123 ∨ x = 91) → (k = true → c = 123 ∧ af = false) →
      Sim ⟨out, p.map fr ++ [⟨c + 2, af || k, k⟩], true, 0⟩ ⟨out, p ++ [c], k, af, 0⟩
theorem sim_done {w : WS} {s : DS} (h : Sim w s) : w.done = s.done := by
  cases h with
  | err _ _ h1 h2 => unfold WS.done DS.done; rw [if_pos (by rw [h1]; exact h2), if_pos h2, h1]
  | nil out wh af h1 h2 =>
    unfold WS.done DS.done
    by_cases ho : out = []
    · simp [ho, (h1 ho).1]
    · simp [ho, h2 ho]
  | cons out p c k af h1 h2 h3 h4 =>
    unfold WS.done DS.done
    simp
theorem decI_ne (n : Int) : decI n ≠ [] := by
  unfold decI
  split
  · simp
  · have := dec_pos n.toNat
    intro h; rw [h] at this; simp at this
theorem value_ne (o : JOp) : o.value ≠ [] := by
  unfold JOp.value
  repeat' split
  all_goals (first | exact decI_ne _ | simp [quote])
theorem op_value {w : WS} {o : JOp} (h1 : o.kind ≠ 123) (h2 : o.kind ≠ 91) (h3 : o.kind ≠ 101) (h4 : o.kind ≠ 107) : w.op o = w.put o.value := by
  unfold WS.op JOp.value
  rw [if_neg h1, if_neg h2, if_neg h3, if_neg h4]
  by_cases k1 : o.kind = 115
  · rw [if_pos k1, if_pos k1]
  by_cases k2 : o.kind = 110
  · rw [if_neg k1, if_pos k2, if_neg k1, if_pos k2]
  by_cases k3 : o.kind = 116
  · rw [if_neg k1, if_neg k2, if_pos (.inl k3), if_neg k1, if_neg k2, if_pos k3]; simp [flagT, k3]
  by_cases k4 : o.kind = 102
  · rw [if_neg k1, if_neg k2, if_pos (.inr k4), if_neg k1, if_neg k2, if_neg k3, if_pos k4]; simp [flagT, k3]
  · rw [if_neg k1, if_neg k2, if_neg (by simp [k3, k4]), if_neg k1, if_neg k2, if_neg k3, if_neg k4]
theorem op_err {w : WS} (o : JOp) (h : w.code ≠ 0) : w.op o = w := by
  unfold WS.op WS.begin WS.fin WS.key WS.put WS.may
  simp [h]
theorem last_app (out p : List UInt8) (c : UInt8) (k af : Bool) : DS.last ⟨out, p ++ [c], k, af, 0⟩ = c := by
  simp [DS.last]
theorem top_app (out : List UInt8) (l : List Fr) (f : Fr) (wh : Bool) : WS.top ⟨out, l ++ [f], wh, 0⟩ = f := by
  simp [WS.top]
theorem setTop_app (out : List UInt8) (l : List Fr) (f g : Fr) (wh : Bool) : WS.setTop ⟨out, l ++ [f], wh, 0⟩ g = ⟨out, l ++ [g], wh, 0⟩ := by
  simp [WS.setTop]
theorem does_err {s : DS} (o : JOp) (h : s.code ≠ 0) : s.does o = s := by unfold DS.does; rw [if_pos h]
/-- a value where one may stand -/
theorem may_nil0 (out : List UInt8) : WS.may ⟨out, [], false, 0⟩ = (⟨out, [], true, 0⟩, true) := by simp [WS.may]
theorem may_nil1 (out : List UInt8) : WS.may ⟨out, [], true, 0⟩ = (⟨out, [], true, 12⟩, false) := by simp [WS.may, WS.fail]
theorem c125 {c : UInt8} (h : c = 123 ∨ c = 91) : (c + 2).toNat = 125 ↔ c = 123 := by
  rcases h with rfl | rfl <;> decide
theorem c123 {c : UInt8} : c.toNat = 123 ↔ c = 123 := ⟨fun h => UInt8.toNat_inj.1 h, fun h => by rw [h]; rfl⟩
theorem may_obj0 (out : List UInt8) (l : List Fr) (b : Bool) : WS.may ⟨out, l ++ [⟨123 + 2, b, false⟩], true, 0⟩ = (⟨out, l ++ [⟨123 + 2, b, false⟩], true, 12⟩, false) := by
  unfold WS.may WS.fail
  rw [top_app]
  simp
theorem may_obj1 (out : List UInt8) (l : List Fr) (b : Bool) : WS.may ⟨out, l ++ [⟨123 + 2, b, true⟩], true, 0⟩ = (⟨out, l ++ [⟨123 + 2, b, false⟩], true, 0⟩, true) := by
  unfold WS.may
  rw [top_app, setTop_app]
  simp
theorem may_arr (out : List UInt8) (l : List Fr) (b k : Bool) : WS.may ⟨out, l ++ [⟨91 + 2, b, k⟩], true, 0⟩ = (⟨if b = true then out ++ [44] else out, l ++ [⟨91 + 2, true, k⟩], true, 0⟩, true) := by
  unfold WS.may
  rw [top_app]
  simp [setTop_app]
theorem fin_app1 (out : List UInt8) (l : List Fr) (e : UInt8) (b : Bool) : WS.fin ⟨out, l ++ [⟨e, b, true⟩], true, 0⟩ = ⟨out, l ++ [⟨e, b, true⟩], true, 12⟩ := by
  unfold WS.fin WS.fail
  rw [top_app]
  simp
theorem fin_app0 (out : List UInt8) (l : List Fr) (e : UInt8) (b : Bool) : WS.fin ⟨out, l ++ [⟨e, b, false⟩], true, 0⟩ = ⟨out ++ [e], l, true, 0⟩ := by
  unfold WS.fin
  rw [top_app]
  simp
theorem key_obj1 (out s : List UInt8) (l : List Fr) (b : Bool) : WS.key ⟨out, l ++ [⟨123 + 2, b, true⟩], true, 0⟩ s = ⟨out, l ++ [⟨123 + 2, b, true⟩], true, 12⟩ := by
  unfold WS.key WS.fail
  rw [top_app]
  simp
theorem key_obj0 (out s : List UInt8) (l : List Fr) (b : Bool) : WS.key ⟨out, l ++ [⟨123 + 2, b, false⟩], true, 0⟩ s = ⟨(if b = true then out ++ [44] else out) ++ (quote s ++ [58]), l ++ [⟨123 + 2, true, true⟩], true, 0⟩ := by
  unfold WS.key
  rw [top_app]
  simp [setTop_app]
theorem key_arr (out s : List UInt8) (l : List Fr) (b k : Bool) : WS.key ⟨out, l ++ [⟨91 + 2, b, k⟩], true, 0⟩ s = ⟨out, l ++ [⟨91 + 2, b, k⟩], true, 12⟩ := by
  unfold WS.key WS.fail
  rw [top_app]
  simp
/-- what stands ahead of a value, and the states behind it -/
theorem sim_may {w : WS} {s : DS} (h : Sim w s) (hc : s.code = 0) :
    (s.stop ∧ w.may.2 = false ∧ Sim w.may.1 (s.bad 12)) ∨
    (¬ s.stop ∧ w.may.2 = true ∧ w.may.1.code = 0 ∧ ∀ v : List UInt8, v ≠ [] → (Sim { w.may.1 with out := w.may.1.out ++ v } ⟨s.out ++ s.comma ++ v, s.op, false, true, 0⟩ ∧
      ∀ c : UInt8, (c = 123 ∨ c = 91) → Sim { w.may.1 with out := w.may.1.out ++ v, l := w.may.1.l ++ [⟨c + 2, false, false⟩] } ⟨s.out ++ s.comma ++ v, s.op ++ [c], false, false, 0⟩)) := by
  cases h with
  | err _ _ h1 h2 => exact absurd hc h2
  | nil out wh af h1 h2 =>
    by_cases ho : out = []
    · obtain ⟨rfl, rfl⟩ := h1 ho
      subst ho
      refine .inr ⟨by simp [DS.stop, DS.last], ?_⟩
      rw [may_nil0]
      refine ⟨rfl, rfl, fun v hv => ⟨?_, fun c hcc => ?_⟩⟩
      · exact Sim.nil v true true (fun h => absurd h hv) (fun _ => rfl)
      · have := Sim.cons v [] c false false hv hcc (by simp) (by simp)
        exact this
    · obtain rfl := h2 ho
      refine .inl ⟨.inl ⟨rfl, ho⟩, ?_⟩
      rw [may_nil1]
      exact ⟨rfl, .err _ _ rfl (by simp [DS.bad])⟩
  | cons out p c k af h1 h2 h3 h4 =>
    have hp : ∀ x ∈ p ++ [c], x = 123 ∨ x = 91 := fun x hx => by
      rcases List.mem_append.1 hx with hx | hx
      · exact h3 x hx
      · simp at hx; subst hx; exact h2
    rcases h2 with rfl | rfl
    · cases k with
      | false =>
        refine .inl ⟨.inr ⟨by rw [last_app]; rfl, rfl⟩, ?_⟩
        rw [may_obj0]
        exact ⟨rfl, .err _ _ rfl (by simp [DS.bad])⟩
      | true =>
        obtain ⟨_, rfl⟩ := h4 rfl
        refine .inr ⟨by simp [DS.stop], ?_⟩
        rw [may_obj1]
        refine ⟨rfl, rfl, fun v hv => ⟨?_, fun d hd => ?_⟩⟩
        · have := Sim.cons (out ++ [] ++ v) p 123 false true (by simp [h1]) (.inl rfl) h3 (by simp)
          simpa [DS.comma] using this
        · have := Sim.cons (out ++ [] ++ v) (p ++ [123]) d false false (by simp [h1]) hd hp (by simp)
          simpa [DS.comma, fr] using this
    · have hk : k = false := by
        cases k with
        | false => rfl
        | true => have := (h4 rfl).1; cases this
      subst hk
      refine .inr ⟨by unfold DS.stop; rw [last_app]; simp, ?_⟩
      rw [may_arr]
      refine ⟨rfl, rfl, fun v hv => ⟨?_, fun d hd => ?_⟩⟩
      · have := Sim.cons ((if af = true then out ++ [44] else out) ++ v) p 91 false true (by simp [hv]) (.inr rfl) h3 (by simp)
        cases af <;> simpa [DS.comma] using this
      · have := Sim.cons ((if af = true then out ++ [44] else out) ++ v) (p ++ [91]) d false false (by simp [hv]) hd hp (by simp)
        cases af <;> simpa [DS.comma, fr] using this
theorem sim_op {w : WS} {s : DS} (h : Sim w s) (o : JOp) (hk : 0 ≤ o.kind ∧ o.kind ≤ 255) : Sim (w.op o) (s.does o) := by
  by_cases hc : s.code ≠ 0
  · have hw : w.code ≠ 0 := by
      cases h with
      | err _ _ h1 h2 => rw [h1]; exact h2
      | nil => exact absurd rfl hc
      | cons => exact absurd rfl hc
    rw [op_err o hw, does_err o hc]; exact h
  have hc : s.code = 0 := by simpa using hc
  have hwc : w.code = 0 := by
    cases h with
    | err _ _ h1 h2 => rw [h1]; exact hc
    | nil => rfl
    | cons => rfl
  have hlen : w.l.length = s.op.length := by
    cases h with
    | err _ _ h1 h2 => exact absurd hc h2
    | nil => rfl
    | cons => simp
  have hm := sim_may h hc
  unfold DS.does
  rw [if_neg (by simp [hc])]
  by_cases k1 : o.kind = 101
  · rw [if_pos k1]
    unfold WS.op
    rw [if_neg (by omega), if_neg (by omega), if_pos k1]
    cases h with
    | err _ _ h1 h2 => exact absurd hc h2
    | nil out wh af h1 h2 =>
      rw [if_pos rfl]
      exact .err _ _ (by simp [WS.fin, WS.fail, DS.bad]) (by simp [DS.bad])
    | cons out p c k af h1 h2 h3 h4 =>
      rw [if_neg (by simp), last_app]
      cases k with
      | true =>
        rw [if_pos rfl, fin_app1]
        exact .err _ _ rfl (by simp [DS.bad])
      | false =>
        rw [if_neg (by simp), fin_app0]
        rcases List.eq_nil_or_concat p with rfl | ⟨q, d, rfl⟩
        · have := Sim.nil (out ++ [c + 2]) true true (by simp) (by simp)
          simpa using this
        · have := Sim.cons (out ++ [c + 2]) q d false true (by simp) (h3 d (by simp)) (fun x hx => h3 x (by simp [hx])) (by simp)
          have e : List.take ((q.concat d ++ [c]).length - 1) (q.concat d ++ [c]) = q ++ [d] := by rw [show (q.concat d ++ [c]).length - 1 = (q.concat d).length by simp, List.take_left]; simp
          dsimp only
          rw [e]
          simpa [fr] using this
  by_cases k2 : o.kind = 107
  · rw [if_neg k1, if_pos k2]
    unfold WS.op
    rw [if_neg (by omega), if_neg (by omega), if_neg k1, if_pos k2]
    cases h with
    | err _ _ h1 h2 => exact absurd hc h2
    | nil out wh af h1 h2 =>
      rw [if_neg (by simp [DS.last])]
      exact .err _ _ (by simp [WS.key, WS.fail, DS.bad]) (by simp [DS.bad])
    | cons out p c k af h1 h2 h3 h4 =>
      rw [last_app]
      rcases h2 with rfl | rfl
      · rw [if_pos (by rfl)]
        cases k with
        | true =>
          rw [if_pos rfl, key_obj1]
          exact .err _ _ rfl (by simp [DS.bad])
        | false =>
          rw [if_neg (by simp), key_obj0]
          have := Sim.cons ((if af = true then out ++ [44] else out) ++ (quote o.text ++ [58])) p 123 true false (by simp) (.inl rfl) h3 (by simp)
          cases af <;> simpa [DS.comma] using this
      · rw [if_neg (by simp), key_arr]
        exact .err _ _ rfl (by simp [DS.bad])
  rw [if_neg k1, if_neg k2]
  have hb : ∀ a e : UInt8, (a = 123 ∨ a = 91) → e = a + 2 → Sim (w.begin a e) (if s.op.length ≥ 32 then s.bad 33 else if s.stop then s.bad 12 else ⟨s.out ++ s.comma ++ [a], s.op ++ [a], false, false, 0⟩) := by
    intro a e ha he
    unfold WS.begin
    rw [if_neg (by simp [hwc]), hlen]
    by_cases hd : s.op.length ≥ 32
    · rw [if_pos hd, if_pos hd]
      exact .err _ _ (by simp [WS.fail, hwc, DS.bad]) (by simp [DS.bad])
    · rw [if_neg hd, if_neg hd]
      rcases hm with ⟨m1, m2, m3⟩ | ⟨m1, m2, _, m3⟩
      · rw [if_pos m1, if_neg (by simp [m2])]; exact m3
      · rw [if_neg m1, if_pos m2]
        subst he
        exact (m3 [a] (by simp)).2 a ha
  by_cases k3 : o.kind = 123
  · rw [if_pos (.inl k3)]
    unfold WS.op
    rw [if_pos k3, k3]
    exact hb 123 125 (.inl rfl) rfl
  by_cases k4 : o.kind = 91
  · rw [if_pos (.inr k4)]
    unfold WS.op
    rw [if_neg k3, if_pos k4, k4]
    exact hb 91 93 (.inr rfl) rfl
  rw [if_neg (by simp [k3, k4]), op_value k3 k4 k1 k2]
  unfold WS.put
  rcases hm with ⟨m1, m2, m3⟩ | ⟨m1, m2, _, m3⟩
  · rw [if_pos m1, if_neg (by simp [m2])]; exact m3
  · rw [if_neg m1, if_pos m2]
    exact (m3 _ (value_ne o)).1
theorem sim_new : Sim .new ⟨[], [], false, false, 0⟩ := Sim.nil [] false false (fun _ => ⟨rfl, rfl⟩) (fun h => absurd rfl h)
end Go.Proofs.Ytgbkjecepncjoaa
