/-
  A part of the proof.
-/
import Derived.Test.YtllncocibkgjkaaB
import Derived.Test.YtllncocibkgjkaaVgZC
import Derived.TacticsInMore
import Derived.Test.YtllncocibkgjkaaTRs
import Derived.Test.YtllncocibkgjkaaTRa
import Derived.Test.YtllncocibkgjkaaTRf
import Derived.Test.YtllncocibkgjkaaTRb
import Derived.Test.YtllncocibkgjkaaTRv
set_option linter.unusedSimpArgs false
set_option linter.unusedVariables false
set_option maxHeartbeats 4000000
namespace Go.Proofs.Ytllncocibkgjkaa
open Go Go.VG
set_option maxRecDepth 100000
theorem as0' (w : World) : (Instr.typeAssert .nilIface 20 100 true).run Try.prog w = .ok (.tuple #[.int .i64 0, .bool false]) w := by rfl
theorem as1' (n : Int) (w : World) : (Instr.typeAssert (.iface 100 (.int .i64 n)) 20 100 true).run Try.prog w = .ok (.tuple #[.int .i64 n, .bool true]) w := by rfl
theorem as0 {ev : Operand → Value} {o : Oper} {x : Operand} (ho : o.op = .typeAssert x 20 100 true) (hx : ev x = .nilIface) (w : World) : (execOp ev o).run Try.prog w = .ok (.value (.tuple #[.int .i64 0, .bool false])) w := by
 simp only [execOp, ho, hx, Sem.run_bind, as0', Result.andThen_ok, Sem.run_pure]
theorem as1 {ev : Operand → Value} {o : Oper} {x : Operand} {n : Int} (ho : o.op = .typeAssert x 20 100 true) (hx : ev x = .iface 100 (.int .i64 n)) (w : World) : (execOp ev o).run Try.prog w = .ok (.value (.tuple #[.int .i64 n, .bool true])) w := by
 simp only [execOp, ho, hx, Sem.run_bind, as1', Result.andThen_ok, Sem.run_pure]
theorem ou {ev : Operand → Value} {o : Oper} {x : Operand} {v : Value} {P : Program} (ho : o.op = .move x ∨ o.op = .assign x) (hx : ev x = v) (w : World) : (execOp ev o).run P w = .ok (.value v) w := by
 rcases ho with ho | ho <;> simp only [execOp, ho, hx, Sem.run_pure]
theorem sx {ev : Operand → Value} {o : Oper} {x : Operand} {i : Nat} {vs : Array Value} {v : Value} {P : Program} (ho : o.op = .extract x i) (hx : ev x = .tuple vs) (hv : vs[i]? = some v) (w : World) : (execOp ev o).run P w = .ok (.value v) w := by
 simp [execOp, ho, hx, Instr.extract, hv]
section
variable {P : Program} {ops : Array Oper} {Q : Exit → Act → List Frame → World → Prop} {i : Nat} {rest : List Nat} {a : Act} {cs : List Frame} {w : World} {o : Oper}
theorem iT {v : Value} (ho : ops[i]? = some o) (hg : o.guard = none) (hx : (execOp a.eval o).run P w = .ok (.value v) w) (h : wpOpsSIn Fence.wide 0 P ops Q rest (a.put o.dst v) cs w) : wpOpsSIn Fence.wide 0 P ops Q (i :: rest) a cs w := by
 unfold wpOpsSIn
 rw [ho]
 refine ⟨fun _ _ => trivial, ?_⟩
 rw [if_pos (by simp [Region.wanted, hg]), hx]
 exact h
theorem JU {v : Value} {cs' : List Frame} (ho : ops[i]? = some o) (hg : o.guard = none) (hx : (execOp a.eval o).run P w = .ok .recover w) (hc : recoverD cs = some (v, cs')) (h : wpOpsSIn Fence.wide 0 P ops Q rest (a.put o.dst v) cs' w) : wpOpsSIn Fence.wide 0 P ops Q (i :: rest) a cs w := by
 unfold wpOpsSIn
 rw [ho]
 refine ⟨fun _ _ => trivial, ?_⟩
 rw [if_pos (by simp [Region.wanted, hg]), hx]
 show (match recoverD cs with | some (v, cs') => _ | none => _)
 rw [hc]
 exact h
theorem JT (ho : ops[i]? = some o) (hg : o.guard = none) (hx : (execOp a.eval o).run P w = .ok .recover w) (hc : recoverD cs = none) (h : wpOpsSIn Fence.wide 0 P ops Q rest (a.put o.dst .nilIface) cs w) : wpOpsSIn Fence.wide 0 P ops Q (i :: rest) a cs w := by
 unfold wpOpsSIn
 rw [ho]
 refine ⟨fun _ _ => trivial, ?_⟩
 rw [if_pos (by simp [Region.wanted, hg]), hx]
 show (match recoverD cs with | some (v, cs') => _ | none => _)
 rw [hc]
 exact h
end
theorem Ab (v1 v2 : Value) : [v1, v2].toArray ++ Array.replicate (11 - [v1, v2].toArray.size) undef = #[v1, v2, undef, undef, undef, undef, undef, undef, undef, undef, undef] := by rfl
theorem Ca {v1 v2 y4 y5 y6 y7 y8 : Value} {n : Int} {b : Bool} (hn : -9223372036854775808 ≤ n ∧ n ≤ 9223372036854775807) : ∀ (st : St) (g : ah) (n' : Nat), au st g [.ptr 0 0, .ptr 1 0] n' [v1, v2] → ∀ t, VR st g (lk [(3, .bool b), (2, .int .i64 n), (1, .ptr 1 0), (0, .ptr 0 0)] t) n' ((#[v1, v2, .int .i64 n, .bool b, y4, y5, y6, y7, y8, undef, undef] : Array Value).getD t undef) := by
 intro st g n' hv t
 obtain ⟨x1, q1, q2⟩ := j5 hv (i := 0) rfl
 obtain ⟨x2, q3, q4⟩ := j5 hv (i := 1) rfl
 cases q1; cases q3
 match t with
 | 0 => exact q2
 | 1 => exact q4
 | 2 => exact ⟨rfl, hn⟩
 | 3 => rfl
 | t + 4 => trivial
theorem CP (σ : List O) (hσ : eu σ σ σ.length) : qo Try.prog fi 55 [.ptr 0 0, .ptr 1 0] σ none σ := by
 refine xT (C := cx []) (ay trivial) (cfn := Try.f55) (tm := [(3, .bool false), (2, .int .i64 0), (1, .ptr 1 0), (0, .ptr 0 0)]) rfl rfl rfl rfl (fun vs w c₀ cs Q hl hu h => ?_) ?_
 . obtain ⟨v1, v2, rfl⟩ : ∃ v1 v2, vs = [v1, v2] := by
     match vs, hl with
     | [v1, v2], _ => exact ⟨v1, v2, rfl⟩
   rw [show Try.f55.ntmps = 11 from rfl] at h ⊢
   rw [Ab]
   apply wpSIn_region
   show wpOpsSIn Fence.wide 0 Try.prog _ _ _ _ _ _
   refine JT rfl rfl rfl (by simp [recoverD, hu, lv]) ?_
   refine iT (v := .tuple #[.int .i64 0, .bool false]) rfl rfl (as0 rfl rfl w) ?_
   refine iT (v := .tuple #[.int .i64 0, .bool false]) rfl rfl (ou (x := .tmp 6) (v := .tuple #[.int .i64 0, .bool false]) (.inl rfl) rfl w) ?_
   refine iT (v := .int .i64 0) rfl rfl (sx (x := .tmp 4) (i := 0) (vs := #[.int .i64 0, .bool false]) (v := .int .i64 0) rfl rfl rfl w) ?_
   refine iT (v := .bool false) rfl rfl (sx (x := .tmp 4) (i := 1) (vs := #[.int .i64 0, .bool false]) (v := .bool false) rfl rfl rfl w) ?_
   refine iT (v := .int .i64 0) rfl rfl (ou (x := .tmp 7) (v := .int .i64 0) (.inr rfl) rfl w) ?_
   refine iT (v := .bool false) rfl rfl (ou (x := .tmp 8) (v := .bool false) (.inr rfl) rfl w) ?_
   have hc0 : c₀ = { c₀ with mode := .returning } := by cases c₀; simp_all [lv]
   rw [hc0]
   refine h _ .returning rfl rfl rfl ?_
   exact Ca (by decide)
 . repeat' ((conv => whnf); apply al)
   all_goals try conv => whnf
   all_goals try (refine ae.mk ?_; try dsimp only)
   . rfl
   . exact hσ
   . exact Nat.ble_eq_true_of_le (Nat.le_refl _)
theorem tv (n : Int) (hm : -9223372036854775808 ≤ n ∧ n ≤ 9223372036854775807) : qo Try.prog fi 55 [.ptr 0 0, .ptr 1 0] [.cells [.list true 0 []], .cells [.int .i64 0], .dead, .dead, .dead, .buf 1 0 []]
   (some (.iface 100 (.int .i64 n))) [.cells [.list true 0 []], .cells [.int .i64 n], .dead, .dead, .dead, .buf 1 0 []] := by
 refine xT (C := cx []) (ay trivial) (cfn := Try.f55) (tm := [(3, .bool true), (2, .int .i64 n), (1, .ptr 1 0), (0, .ptr 0 0)]) rfl rfl rfl rfl (fun vs w c₀ cs Q hl hu h => ?_) ?_
 . obtain ⟨v1, v2, rfl⟩ : ∃ v1 v2, vs = [v1, v2] := by
     match vs, hl with
     | [v1, v2], _ => exact ⟨v1, v2, rfl⟩
   rw [show Try.f55.ntmps = 11 from rfl] at h ⊢
   rw [Ab]
   apply wpSIn_region
   show wpOpsSIn Fence.wide 0 Try.prog _ _ _ _ _ _
   refine JU (v := .iface 100 (.int .i64 n)) (cs' := { c₀ with mode := .panicking [{ v := .iface 100 (.int .i64 n), recovered := true }] } :: cs) rfl rfl rfl (by simp [recoverD, hu, lv]) ?_
   refine iT (v := .tuple #[.int .i64 n, .bool true]) rfl rfl (as1 rfl rfl w) ?_
   refine iT (v := .tuple #[.int .i64 n, .bool true]) rfl rfl (ou (x := .tmp 6) (v := .tuple #[.int .i64 n, .bool true]) (.inl rfl) rfl w) ?_
   refine iT (v := .int .i64 n) rfl rfl (sx (x := .tmp 4) (i := 0) (vs := #[.int .i64 n, .bool true]) (v := .int .i64 n) rfl rfl rfl w) ?_
   refine iT (v := .bool true) rfl rfl (sx (x := .tmp 4) (i := 1) (vs := #[.int .i64 n, .bool true]) (v := .bool true) rfl rfl rfl w) ?_
   refine iT (v := .int .i64 n) rfl rfl (ou (x := .tmp 7) (v := .int .i64 n) (.inr rfl) rfl w) ?_
   refine iT (v := .bool true) rfl rfl (ou (x := .tmp 8) (v := .bool true) (.inr rfl) rfl w) ?_
   refine h _ (.panicking [{ v := .iface 100 (.int .i64 n), recovered := true }]) rfl rfl rfl ?_
   exact Ca hm
 . repeat' ((conv => whnf); apply al)
   all_goals try conv => whnf
   all_goals try (refine ae.mk ?_; try dsimp only)
   . rfl
   . (repeat' first | trivial | rfl | refine And.intro ?_ ?_)
   . rfl
end Go.Proofs.Ytllncocibkgjkaa
namespace Go.Proofs.Ytllncocibkgjkaa
open Go Go.VG
set_option maxRecDepth 100000
theorem sf (k : UInt8) : bB k = true ↔ (k.toNat = 123 ∨ k.toNat = 125 ∨ k.toNat = 91 ∨ k.toNat = 93 ∨ k.toNat = 58 ∨ k.toNat = 44) := decide_eq_true_iff
theorem Ff (s : Sx) (key : List UInt8) (d : Int) (hp : d = 32 ∧ s.1.length ≤ 10000000) : OK 60 [fP s, .str key, .int .i64 d] [] (.tuple [.buf 0, fP (aq 0 key s).2.2, .int .i64 (aq 0 key s).1]) (some [cD (aq 0 key s).2.1]) := by
 refine aC (C := cxl [(84, ot), (40, oq)] [64]) (u9 ⟨rn, rm, trivial⟩) (fn := Try.f60) rfl rfl rfl rfl fun hw hs => ?_
 have hml : (s.1.map vT).length = s.1.length := List.length_map _
 have g0 : aw s ≠ 0 → aq 0 key s = (aw s, [], s) := fun h => by rw [aq, if_pos h]
 have g1 : aw s = 0 → (af s).k.toNat = 123 ∨ (af s).k.toNat = 91 → aq 0 key s = (33, [], s) := fun h h2 => by rw [aq, if_neg (by omega), if_pos h2]
 have g2 : aw s = 0 → ¬ ((af s).k.toNat = 123 ∨ (af s).k.toNat = 91) → bB (af s).k = true → aq 0 key s = (3, [], s) := fun h h2 h3 => by rw [aq, if_neg (by omega), if_neg h2, if_pos h3]
 have g3 : aw s = 0 → ¬ ((af s).k.toNat = 123 ∨ (af s).k.toNat = 91) → ¬ bB (af s).k = true → aq 0 key s = (0, [⟨(af s).k, key, (af s).t, 1⟩], aa s) := fun h h2 h3 => by rw [aq, if_neg (by omega), if_neg h2, if_neg h3]
 have hk := (af s).k.toNat_lt
 repeat' ((conv => whnf); first | apply al | apply aZ | (apply ao <;> intro h))
 all_goals try conv => whnf
 all_goals try (refine ae.mk ?_; try dsimp only)
 all_goals (try simp only [gG, bT, iW, fq, bH] at *)
 all_goals (try (exfalso; omega))
 all_goals (try rw [if_pos (show aw s = 0 by assumption)] at *)
 all_goals first | refine stay ?_ | (exact ⟨gn, trivial⟩) | (simp (discharger := omega) [-List.getD_eq_getElem?_getD, wR] <;> omega) | skip
 . rw [g1 (by assumption) (by omega)]
   (refine a8.mk [.tm 6 4, .swap 0 4] ?_ <;> (repeat' first | trivial | rfl | refine And.intro ?_ ?_))
 . rw [g1 (by assumption) (by omega)]
   (refine a8.mk [.tm 6 4, .swap 0 4] ?_ <;> (repeat' first | trivial | rfl | refine And.intro ?_ ?_))
 . rw [g2 (by assumption) (by omega) ((sf _).2 (by assumption))]
   (refine a8.mk [.tm 6 4, .swap 0 4] ?_ <;> (repeat' first | trivial | rfl | refine And.intro ?_ ?_))
 . rw [g3 (by assumption) (by omega) (fun q => absurd ((sf _).1 q) (by assumption))]
   refine a8.mk [.swap 0 4] ?_ <;> (repeat' first | trivial)
 . rw [g0 (by assumption)]
   (refine a8.mk [.tm 6 4, .swap 0 4] ?_ <;> (repeat' first | trivial | rfl | refine And.intro ?_ ?_))
theorem Fg (k : Nat) (hv : aD 85 (su k)) (s : Sx) (key : List UInt8) (d : Int) (hp : d + k + 1 = 32 ∧ s.1.length ≤ 10000000) : OK 60 [fP s, .str key, .int .i64 d] [] (.tuple [.buf 0, fP (aq (k + 1) key s).2.2, .int .i64 (aq (k + 1) key s).1]) (some [cD (aq (k + 1) key s).2.1]) := by
 refine aC (C := cxl [(84, ot), (40, oq), (85, su k), (86, wC)] [64]) (u9 ⟨rn, rm, hv, H4, trivial⟩) (fn := Try.f60) rfl rfl rfl rfl fun hw hs => ?_
 have hml : (s.1.map vT).length = s.1.length := List.length_map _
 have hd0 : -9223372036854775808 ≤ d := hw.2.2.1.1
 have hdw : IntKind.i64.wrap (d + 1) = d + 1 := by rw [gJ]; omega
 have g0 : aw s ≠ 0 → aq (k + 1) key s = (aw s, [], s) := fun h => by rw [aq, if_pos h]
 have g1 : aw s = 0 → (af s).k.toNat = 123 ∨ (af s).k.toNat = 91 → aq (k + 1) key s = ((aY (aq k) ((af s).k.toNat + 2) (aa s)).1, ⟨(af s).k, key, [], (aY (aq k) ((af s).k.toNat + 2) (aa s)).2.1.length + 1⟩ :: (aY (aq k) ((af s).k.toNat + 2) (aa s)).2.1, (aY (aq k) ((af s).k.toNat + 2) (aa s)).2.2) := fun h h2 => by rw [aq, if_neg (by omega), if_pos h2]
 have g2 : aw s = 0 → ¬ ((af s).k.toNat = 123 ∨ (af s).k.toNat = 91) → bB (af s).k = true → aq (k + 1) key s = (3, [], s) := fun h h2 h3 => by rw [aq, if_neg (by omega), if_neg h2, if_pos h3]
 have g3 : aw s = 0 → ¬ ((af s).k.toNat = 123 ∨ (af s).k.toNat = 91) → ¬ bB (af s).k = true → aq (k + 1) key s = (0, [⟨(af s).k, key, (af s).t, 1⟩], aa s) := fun h h2 h3 => by rw [aq, if_neg (by omega), if_neg h2, if_neg h3]
 have hk := (af s).k.toNat_lt
 have hr := d9 s
 have hw2 : (af s).k.toNat = 123 ∨ (af s).k.toNat = 91 → (IntKind.u8.wrap (((af s).k.toNat : Int) + 2)).toNat = (af s).k.toNat + 2 := fun h => by rw [jU]; omega
 have hw3 : (af s).k.toNat = 123 ∨ (af s).k.toNat = 91 → IntKind.u8.wrap (((af s).k.toNat : Int) + 2) = 93 ∨ IntKind.u8.wrap (((af s).k.toNat : Int) + 2) = 125 := fun h => by rw [jU]; omega
 have hm2 : ∀ L : List Nd, (L.map aH).length = L.length := fun L => List.length_map _
 have hm3 : ((aa s).1.map vT).length = (aa s).1.length := List.length_map _
 have hln : (aY (aq k) ((af s).k.toNat + 2) (aa s)).2.1.length ≤ 10000000 := by
  by_cases h : (aY (aq k) ((af s).k.toNat + 2) (aa s)).1 = 0
  . have := y9 (nb k) h; omega
  . rw [CV h]; exact Nat.zero_le _
 repeat' ((conv => whnf); first | apply al | apply aZ | (apply ao <;> intro h))
 all_goals try conv => whnf
 all_goals try (refine ae.mk ?_; try dsimp only)
 all_goals (try simp only [gG, bT, iW, fq, bH] at *)
 all_goals (try (exfalso; omega))
 all_goals (try rw [if_pos (show aw s = 0 by assumption)] at *)
 all_goals first | refine stay ?_ | (exact ⟨gn, trivial⟩) | (simp (discharger := omega) [-List.getD_eq_getElem?_getD, wR] <;> omega) | skip
 all_goals (try rw [hw2 (by omega)] at *)
 all_goals (try rw [hdw] at *)
 all_goals (try rw [hm3] at *)
 all_goals (try simp only [hm2] at *)
 . exact ⟨gn, hw3 (by omega), by omega, by omega⟩
 . exact ⟨dH, by omega, by omega⟩
 . rw [g1 (by assumption) (by omega)]
   refine a8.mk [.swap 0 6] ?_ <;> (repeat' first | trivial)
 . exact ⟨gn, hw3 (by omega), by omega, by omega⟩
 . exact ⟨dH, by omega, by omega⟩
 . rw [g1 (by assumption) (by omega)]
   refine a8.mk [.swap 0 6] ?_ <;> (repeat' first | trivial)
 . rw [g2 (by assumption) (by omega) ((sf _).2 (by assumption))]
   (refine a8.mk [.tm 6 4, .swap 0 4] ?_ <;> (repeat' first | trivial | rfl | refine And.intro ?_ ?_))
 . rw [g3 (by assumption) (by omega) (fun q => absurd ((sf _).1 q) (by assumption))]
   refine a8.mk [.swap 0 4] ?_ <;> (repeat' first | trivial)
 . rw [g0 (by assumption)]
   (refine a8.mk [.tm 6 4, .swap 0 4] ?_ <;> (repeat' first | trivial | rfl | refine And.intro ?_ ?_))
theorem zQ : ∀ k, aD 60 (jO k)
 | 0 => by
   intro args sg pre x r he hp
   unfold jO at he
   split at he <;> cases he
   rename_i l e key d
   obtain ⟨h1, h2, h3⟩ := hp
   have el : (cN l).length = l.length := by have h := congrArg List.length h1; rw [List.length_map] at h; exact h.symm
   rw [sJ h1]
   exact Ff (cN l, e) key d ⟨by omega, by show (cN l).length ≤ _; omega⟩
 | k + 1 => by
   have hv := GY k (zQ k)
   intro args sg pre x r he hp
   unfold jO at he
   split at he <;> cases he
   rename_i l e key d
   obtain ⟨h1, h2, h3⟩ := hp
   have el : (cN l).length = l.length := by have h := congrArg List.length h1; rw [List.length_map] at h; exact h.symm
   rw [sJ h1]
   exact Fg k hv (cN l, e) key d ⟨by omega, by show (cN l).length ≤ _; omega⟩
theorem Hi : aD 60 (jO 32) := zQ 32
end Go.Proofs.Ytllncocibkgjkaa
namespace Go.Proofs.Ytllncocibkgjkaa
open Go Go.VG
set_option maxRecDepth 100000
def Cd (n : Int) : Prop := 0 ≤ n ∧ n ≤ 100
theorem cC {n : Int} (h : decide (0 ≤ n ∧ n ≤ 100) = true) : Cd n := by unfold Cd; exact of_decide_eq_true h
theorem tA (t : List UInt8) : ∀ (n i : Nat) (a : Int), Cd (bd t n i a).2
 | 0, _, _ => by rw [bd]; exact cC rfl
 | n + 1, i, a => by
   rw [bd]
   repeat' split
   all_goals first
    | exact cC rfl
    | exact tA t n _ _
theorem Ii (t : List UInt8) (i : Nat) (n : Int) : Cd (cI t i n).2.2 := by
 unfold cI
 repeat' split
 all_goals first
  | exact cC rfl
  | exact tA _ _ _ _
theorem D6 (t : List UInt8) (i : Nat) : Cd (cz t i).2.2 := by
 unfold cz
 repeat' split
 all_goals first
  | exact cC rfl
  | exact tA _ _ _ _
  | exact Ii _ _ _
theorem Il (t : List UInt8) (i : Nat) : Cd (bm t i).2.2 := by
 unfold bm
 repeat' split
 all_goals first
  | exact cC rfl
  | exact D6 _ _
theorem Bd (t : List UInt8) : ∀ (n i : Nat) (o : List UInt8), Cd (bR t n i o).1
 | 0, _, _ => by rw [bR]; exact cC rfl
 | n + 1, i, o => by
   rw [bR]
   repeat' split
   all_goals first
    | exact cC rfl
    | exact Il _ _
    | exact Bd t n _ _
theorem nx {c : Cu} {k : Int} (h0 : c.c = 0) (h : Cd k) : Cd (c.fail k).c := by
 unfold Cu.fail
 rw [if_pos h0]; exact h
theorem IP {c : Cu} (h0 : c.c = 0) : Cd c.dr.1.c := by
 unfold Cu.dr
 repeat' split
 . exact absurd h0 (by assumption)
 . exact nx h0 (cC rfl)
 . exact nx h0 (cC rfl)
 . show Cd c.c; rw [h0]; exact cC rfl
 . exact nx h0 (Bd _ _ _ _)
theorem uK (t : List UInt8) (i : Nat) : Cd (cv t i).2 := by
 unfold cv
 repeat' split
 all_goals exact cC rfl
theorem HW (t : List UInt8) (i : Nat) : Cd (cw t i).2 := by
 have hw : Cd (bp t i).2 := by
  unfold bp; split
  . exact cC rfl
  . exact uK _ _
 have hb : ∀ x, Cd x.2 → Cd (cn t x).2 := fun x hx => by
  unfold cn; split
  . exact uK _ _
  . exact hx
 have hp : ∀ x, Cd x.2 → Cd (gY t x).2 := fun x hx => by
  unfold gY; split
  . exact uK _ _
  . exact hx
 exact hp _ (hb _ hw)
theorem HV {c : Cu} (h0 : c.c = 0) : Cd c.fj.1.c := by
 unfold Cu.fj
 repeat' split
 . exact absurd h0 (by assumption)
 . exact nx h0 (HW _ _)
 . show Cd c.c; rw [h0]; exact cC rfl
theorem Cf (c : Cu) : ∀ (s : List UInt8) (i : Nat), Cd (cP c s i)
 | [], _ => cC rfl
 | b :: s, i => by
   unfold cP
   repeat' split
   all_goals first
    | exact cC rfl
    | exact Cf c s _
theorem Cc {c : Cu} (h0 : c.c = 0) (k : UInt8) : Cd (c.cr k).1.c := by
 unfold Cu.cr
 split
 . exact nx h0 (Cf _ _ _)
 . show Cd c.c; rw [h0]; exact cC rfl
theorem Kb {d : Cu} (h0 : d.c = 0) : Cd d.ew.1.c := by
 have z : Cd d.c := by rw [h0]; exact cC rfl
 unfold Cu.ew
 repeat' split
 . exact z
 . exact z
 . exact IP h0
 . exact HV h0
 . exact Cc h0 _
 . exact Cc h0 _
 . exact nx h0 (cC rfl)
theorem HL {c : Cu} (h0 : c.c = 0) : Cd c.aJ.1.c := by
 unfold Cu.aJ
 rw [if_neg (by omega)]
 exact Kb (d := { c with p := cm bO c.a9 c.p }) h0
theorem ky {c : Cu} (h : c.live) : Cd c.av := by
 have hs := mC h.1
 unfold Cu.av
 repeat' split
 . rw [hs.2.1]; exact HL h.2.1
 . exact cC rfl
 . exact cC rfl
def CdV (v : VF) : Prop := ∀ t key c, c.live → Cd (v t key c).1
theorem zb {v : VF} (hf : hZ v) (hv : CdV v) : ∀ (n : Nat) (t : Tk) (c : Cu) (acc : List Nd), c.live → Cd (dP v n t c acc).1
 | 0, _, _, _, _ => by rw [dP]; exact cC rfl
 | n + 1, t, c, acc, hc => by
   rw [dP]
   by_cases h1 : (v t [] c).1 ≠ 0
   . rw [if_pos h1]; exact hv _ _ _ hc
   rw [if_neg h1]
   have f1 := hf t [] c hc (by omega)
   by_cases h2 : (v t [] c).2.2.av ≠ 0
   . rw [if_pos h2]; exact ky f1.live
   rw [if_neg h2]
   obtain ⟨l1, _⟩ := aX f1.live (by omega)
   by_cases h3 : (v t [] c).2.2.next.2.k.toNat = 93
   . rw [if_pos h3]; exact cC rfl
   rw [if_neg h3]
   by_cases h4 : (v t [] c).2.2.next.2.k.toNat ≠ 44
   . rw [if_pos h4]; exact cC rfl
   rw [if_neg h4]
   by_cases h5 : (v t [] c).2.2.next.1.av ≠ 0
   . rw [if_pos h5]; exact ky l1
   rw [if_neg h5]
   obtain ⟨m1, _⟩ := aX l1 (by omega)
   exact zb hf hv n _ _ _ m1
theorem FU {v : VF} (hf : hZ v) (hv : CdV v) {c : Cu} (hc : c.live) : Cd (b7 v c).1 := by
 unfold b7
 by_cases h1 : c.av ≠ 0
 . rw [if_pos h1]; exact ky hc
 rw [if_neg h1]
 obtain ⟨l1, _⟩ := aX hc (by omega)
 split
 . exact cC rfl
 . exact zb hf hv _ _ _ _ l1
theorem zj {v : VF} (hf : hZ v) (hv : CdV v) : ∀ (n : Nat) (t : Tk) (c : Cu) (ks : List (List UInt8)) (acc : List Nd), c.live → Cd (ep v n t c ks acc).1
 | 0, _, _, _, _, _ => by rw [ep]; exact cC rfl
 | n + 1, t, c, ks, acc, hc => by
   rw [ep]
   by_cases h0 : d8 t c ks ≠ 0
   . rw [if_pos h0]
     show Cd (d8 t c ks)
     unfold d8
     repeat' split
     all_goals first
      | exact cC rfl
      | exact ky hc
      | exact ky (aX hc (by omega)).1
   rw [if_neg h0]
   obtain ⟨_, _, q1, _, q2⟩ := rL (t := t) (ks := ks) hc (by omega)
   obtain ⟨a1, _⟩ := aX hc q1
   obtain ⟨b1, _⟩ := aX a1 q2
   by_cases h1 : (bh v t c).1 ≠ 0
   . rw [if_pos h1]; exact hv _ _ _ b1
   rw [if_neg h1]
   have f1 : Fit c.next.1.next.1 (bh v t c) := hf _ _ _ b1 (show (bh v t c).1 = 0 by omega)
   by_cases h2 : (bh v t c).2.2.av ≠ 0
   . rw [if_pos h2]; exact ky f1.live
   rw [if_neg h2]
   obtain ⟨l1, _⟩ := aX f1.live (by omega)
   by_cases h3 : (bh v t c).2.2.next.2.k.toNat = 125
   . rw [if_pos h3]; exact cC rfl
   rw [if_neg h3]
   by_cases h4 : (bh v t c).2.2.next.2.k.toNat ≠ 44
   . rw [if_pos h4]; exact cC rfl
   rw [if_neg h4]
   by_cases h5 : (bh v t c).2.2.next.1.av ≠ 0
   . rw [if_pos h5]; exact ky l1
   rw [if_neg h5]
   obtain ⟨m1, _⟩ := aX l1 (by omega)
   exact zj hf hv n _ _ _ _ m1
theorem FX {v : VF} (hf : hZ v) (hv : CdV v) {c : Cu} (hc : c.live) : Cd (b8 v c).1 := by
 unfold b8
 by_cases h1 : c.av ≠ 0
 . rw [if_pos h1]; exact ky hc
 rw [if_neg h1]
 obtain ⟨l1, _⟩ := aX hc (by omega)
 split
 . exact cC rfl
 . exact zj hf hv _ _ _ _ _ l1
theorem ub : ∀ k, CdV (gv k)
 | 0 => fun t key c hc => by
   rw [gv]
   repeat' split
   all_goals exact cC rfl
 | k + 1 => fun t key c hc => by
   rw [gv]
   repeat' split
   . exact FX (eV k) (ub k) hc
   . exact FU (eV k) (ub k) hc
   all_goals exact cC rfl
end Go.Proofs.Ytllncocibkgjkaa
namespace Go.Proofs.Ytllncocibkgjkaa
open Go Go.VG
set_option maxRecDepth 100000
theorem F9 (s : List UInt8) (hp : s.length ≤ 10000000) : OK 25 ([.str s]) ([]) (.tuple [.buf 0, .int .i64 (fy s)]) (some [cD (ia s)]) := by
 refine aC (C := cx [(59, wz), (60, (jO 32))]) (ay ⟨H3, (Hi), trivial⟩) (fn := Try.f25) rfl rfl rfl rfl fun hw hs => ?_
 have hml : ((aW (.new s)).1.map vT).length = (aW (.new s)).1.length := List.length_map _
 have htl : (aW (.new s)).1.length ≤ s.length := by
  have := BU (s.length + 1) (.new s) (uM s)
  exact this
 repeat' ((conv => whnf); first | apply al | apply aZ | (apply ao <;> intro h))
 all_goals try conv => whnf
 all_goals try (refine ae.mk ?_; try dsimp only)
 all_goals (try simp only [gG, bT, iW, fq, bH] at *)
 all_goals (try (exfalso; omega))
 all_goals first | refine stay ?_ | trivial | skip
 all_goals (try have hmm : ((aq 32 [] (aW (.new s))).2.2.1.map vT).length = (aq 32 [] (aW (.new s))).2.2.1.length := List.length_map _)
 . exact ⟨gn, rfl, by omega⟩
 . have e : fy s = 2 := by unfold fy; rw [if_neg (by omega), if_pos (.inl (by omega))]
   have el : ia s = [] := by unfold ia; rw [if_neg (by rw [e]; decide)]
   rw [e, el]
   refine a8.mk [.tm 2 4, .swap 0 3] ?_ <;> (repeat' first | trivial)
 . have e : fy s = 0 := by unfold fy; rw [if_neg (by omega), if_neg (by omega)]
   have el : ia s = (aq 32 [] (aW (.new s))).2.1 := by unfold ia; rw [if_pos e]
   rw [e, el]
   refine a8.mk [.swap 0 1] ?_ <;> (repeat' first | trivial)
 . have e : fy s = 2 := by unfold fy; rw [if_neg (by omega), if_pos (.inr (by assumption))]
   have el : ia s = [] := by unfold ia; rw [if_neg (by rw [e]; decide)]
   rw [e, el]
   refine a8.mk [.tm 2 4, .swap 0 3] ?_ <;> (repeat' first | trivial)
 . have e : fy s = (aq 32 [] (aW (.new s))).1 := by unfold fy; rw [if_pos (by assumption)]
   have el : ia s = [] := by unfold ia; rw [if_neg (by rw [e]; assumption)]
   rw [e, el]
   refine a8.mk [.tm 2 4, .swap 0 3] ?_ <;> (repeat' first | trivial)
def KH : Sm := fun args σ => match args, σ with
 | [.str s], [] => some (s.length ≤ 10000000, .tuple [.buf 0, .int .i64 (fy s)], some [cD (ia s)])
 | _, _ => none
theorem Fb (a b : List Nd) (hp : a = b ∧ a.length ≤ 100000000) : OK 26 ([.buf 0, .buf 1]) ([cD a, cD b]) (.bool true) (none) := by
 refine aC (C := cx []) (ay trivial) (fn := Try.f26) rfl rfl rfl rfl fun hw hs => ?_
 obtain ⟨rfl, hl⟩ := hp
 have hml : (a.map aH).length = a.length := List.length_map _
 repeat' ((conv => whnf); first | apply aZ | (apply ao <;> intro h))
 all_goals try conv => whnf
 all_goals try (refine ae.mk ?_; try dsimp only)
 all_goals (try simp only [gG, bT, iW, fq, bH] at *)
 all_goals try refine stay ?_
 . refine bn.mk Nat (fun i => i ≤ a.length) (fun i => ⟨26, [(0, .buf 0), (1, .buf 1), (5, .int .i64 i)], [cD a, cD a], []⟩) (fun i => a.length - i) [] 0 (Nat.zero_le _) ?_ (fun i hi _ _ => ?_)
   . refine Go.VG.Sub.mk rfl ?_ ?_ ?_ ?_ <;> (repeat' first | trivial)
   repeat' ((conv => whnf); first | apply al | apply aZ | ((first | apply ao | apply goA) <;> intro h) | with_reducible apply ie)
   all_goals try conv => whnf
   all_goals try (refine ae.mk ?_; try dsimp only)
   all_goals (try simp only [gG, bT, iW, fq, bH] at *)
   all_goals first | refine stay ?_ | omega | skip
   all_goals first
    | (refine ⟨[], i + 1, by omega, ?_, by omega⟩
       refine Go.VG.Sub.mk rfl ?_ ?_ ?_ ?_ <;> (repeat' first | trivial | apply aj | apply aQ)
       all_goals (simp (discharger := omega) only [wR]; omega)
       done)
    | (show a8 _ _ _ _ _ _
       refine a8.mk [] ?_ <;> (repeat' first | trivial | apply aj | apply iD)
       done)
    | (exfalso; simp_all; done)
    | skip
 . exact absurd trivial (by assumption)
def Bv : Sm := fun args σ => match args, σ with
 | [.buf 0, .buf 1], [.buf 4 0 l_a, .buf 4 0 l_b] => some (cV l_b ∧ (cV l_a ∧ ((aP l_a) = (aP l_b) ∧ (aP l_a).length ≤ 100000000)), .bool true, none)
 | _, _ => none
theorem GZ : aD 26 Bv := by
 intro args sg pre x r he hp
 unfold Bv at he
 split at he <;> cases he
 . rw [sI (hp).1]; rw [sI (hp.2).1]; exact Fb (hp := hp.2.2) ..
end Go.Proofs.Ytllncocibkgjkaa
namespace Go.Proofs.Ytllncocibkgjkaa
open Go Go.VG
set_option maxRecDepth 100000
noncomputable def cxr (l : List (Nat × Sm)) (p : List (Nat × eD)) (h : List (Nat × List dY)) : Ctx := ⟨Try.prog, tt, fi, fun f => lq l f, fun _ _ _ => False, fun r => nP h r, fun _ => false, fun _ _ _ _ => none, fun f => nQ p f, fun _ => false⟩
theorem goodr {l : List (Nat × Sm)} {p : List (Nat × eD)} {hs : List (Nat × List dY)} (h : lN l) (hp : OKp p) : bJ (cxr l p hs) where
 ti := oB
 mt := fun _ _ _ h => h.elim
 hm := pF
 gam := fun f args sg pre x r h' hp => nR h args sg pre x r h' hp
 del := fun f args sg pre c u r x r2 h' hq => rI hp args sg pre c u r x r2 h' hq
theorem Fp (s : List UInt8) (hp : s.length ≤ 10000000) : OK 24 [.str s] [] (.tuple [.buf 0, .int .i64 (bS s)]) (some [.buf 4 0 ((c5 s).map aH)]) := by
 refine FP (C := cxr [(17, si)] [(57, kp), (56, gZ 32), (58, uY)] [(3, [.cell 3 1 4])]) (goodr ⟨zB, trivial⟩ ⟨mm, zT 32, Hl, trivial⟩) (gf := 55) (fn := Try.f24) rfl rfl rfl rfl rfl rfl rfl rfl rfl rfl fun hw hs => ?_
 have hc : (Cu.new s).live := ⟨⟨Nat.zero_le _, Nat.le_refl _⟩, rfl, hp⟩
 have hn := fun h => aX hc h
 have hrg : ∀ {n : Int}, Cd n → -9223372036854775808 ≤ n ∧ n ≤ 9223372036854775807 := fun h => ⟨by have := h.1; omega, by have := h.2; omega⟩
 have hnil : ∀ {n : Int}, bS s = n → n ≠ 0 → c5 s = [] := fun h h0 => by unfold c5; rw [if_neg (by rw [h]; exact h0)]
 repeat' ((conv => whnf); first | with_reducible refine gk ?_ (fun h => ?_) fun h => ?_ | apply al)
 all_goals try conv => whnf
 all_goals try (refine ae.mk ?_; try dsimp only)
 all_goals (try simp only [aR, kJ] at *)
 . rfl
 . exact ⟨trivial, hc.1, hc.2.2⟩
 . have e : bS s = (Cu.new s).av := by unfold bS; rw [if_pos (by assumption)]
   rw [hnil e (by assumption), e]
   refine kG.mk _ (tv _ (hrg (ky hc))) rfl ?_
   refine a8.mk [.cell 0 0 4, .swap 0 6] ?_ <;> (repeat' first | trivial)
 all_goals
  have h0 : ¬ (Cu.new s).av ≠ 0 := by assumption
  obtain ⟨l1, l2, l3, l4, _⟩ := hn (by omega)
  have hkk := (Cu.new s).next.2.k.toNat_lt
  have le := l1.1
  have he : (Cu.new s).e = s.length := rfl
  have fit := eV 32 (Cu.new s).next.2 [] (Cu.new s).next.1 l1
 . exact ⟨by omega, l1, by decide, ⟨[], rfl⟩, by show 0 + _ + 1 ≤ _; omega⟩
 . have e : bS s = (gv 32 (Cu.new s).next.2 [] (Cu.new s).next.1).1 := by unfold bS; rw [if_neg h0, if_pos (by assumption)]
   rw [hnil e (by assumption), e]
   refine kG.mk _ (tv _ (hrg (ub 32 _ _ _ l1))) rfl ?_
   refine a8.mk [.cell 0 0 4, .swap 0 6] ?_ <;> (repeat' first | trivial)
 all_goals
  have h1 : ¬ (gv 32 (Cu.new s).next.2 [] (Cu.new s).next.1).1 ≠ 0 := by assumption
  have f := fit (by omega)
 . exact ⟨trivial, f.live.1, f.live.2.2⟩
 . have e : bS s = 2 := by unfold bS; rw [if_neg h0, if_neg h1, if_pos (by assumption)]
   rw [hnil e (by decide), e]
   refine kG.mk _ (tv 2 (by decide)) rfl ?_
   refine a8.mk [.cell 0 0 4, .swap 0 6] ?_ <;> (repeat' first | trivial)
 . have e : bS s = 0 := by unfold bS; rw [if_neg h0, if_neg h1, if_neg (by assumption)]
   have el : c5 s = (gv 32 (Cu.new s).next.2 [] (Cu.new s).next.1).2.1 := by unfold c5; rw [if_pos e]
   rw [el, e]
   refine kG.mk _ (CP _ ?_) rfl ?_
   . (repeat' first | trivial | rfl | refine And.intro ?_ ?_)
   refine a8.mk [.swap 0 4] ?_ <;> (repeat' first | trivial)
end Go.Proofs.Ytllncocibkgjkaa
namespace Go.Proofs.Ytllncocibkgjkaa
open Go Go.VG
set_option maxRecDepth 100000
def qf (R : List UInt8 → Int × List Nd) : Sm := fun args σ => match args, σ with
 | [.str s], [] => some (s.length ≤ 10000000, .tuple [.buf 0, .int .i64 (R s).1], some [cD (R s).2])
 | _, _ => none
theorem uk {R : List UInt8 → Int × List Nd} (hR : ∀ s, R s = (bS s, c5 s)) : aD 24 (qf R) := by
 intro args sg pre x r he hp
 unfold qf at he
 split at he <;> cases he
 rw [hR]
 exact Fp _ hp
def wu (R : List UInt8 → Int × List Nd) : Sm := fun args σ => match args, σ with
 | [.str s], [] => some (s.length ≤ 10000000, .tuple [.buf 0, .int .i64 (R s).1], some [cD (R s).2])
 | _, _ => none
theorem GW {R : List UInt8 → Int × List Nd} (hR : ∀ s, R s = (bS s, c5 s)) : aD 25 (wu R) := by
 intro args sg pre x r he hp
 unfold wu at he
 split at he <;> cases he
 rw [hR]
 have h := F9 _ hp
 rw [(mQ hp).1, (mQ hp).2] at h
 exact h
theorem G0 (d : Nat) {c : Cu} (hc : c.live) (t : Tk) (key : List UInt8) (h : (gv d t key c).1 = 0) : (gv d t key c).2.1.length ≤ c.s.length + 1 := by
 have f := eV d t key c hc h
 have h1 := f.len
 obtain ⟨h3, h4⟩ := f.live.1
 rw [f.e] at h3 h4
 rw [f.s] at h4
 omega
theorem Kg {s : List UInt8} (h : s.length ≤ 10000000) : (c5 s).length ≤ s.length + 1 := by
 unfold c5
 split
 . rename_i h0
   have hc : (Cu.new s).live := ⟨⟨Nat.zero_le _, Nat.le_refl _⟩, rfl, h⟩
   unfold bS at h0
   by_cases h1 : (Cu.new s).av ≠ 0
   . rw [if_pos h1] at h0; exact absurd h0 h1
   rw [if_neg h1] at h0
   obtain ⟨l1, l2, _⟩ := aX hc (by omega)
   by_cases h2 : (gv 32 (Cu.new s).next.2 [] (Cu.new s).next.1).1 ≠ 0
   . rw [if_pos h2] at h0; exact absurd h0 h2
   have := G0 32 l1 (Cu.new s).next.2 [] (by omega)
   rw [l2] at this
   exact this
 . exact Nat.zero_le _
end Go.Proofs.Ytllncocibkgjkaa
namespace Go.Proofs.Ytllncocibkgjkaa
open Go Go.VG
set_option maxRecDepth 100000
instance : DecidableEq Nd := fun a b =>
 if h : a.k = b.k ∧ a.key = b.key ∧ a.t = b.t ∧ a.sz = b.sz then isTrue (by cases a; cases b; simp_all) else isFalse (by rintro rfl; exact h ⟨rfl, rfl, rfl, rfl⟩)
def x1 : List UInt8 := [123, 34, 97, 34, 58, 32, 91, 49, 44, 32, 116, 114, 117, 101, 93, 125]
def x2 : List UInt8 := [123, 34, 97, 34, 58, 49, 44, 34, 97, 34, 58, 50, 125]
def x3 : List UInt8 := [91, 49, 44, 93]
def x4 : List UInt8 := [49, 32, 63]
def n1 : List Nd := [⟨123, [], [], 4⟩, ⟨91, [97], [], 3⟩, ⟨110, [], [49], 1⟩, ⟨116, [], [], 1⟩]
theorem Ck : fy x1 = 0 ∧ ia x1 = n1 := by decide +kernel
theorem Kx : fy x2 = 8 := by decide +kernel
theorem Ky : fy x3 = 3 := by decide +kernel
theorem Kz : fy x4 = 2 := by decide +kernel
theorem uH : cy n1 = [123, 34, 97, 34, 58, 91, 49, 44, 116, 114, 117, 101, 93, 125] := by decide +kernel
theorem pH : er n1 1 = [2, 3] ∧ er n1 9 = [] := by decide +kernel
theorem uG : dK n1 := ⟨by decide +kernel, by decide⟩
theorem Fu {R : List UInt8 → Int × List Nd} (hR : ∀ s, R s = (bS s, c5 s)) : OK 23 [] [] (.bool true) none := by
 refine aC (C := cxh [(24, qf R), (28, wD), (30, qd)] [(5, [.dk 0])]) (ay ⟨uk hR, H6, uj, trivial⟩) (fn := Try.f23) rfl rfl rfl rfl fun hw hs => ?_
 have a1 : R x1 = (0, n1) := by rw [hR, ← (mQ (s := x1) (by decide)).1, ← (mQ (s := x1) (by decide)).2, Ck.1, Ck.2]
 have a2 : (R x2).1 = 8 := by rw [hR]; show bS x2 = 8; rw [← (mQ (s := x2) (by decide)).1, Kx]
 have a3 : (R x3).1 = 3 := by rw [hR]; show bS x3 = 3; rw [← (mQ (s := x3) (by decide)).1, Ky]
 have a4 : (R x4).1 = 2 := by rw [hR]; show bS x4 = 2; rw [← (mQ (s := x4) (by decide)).1, Kz]
 have ab : ∀ {p q : Prop}, p → ¬ p → q := fun h k => absurd h k
 repeat' ((conv => whnf); first | apply al | ((first | apply ao | apply nC) <;> intro h) | with_reducible apply goG)
 all_goals try conv => whnf
 all_goals try (refine ae.mk ?_; try dsimp only)
 all_goals first
  | decide
  | (show (0 : Nat) < (R x1).2.length; rw [a1]; decide)
  | (show (1 : Nat) < (R x1).2.length; rw [a1]; decide)
  | (show (2 : Nat) < (R x1).2.length; rw [a1]; decide)
  | exact ab (show (R x1).1 = 0 by rw [a1]) (by assumption)
  | exact ab (show (((R x1).2.map aH).length : Int) = 4 by rw [a1]; rfl) (by assumption)
  | exact ab (show ((R x1).2.getD 0 default).sz = 4 by rw [a1]; rfl) (by assumption)
  | exact ab (show ((R x1).2.getD 1 default).key = [97] by rw [a1]; rfl) (by assumption)
  | exact ab (show ((R x1).2.getD 2 default).t = [49] by rw [a1]; rfl) (by assumption)
  | exact ab (show (R x2).1 = 8 from a2) (by assumption)
  | exact ab (show (R x3).1 = 3 from a3) (by assumption)
  | exact ab (show (R x4).1 = 2 from a4) (by assumption)
  | (show cV ((R x1).2.map aH) ∧ dK (aP ((R x1).2.map aH)); rw [bT, a1]; exact ⟨dH, uG⟩)
  | exact ab (show (112 :: cy (aP ((R x1).2.map aH))) = [112, 123, 34, 97, 34, 58, 91, 49, 44, 116, 114, 117, 101, 93, 125] by rw [bT, a1, uH]) (by assumption)
  | exact ab (show (((er (aP ((R x1).2.map aH)) 1).map nI).length : Int) = 2 by rw [bT, a1, pH.1]; rfl) (by assumption)
  | exact ab (show (((er (aP ((R x1).2.map aH)) 9).map nI).length : Int) = 0 by rw [bT, a1, pH.2]; rfl) (by assumption)
  | skip
 . show cV ((R x1).2.map aH) ∧ dK (aP ((R x1).2.map aH)) ∧ _ + (cy (aP ((R x1).2.map aH))).length ≤ _
   rw [bT, a1, uH]
   exact ⟨dH, uG, by decide⟩
 refine ⟨112 :: cy (aP ((R x1).2.map aH)), rfl, ?_⟩
 repeat' ((conv => whnf); first | apply al | ((first | apply ao | apply nC) <;> intro h))
 all_goals try conv => whnf
 all_goals try (refine ae.mk ?_; try dsimp only)
 all_goals first
  | decide
  | (show (0 : Nat) < (R x1).2.length; rw [a1]; decide)
  | (show (1 : Nat) < (R x1).2.length; rw [a1]; decide)
  | (show (2 : Nat) < (R x1).2.length; rw [a1]; decide)
  | exact ab (show (R x1).1 = 0 by rw [a1]) (by assumption)
  | exact ab (show (((R x1).2.map aH).length : Int) = 4 by rw [a1]; rfl) (by assumption)
  | exact ab (show ((R x1).2.getD 0 default).sz = 4 by rw [a1]; rfl) (by assumption)
  | exact ab (show ((R x1).2.getD 1 default).key = [97] by rw [a1]; rfl) (by assumption)
  | exact ab (show ((R x1).2.getD 2 default).t = [49] by rw [a1]; rfl) (by assumption)
  | exact ab (show (R x2).1 = 8 from a2) (by assumption)
  | exact ab (show (R x3).1 = 3 from a3) (by assumption)
  | exact ab (show (R x4).1 = 2 from a4) (by assumption)
  | (show cV ((R x1).2.map aH) ∧ dK (aP ((R x1).2.map aH)); rw [bT, a1]; exact ⟨dH, uG⟩)
  | exact ab (show (112 :: cy (aP ((R x1).2.map aH))) = [112, 123, 34, 97, 34, 58, 91, 49, 44, 116, 114, 117, 101, 93, 125] by rw [bT, a1, uH]) (by assumption)
  | exact ab (show (((er (aP ((R x1).2.map aH)) 1).map nI).length : Int) = 2 by rw [bT, a1, pH.1]; rfl) (by assumption)
  | exact ab (show (((er (aP ((R x1).2.map aH)) 9).map nI).length : Int) = 0 by rw [bT, a1, pH.2]; rfl) (by assumption)
  | skip
 . have e : (((((er (aP ((R x1).2.map aH)) 9).map nI).length : Nat) : Int) == 0) = true := by rw [bT, a1, pH.2]; rfl
   refine a8.mk [] ?_ <;> (repeat' first | trivial | apply aj | apply iD)
theorem Fv  (hp : True) : OK 23 ([]) ([]) (.bool true) (none) := by
 exact Fu (R := fun s => (bS s, c5 s)) fun _ => rfl
def sw : Sm := fun args σ => match args, σ with
 | [], [] => some (True, .bool true, none)
 | _, _ => none
theorem zJ : aD 23 sw := by
 intro args sg pre x r he hp
 unfold sw at he
 split at he <;> cases he
 . exact Fv (hp := hp) ..
end Go.Proofs.Ytllncocibkgjkaa
