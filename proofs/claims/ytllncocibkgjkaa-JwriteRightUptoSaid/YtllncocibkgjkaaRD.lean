/-
  A part of the proof.
-/
import Derived.Test.YtllncocibkgjkaaJWp
import Derived.Test.YtllncocibkgjkaaB
import Derived.Test.YtllncocibkgjkaaVgZC
import Derived.TacticsInMore
import Derived.Test.YtllncocibkgjkaaTRa
import Derived.Test.YtllncocibkgjkaaTRf
import Derived.Test.YtllncocibkgjkaaTRb
import Derived.Test.YtllncocibkgjkaaTRv
import Derived.Test.YtllncocibkgjkaaTRq
import Derived.Test.YtllncocibkgjkaaRC
set_option linter.unusedSimpArgs false
set_option linter.unusedVariables false
set_option maxHeartbeats 4000000
namespace Go.Proofs.Ytllncocibkgjkaa
open Go Go.VG
set_option maxRecDepth 100000
theorem tX {w : WS} (h : w.out.length ≤ 1900000000 ∧ w.l.length ≤ 900) : okW (bl w.out) (w.l.map ef) ∧ (aZ (bl w.out) (w.l.map ef) w.whole w.code).out.length ≤ 1900000000 ∧ (aZ (bl w.out) (w.l.map ef) w.whole w.code).l.length ≤ 900 := by
 rw [bA]; exact ⟨gC (by omega) (by omega), h⟩
theorem Dl (w : WS) (o : di) (hp : (w.out.length ≤ 1900000000 ∧ w.l.length ≤ 900) ∧ o.text.length ≤ 100000000) : OK 34 ([.ptr 0 0, eo o]) (eW w) (.tuple []) (some (eW (w.op o))) := by
 refine az (C := cx [(63, rK), (65, rH), (68, rE), (64, rG), (70, rL), (66, rM), (69, rF), (67, rJ)]) (ax ⟨yp, ym, yj, yl, yq, yu, yk, yo, trivial⟩) (fn := Try.f34) rfl rfl rfl rfl fun hw hs => ?_
 obtain ⟨hp, hq⟩ := hp
 repeat' ((conv => whnf); first | apply al | (apply ay <;> intro h))
 all_goals try conv => whnf
 all_goals try (refine af.mk ?_; try dsimp only)
 all_goals try refine stay ?_
 all_goals first
  | exact tX hp
  | exact ⟨(tX hp).1, (tX hp).2, hq⟩
  | skip
 all_goals
  rw [bA]
  unfold WS.op
  repeat (first | rw [if_pos (by omega)] | rw [if_neg (by omega)])
  refine ah.mk [] ?_ <;> (repeat' first | trivial)
def v7 : Sm := fun args σ => match args, σ with
 | [.ptr 0 0, .agg [.int .u8 k_o, .str t_o, .int .i64 n_o]], [.cells [.buf 1, .buf 2, .bool h_w, .int .i64 c_w, .func (.func 36) [] []], .buf 1 0 o_w, .buf 3 0 l_w] => some (True ∧ (okW o_w l_w ∧ (((aZ o_w l_w h_w c_w).out.length ≤ 1900000000 ∧ (aZ o_w l_w h_w c_w).l.length ≤ 900) ∧ (di.mk k_o t_o n_o).text.length ≤ 100000000)), .tuple [], some (eW ((aZ o_w l_w h_w c_w).op (di.mk k_o t_o n_o))))
 | _, _ => none
theorem F3 : aI 34 v7 := by
 intro args sg pre x r he hp
 unfold v7 at he
 split at he <;> cases he
 . rw [viewO (hp).1]; rw [gZ (hp.2).1]; exact Dl (hp := hp.2.2) ..
theorem bn (o : List UInt8) (l : List Fr) (wh : Bool) (c : Int) : aZ (bl o) (l.map ef) wh c = ⟨o, l, wh, c⟩ := bA ⟨o, l, wh, c⟩
theorem bo (o : List UInt8) (l : List Fr) (h : o.length ≤ 2000000000 ∧ l.length ≤ 1000) : okW (bl o) (l.map ef) := gC h.1 h.2
theorem gI : quote [97] = [34, 97, 34] := rfl
theorem gd : eD 1 = [49] := by unfold eD; rw [if_neg (by decide), dec_lt (by decide)]; rfl
theorem w1 : WS.begin ⟨[], [], false, 0⟩ 123 125 = ⟨[123], [⟨125, false, false⟩], true, 0⟩ := rfl
theorem w2 : WS.key ⟨[123], [⟨125, false, false⟩], true, 0⟩ [97] = ⟨[123, 34, 97, 34, 58], [⟨125, true, true⟩], true, 0⟩ := rfl
theorem w3 : WS.begin ⟨[123, 34, 97, 34, 58], [⟨125, true, true⟩], true, 0⟩ 91 93 = ⟨[123, 34, 97, 34, 58, 91], [⟨125, true, false⟩, ⟨93, false, false⟩], true, 0⟩ := rfl
theorem w4 : WS.put ⟨[123, 34, 97, 34, 58, 91], [⟨125, true, false⟩, ⟨93, false, false⟩], true, 0⟩ [49] = ⟨[123, 34, 97, 34, 58, 91, 49], [⟨125, true, false⟩, ⟨93, true, false⟩], true, 0⟩ := rfl
theorem w5 : WS.put ⟨[123, 34, 97, 34, 58, 91, 49], [⟨125, true, false⟩, ⟨93, true, false⟩], true, 0⟩ [110, 117, 108, 108] = ⟨[123, 34, 97, 34, 58, 91, 49, 44, 110, 117, 108, 108], [⟨125, true, false⟩, ⟨93, true, false⟩], true, 0⟩ := rfl
theorem w6 : WS.fin ⟨[123, 34, 97, 34, 58, 91, 49, 44, 110, 117, 108, 108], [⟨125, true, false⟩, ⟨93, true, false⟩], true, 0⟩ = ⟨[123, 34, 97, 34, 58, 91, 49, 44, 110, 117, 108, 108, 93], [⟨125, true, false⟩], true, 0⟩ := rfl
theorem w7 : WS.done ⟨[123, 34, 97, 34, 58, 91, 49, 44, 110, 117, 108, 108, 93], [⟨125, true, false⟩], true, 0⟩ = ([], 1) := rfl
theorem w8 : WS.fin ⟨[123, 34, 97, 34, 58, 91, 49, 44, 110, 117, 108, 108, 93], [⟨125, true, false⟩], true, 0⟩ = ⟨[123, 34, 97, 34, 58, 91, 49, 44, 110, 117, 108, 108, 93, 125], [], true, 0⟩ := rfl
theorem w9 : WS.done ⟨[123, 34, 97, 34, 58, 91, 49, 44, 110, 117, 108, 108, 93, 125], [], true, 0⟩ = ([123, 34, 97, 34, 58, 91, 49, 44, 110, 117, 108, 108, 93, 125], 0) := rfl
theorem gM : WS.put ⟨[123, 34, 97, 34, 58, 91, 49, 44, 110, 117, 108, 108, 93, 125], [], true, 0⟩ (iM true) = ⟨[123, 34, 97, 34, 58, 91, 49, 44, 110, 117, 108, 108, 93, 125], [], true, 12⟩ := rfl
theorem gN : WS.done ⟨[123, 34, 97, 34, 58, 91, 49, 44, 110, 117, 108, 108, 93, 125], [], true, 12⟩ = ([], 12) := rfl
theorem DD  (hp : True) : OK 32 ([]) ([]) (.bool true) (none) := by
 refine az (C := cx [(33, rI), (63, rK), (64, rG), (65, rH), (66, rM), (67, rJ), (68, rE), (35, rD), (69, rF), (70, rL)]) (ax ⟨yn, yp, yl, ym, yu, yo, yj, yi, yk, yq, trivial⟩) (fn := Try.f32) rfl rfl rfl rfl fun hw hs => ?_
 conv => whnf
 refine al ⟨?_⟩ ?_
 . first
   | trivial
   | exact ⟨bo _ _ (by decide), by rw [bn]; decide⟩
   | exact ⟨bo _ _ (by decide), trivial⟩
   | exact ⟨bo _ _ (by decide), by rw [bn]; decide, by decide⟩
 simp only [WS.new, bn, gI, gd, w1, w2, w3, w4, w5, w6, w7, w8, w9, gM, gN]
 conv => whnf
 refine al ⟨?_⟩ ?_
 . first
   | trivial
   | exact ⟨bo _ _ (by decide), by rw [bn]; decide⟩
   | exact ⟨bo _ _ (by decide), trivial⟩
   | exact ⟨bo _ _ (by decide), by rw [bn]; decide, by decide⟩
 simp only [WS.new, bn, gI, gd, w1, w2, w3, w4, w5, w6, w7, w8, w9, gM, gN]
 conv => whnf
 refine al ⟨?_⟩ ?_
 . first
   | trivial
   | exact ⟨bo _ _ (by decide), by rw [bn]; decide⟩
   | exact ⟨bo _ _ (by decide), trivial⟩
   | exact ⟨bo _ _ (by decide), by rw [bn]; decide, by decide⟩
 simp only [WS.new, bn, gI, gd, w1, w2, w3, w4, w5, w6, w7, w8, w9, gM, gN]
 conv => whnf
 refine al ⟨?_⟩ ?_
 . first
   | trivial
   | exact ⟨bo _ _ (by decide), by rw [bn]; decide⟩
   | exact ⟨bo _ _ (by decide), trivial⟩
   | exact ⟨bo _ _ (by decide), by rw [bn]; decide, by decide⟩
 simp only [WS.new, bn, gI, gd, w1, w2, w3, w4, w5, w6, w7, w8, w9, gM, gN]
 conv => whnf
 refine al ⟨?_⟩ ?_
 . first
   | trivial
   | exact ⟨bo _ _ (by decide), by rw [bn]; decide⟩
   | exact ⟨bo _ _ (by decide), trivial⟩
   | exact ⟨bo _ _ (by decide), by rw [bn]; decide, by decide⟩
 simp only [WS.new, bn, gI, gd, w1, w2, w3, w4, w5, w6, w7, w8, w9, gM, gN]
 conv => whnf
 refine al ⟨?_⟩ ?_
 . first
   | trivial
   | exact ⟨bo _ _ (by decide), by rw [bn]; decide⟩
   | exact ⟨bo _ _ (by decide), trivial⟩
   | exact ⟨bo _ _ (by decide), by rw [bn]; decide, by decide⟩
 simp only [WS.new, bn, gI, gd, w1, w2, w3, w4, w5, w6, w7, w8, w9, gM, gN]
 conv => whnf
 refine al ⟨?_⟩ ?_
 . first
   | trivial
   | exact ⟨bo _ _ (by decide), by rw [bn]; decide⟩
   | exact ⟨bo _ _ (by decide), trivial⟩
   | exact ⟨bo _ _ (by decide), by rw [bn]; decide, by decide⟩
 simp only [WS.new, bn, gI, gd, w1, w2, w3, w4, w5, w6, w7, w8, w9, gM, gN]
 conv => whnf
 refine al ⟨?_⟩ ?_
 . first
   | trivial
   | exact ⟨bo _ _ (by decide), by rw [bn]; decide⟩
   | exact ⟨bo _ _ (by decide), trivial⟩
   | exact ⟨bo _ _ (by decide), by rw [bn]; decide, by decide⟩
 simp only [WS.new, bn, gI, gd, w1, w2, w3, w4, w5, w6, w7, w8, w9, gM, gN]
 conv => whnf
 refine al ⟨?_⟩ ?_
 . first
   | trivial
   | exact ⟨bo _ _ (by decide), by rw [bn]; decide⟩
   | exact ⟨bo _ _ (by decide), trivial⟩
   | exact ⟨bo _ _ (by decide), by rw [bn]; decide, by decide⟩
 simp only [WS.new, bn, gI, gd, w1, w2, w3, w4, w5, w6, w7, w8, w9, gM, gN]
 conv => whnf
 refine al ⟨?_⟩ ?_
 . first
   | trivial
   | exact ⟨bo _ _ (by decide), by rw [bn]; decide⟩
   | exact ⟨bo _ _ (by decide), trivial⟩
   | exact ⟨bo _ _ (by decide), by rw [bn]; decide, by decide⟩
 simp only [WS.new, bn, gI, gd, w1, w2, w3, w4, w5, w6, w7, w8, w9, gM, gN]
 conv => whnf
 refine al ⟨?_⟩ ?_
 . first
   | trivial
   | exact ⟨bo _ _ (by decide), by rw [bn]; decide⟩
   | exact ⟨bo _ _ (by decide), trivial⟩
   | exact ⟨bo _ _ (by decide), by rw [bn]; decide, by decide⟩
 simp only [WS.new, bn, gI, gd, w1, w2, w3, w4, w5, w6, w7, w8, w9, gM, gN]
 conv => whnf
 refine al ⟨?_⟩ ?_
 . first
   | trivial
   | exact ⟨bo _ _ (by decide), by rw [bn]; decide⟩
   | exact ⟨bo _ _ (by decide), trivial⟩
   | exact ⟨bo _ _ (by decide), by rw [bn]; decide, by decide⟩
 simp only [WS.new, bn, gI, gd, w1, w2, w3, w4, w5, w6, w7, w8, w9, gM, gN]
 conv => whnf
 refine al ⟨?_⟩ ?_
 . first
   | trivial
   | exact ⟨bo _ _ (by decide), by rw [bn]; decide⟩
   | exact ⟨bo _ _ (by decide), trivial⟩
   | exact ⟨bo _ _ (by decide), by rw [bn]; decide, by decide⟩
 simp only [WS.new, bn, gI, gd, w1, w2, w3, w4, w5, w6, w7, w8, w9, gM, gN]
 conv => whnf
 refine al ⟨?_⟩ ?_
 . first
   | trivial
   | exact ⟨bo _ _ (by decide), by rw [bn]; decide⟩
   | exact ⟨bo _ _ (by decide), trivial⟩
   | exact ⟨bo _ _ (by decide), by rw [bn]; decide, by decide⟩
 simp only [WS.new, bn, gI, gd, w1, w2, w3, w4, w5, w6, w7, w8, w9, gM, gN]
 conv => whnf
 refine ah.mk [] ?_ <;> (repeat' first | trivial)
def v8 : Sm := fun args σ => match args, σ with
 | [], [] => some (True, .bool true, none)
 | _, _ => none
theorem F4 : aI 32 v8 := by
 intro args sg pre x r he hp
 unfold v8 at he
 split at he <;> cases he
 . exact DD (hp := hp) ..
end Go.Proofs.Ytllncocibkgjkaa
namespace Go.Proofs.Ytllncocibkgjkaa
open Go Go.VG
set_option maxRecDepth 100000
theorem as0' (w : World) : (Instr.typeAssert .nilIface 20 100 true).run Try.prog w = .ok (.tuple #[.int .i64 0, .bool false]) w := by rfl
theorem as1' (n : Int) (w : World) : (Instr.typeAssert (.iface 100 (.int .i64 n)) 20 100 true).run Try.prog w = .ok (.tuple #[.int .i64 n, .bool true]) w := by rfl
theorem as0 {ev : Operand → Value} {o : Oper} {x : Operand} (ho : o.op = .typeAssert x 20 100 true) (hx : ev x = .nilIface) (w : World) : (execOp ev o).run Try.prog w = .ok (.value (.tuple #[.int .i64 0, .bool false])) w := by
 simp only [execOp, ho, hx, Sem.run_bind, as0', Result.andThen_ok, Sem.run_pure]
theorem as1 {ev : Operand → Value} {o : Oper} {x : Operand} {n : Int} (ho : o.op = .typeAssert x 20 100 true) (hx : ev x = .iface 100 (.int .i64 n)) (w : World) : (execOp ev o).run Try.prog w = .ok (.value (.tuple #[.int .i64 n, .bool true])) w := by
 simp only [execOp, ho, hx, Sem.run_bind, as1', Result.andThen_ok, Sem.run_pure]
theorem nG {ev : Operand → Value} {o : Oper} {x : Operand} {v : Value} {P : Program} (ho : o.op = .move x ∨ o.op = .assign x) (hx : ev x = v) (w : World) : (execOp ev o).run P w = .ok (.value v) w := by
 rcases ho with ho | ho <;> simp only [execOp, ho, hx, Sem.run_pure]
theorem rN {ev : Operand → Value} {o : Oper} {x : Operand} {i : Nat} {vs : Array Value} {v : Value} {P : Program} (ho : o.op = .extract x i) (hx : ev x = .tuple vs) (hv : vs[i]? = some v) (w : World) : (execOp ev o).run P w = .ok (.value v) w := by
 simp [execOp, ho, hx, Instr.extract, hv]
section
variable {P : Program} {ops : Array Oper} {Q : Exit → Act → List Frame → World → Prop} {i : Nat} {rest : List Nat} {a : Act} {cs : List Frame} {w : World} {o : Oper}
theorem iz {v : Value} (ho : ops[i]? = some o) (hg : o.guard = none) (hx : (execOp a.eval o).run P w = .ok (.value v) w) (h : wpOpsSIn Fence.wide 0 P ops Q rest (a.put o.dst v) cs w) : wpOpsSIn Fence.wide 0 P ops Q (i :: rest) a cs w := by
 unfold wpOpsSIn
 rw [ho]
 refine ⟨fun _ _ => trivial, ?_⟩
 rw [if_pos (by simp [Region.wanted, hg]), hx]
 exact h
theorem I3 {v : Value} {cs' : List Frame} (ho : ops[i]? = some o) (hg : o.guard = none) (hx : (execOp a.eval o).run P w = .ok .recover w) (hc : recoverD cs = some (v, cs')) (h : wpOpsSIn Fence.wide 0 P ops Q rest (a.put o.dst v) cs' w) : wpOpsSIn Fence.wide 0 P ops Q (i :: rest) a cs w := by
 unfold wpOpsSIn
 rw [ho]
 refine ⟨fun _ _ => trivial, ?_⟩
 rw [if_pos (by simp [Region.wanted, hg]), hx]
 show (match recoverD cs with | some (v, cs') => _ | none => _)
 rw [hc]
 exact h
theorem I2 (ho : ops[i]? = some o) (hg : o.guard = none) (hx : (execOp a.eval o).run P w = .ok .recover w) (hc : recoverD cs = none) (h : wpOpsSIn Fence.wide 0 P ops Q rest (a.put o.dst .nilIface) cs w) : wpOpsSIn Fence.wide 0 P ops Q (i :: rest) a cs w := by
 unfold wpOpsSIn
 rw [ho]
 refine ⟨fun _ _ => trivial, ?_⟩
 rw [if_pos (by simp [Region.wanted, hg]), hx]
 show (match recoverD cs with | some (v, cs') => _ | none => _)
 rw [hc]
 exact h
end
theorem yR (v1 v2 : Value) : [v1, v2].toArray ++ Array.replicate (11 - [v1, v2].toArray.size) undef = #[v1, v2, undef, undef, undef, undef, undef, undef, undef, undef, undef] := by rfl
theorem AU {v1 v2 y4 y5 y6 y7 y8 : Value} {n : Int} {b : Bool} (hn : -9223372036854775808 ≤ n ∧ n ≤ 9223372036854775807) : ∀ (st : St) (g : a9) (n' : Nat), aj st g [.ptr 0 0, .ptr 1 0] n' [v1, v2] → ∀ t, VR st g (lk [(3, .bool b), (2, .int .i64 n), (1, .ptr 1 0), (0, .ptr 0 0)] t) n' ((#[v1, v2, .int .i64 n, .bool b, y4, y5, y6, y7, y8, undef, undef] : Array Value).getD t undef) := by
 intro st g n' hv t
 obtain ⟨x1, q1, q2⟩ := iF hv (i := 0) rfl
 obtain ⟨x2, q3, q4⟩ := iF hv (i := 1) rfl
 cases q1; cases q3
 match t with
 | 0 => exact q2
 | 1 => exact q4
 | 2 => exact ⟨rfl, hn⟩
 | 3 => rfl
 | t + 4 => trivial
theorem BG (σ : List O) (hσ : dA σ σ σ.length) : pJ Try.prog fu 55 [.ptr 0 0, .ptr 1 0] σ none σ := by
 refine wG (C := cx []) (ax trivial) (cfn := Try.f55) (tm := [(3, .bool false), (2, .int .i64 0), (1, .ptr 1 0), (0, .ptr 0 0)]) rfl rfl rfl rfl (fun vs w c₀ cs Q hl hu h => ?_) ?_
 . obtain ⟨v1, v2, rfl⟩ : ∃ v1 v2, vs = [v1, v2] := by
     match vs, hl with
     | [v1, v2], _ => exact ⟨v1, v2, rfl⟩
   rw [show Try.f55.ntmps = 11 from rfl] at h ⊢
   rw [yR]
   apply wpSIn_region
   show wpOpsSIn Fence.wide 0 Try.prog _ _ _ _ _ _
   refine I2 rfl rfl rfl (by simp [recoverD, hu, kM]) ?_
   refine iz (v := .tuple #[.int .i64 0, .bool false]) rfl rfl (as0 rfl rfl w) ?_
   refine iz (v := .tuple #[.int .i64 0, .bool false]) rfl rfl (nG (x := .tmp 6) (v := .tuple #[.int .i64 0, .bool false]) (.inl rfl) rfl w) ?_
   refine iz (v := .int .i64 0) rfl rfl (rN (x := .tmp 4) (i := 0) (vs := #[.int .i64 0, .bool false]) (v := .int .i64 0) rfl rfl rfl w) ?_
   refine iz (v := .bool false) rfl rfl (rN (x := .tmp 4) (i := 1) (vs := #[.int .i64 0, .bool false]) (v := .bool false) rfl rfl rfl w) ?_
   refine iz (v := .int .i64 0) rfl rfl (nG (x := .tmp 7) (v := .int .i64 0) (.inr rfl) rfl w) ?_
   refine iz (v := .bool false) rfl rfl (nG (x := .tmp 8) (v := .bool false) (.inr rfl) rfl w) ?_
   have hc0 : c₀ = { c₀ with mode := .returning } := by cases c₀; simp_all [kM]
   rw [hc0]
   refine h _ .returning rfl rfl rfl ?_
   exact AU (by decide)
 . repeat' ((conv => whnf); apply al)
   all_goals try conv => whnf
   all_goals try (refine af.mk ?_; try dsimp only)
   . rfl
   . exact hσ
   . exact Nat.ble_eq_true_of_le (Nat.le_refl _)
theorem sD (n : Int) (hm : -9223372036854775808 ≤ n ∧ n ≤ 9223372036854775807) : pJ Try.prog fu 55 [.ptr 0 0, .ptr 1 0] [.cells [.list true 0 []], .cells [.int .i64 0], .dead, .dead, .dead, .buf 1 0 []]
   (some (.iface 100 (.int .i64 n))) [.cells [.list true 0 []], .cells [.int .i64 n], .dead, .dead, .dead, .buf 1 0 []] := by
 refine wG (C := cx []) (ax trivial) (cfn := Try.f55) (tm := [(3, .bool true), (2, .int .i64 n), (1, .ptr 1 0), (0, .ptr 0 0)]) rfl rfl rfl rfl (fun vs w c₀ cs Q hl hu h => ?_) ?_
 . obtain ⟨v1, v2, rfl⟩ : ∃ v1 v2, vs = [v1, v2] := by
     match vs, hl with
     | [v1, v2], _ => exact ⟨v1, v2, rfl⟩
   rw [show Try.f55.ntmps = 11 from rfl] at h ⊢
   rw [yR]
   apply wpSIn_region
   show wpOpsSIn Fence.wide 0 Try.prog _ _ _ _ _ _
   refine I3 (v := .iface 100 (.int .i64 n)) (cs' := { c₀ with mode := .panicking [{ v := .iface 100 (.int .i64 n), recovered := true }] } :: cs) rfl rfl rfl (by simp [recoverD, hu, kM]) ?_
   refine iz (v := .tuple #[.int .i64 n, .bool true]) rfl rfl (as1 rfl rfl w) ?_
   refine iz (v := .tuple #[.int .i64 n, .bool true]) rfl rfl (nG (x := .tmp 6) (v := .tuple #[.int .i64 n, .bool true]) (.inl rfl) rfl w) ?_
   refine iz (v := .int .i64 n) rfl rfl (rN (x := .tmp 4) (i := 0) (vs := #[.int .i64 n, .bool true]) (v := .int .i64 n) rfl rfl rfl w) ?_
   refine iz (v := .bool true) rfl rfl (rN (x := .tmp 4) (i := 1) (vs := #[.int .i64 n, .bool true]) (v := .bool true) rfl rfl rfl w) ?_
   refine iz (v := .int .i64 n) rfl rfl (nG (x := .tmp 7) (v := .int .i64 n) (.inr rfl) rfl w) ?_
   refine iz (v := .bool true) rfl rfl (nG (x := .tmp 8) (v := .bool true) (.inr rfl) rfl w) ?_
   refine h _ (.panicking [{ v := .iface 100 (.int .i64 n), recovered := true }]) rfl rfl rfl ?_
   exact AU hm
 . repeat' ((conv => whnf); apply al)
   all_goals try conv => whnf
   all_goals try (refine af.mk ?_; try dsimp only)
   . rfl
   . (repeat' first | trivial | rfl | refine And.intro ?_ ?_)
   . rfl
end Go.Proofs.Ytllncocibkgjkaa
namespace Go.Proofs.Ytllncocibkgjkaa
open Go Go.VG
set_option maxRecDepth 100000
def Cd (n : Int) : Prop := 0 ≤ n ∧ n ≤ 100
theorem c5 {n : Int} (h : decide (0 ≤ n ∧ n ≤ 100) = true) : Cd n := by unfold Cd; exact of_decide_eq_true h
theorem sJ (t : List UInt8) : ∀ (n i : Nat) (a : Int), Cd (bE t n i a).2
 | 0, _, _ => by rw [bE]; exact c5 rfl
 | n + 1, i, a => by
   rw [bE]
   repeat' split
   all_goals first
    | exact c5 rfl
    | exact sJ t n _ _
theorem GA (t : List UInt8) (i : Nat) (n : Int) : Cd (eU t i n).2.2 := by
 unfold eU
 repeat' split
 all_goals first
  | exact c5 rfl
  | exact sJ _ _ _ _
theorem BZ (t : List UInt8) (i : Nat) : Cd (ep t i).2.2 := by
 unfold ep
 repeat' split
 all_goals first
  | exact c5 rfl
  | exact sJ _ _ _ _
  | exact GA _ _ _
theorem GD (t : List UInt8) (i : Nat) : Cd (c6 t i).2.2 := by
 unfold c6
 repeat' split
 all_goals first
  | exact c5 rfl
  | exact BZ _ _
theorem zX (t : List UInt8) : ∀ (n i : Nat) (o : List UInt8), Cd (cA t n i o).1
 | 0, _, _ => by rw [cA]; exact c5 rfl
 | n + 1, i, o => by
   rw [cA]
   repeat' split
   all_goals first
    | exact c5 rfl
    | exact GD _ _
    | exact zX t n _ _
theorem mU {c : Cu} {k : Int} (h0 : c.c = 0) (h : Cd k) : Cd (c.fail k).c := by
 unfold Cu.fail
 rw [if_pos h0]; exact h
theorem H3 {c : Cu} (h0 : c.c = 0) : Cd c.gJ.1.c := by
 unfold Cu.gJ
 repeat' split
 . exact absurd h0 (by assumption)
 . exact mU h0 (c5 rfl)
 . exact mU h0 (c5 rfl)
 . show Cd c.c; rw [h0]; exact c5 rfl
 . exact mU h0 (zX _ _ _ _)
theorem tR (t : List UInt8) (i : Nat) : Cd (cH t i).2 := by
 unfold cH
 repeat' split
 all_goals exact c5 rfl
theorem G5 (t : List UInt8) (i : Nat) : Cd (cR t i).2 := by
 have hw : Cd (bd t i).2 := by
  unfold bd; split
  . exact c5 rfl
  . exact tR _ _
 have hb : ∀ x, Cd x.2 → Cd (bZ t x).2 := fun x hx => by
  unfold bZ; split
  . exact tR _ _
  . exact hx
 have hp : ∀ x, Cd x.2 → Cd (gG t x).2 := fun x hx => by
  unfold gG; split
  . exact tR _ _
  . exact hx
 exact hp _ (hb _ hw)
theorem G4 {c : Cu} (h0 : c.c = 0) : Cd c.kP.1.c := by
 unfold Cu.kP
 repeat' split
 . exact absurd h0 (by assumption)
 . exact mU h0 (G5 _ _)
 . show Cd c.c; rw [h0]; exact c5 rfl
theorem B0 (c : Cu) : ∀ (s : List UInt8) (i : Nat), Cd (fD c s i)
 | [], _ => c5 rfl
 | b :: s, i => by
   unfold fD
   repeat' split
   all_goals first
    | exact c5 rfl
    | exact B0 c s _
theorem AZ {c : Cu} (h0 : c.c = 0) (k : UInt8) : Cd (c.fC k).1.c := by
 unfold Cu.fC
 split
 . exact mU h0 (B0 _ _ _)
 . show Cd c.c; rw [h0]; exact c5 rfl
theorem Ik {d : Cu} (h0 : d.c = 0) : Cd d.iA.1.c := by
 have z : Cd d.c := by rw [h0]; exact c5 rfl
 unfold Cu.iA
 repeat' split
 . exact z
 . exact z
 . exact H3 h0
 . exact G4 h0
 . exact AZ h0 _
 . exact AZ h0 _
 . exact mU h0 (c5 rfl)
theorem FW {c : Cu} (h0 : c.c = 0) : Cd c.bF.1.c := by
 unfold Cu.bF
 rw [if_neg (by omega)]
 exact Ik (d := { c with p := dr d6 c.a8 c.p }) h0
theorem jR {c : Cu} (h : c.live) : Cd c.aE := by
 have hs := nr h.1
 unfold Cu.aE
 repeat' split
 . rw [hs.2.1]; exact FW h.2.1
 . exact c5 rfl
 . exact c5 rfl
def CdV (v : VF) : Prop := ∀ t key c, c.live → Cd (v t key c).1
theorem xL {v : VF} (hf : jr v) (hv : CdV v) : ∀ (n : Nat) (t : Tk) (c : Cu) (acc : List Nd), c.live → Cd (er v n t c acc).1
 | 0, _, _, _, _ => by rw [er]; exact c5 rfl
 | n + 1, t, c, acc, hc => by
   rw [er]
   by_cases h1 : (v t [] c).1 ≠ 0
   . rw [if_pos h1]; exact hv _ _ _ hc
   rw [if_neg h1]
   have f1 := hf t [] c hc (by omega)
   by_cases h2 : (v t [] c).2.2.aE ≠ 0
   . rw [if_pos h2]; exact jR f1.live
   rw [if_neg h2]
   obtain ⟨l1, _⟩ := bH f1.live (by omega)
   by_cases h3 : (v t [] c).2.2.next.2.k.toNat = 93
   . rw [if_pos h3]; exact c5 rfl
   rw [if_neg h3]
   by_cases h4 : (v t [] c).2.2.next.2.k.toNat ≠ 44
   . rw [if_pos h4]; exact c5 rfl
   rw [if_neg h4]
   by_cases h5 : (v t [] c).2.2.next.1.aE ≠ 0
   . rw [if_pos h5]; exact jR l1
   rw [if_neg h5]
   obtain ⟨m1, _⟩ := bH l1 (by omega)
   exact xL hf hv n _ _ _ m1
theorem En {v : VF} (hf : jr v) (hv : CdV v) {c : Cu} (hc : c.live) : Cd (aV v c).1 := by
 unfold aV
 by_cases h1 : c.aE ≠ 0
 . rw [if_pos h1]; exact jR hc
 rw [if_neg h1]
 obtain ⟨l1, _⟩ := bH hc (by omega)
 split
 . exact c5 rfl
 . exact xL hf hv _ _ _ _ l1
theorem xR {v : VF} (hf : jr v) (hv : CdV v) : ∀ (n : Nat) (t : Tk) (c : Cu) (ks : List (List UInt8)) (acc : List Nd), c.live → Cd (eP v n t c ks acc).1
 | 0, _, _, _, _, _ => by rw [eP]; exact c5 rfl
 | n + 1, t, c, ks, acc, hc => by
   rw [eP]
   by_cases h0 : cm t c ks ≠ 0
   . rw [if_pos h0]
     show Cd (cm t c ks)
     unfold cm
     repeat' split
     all_goals first
      | exact c5 rfl
      | exact jR hc
      | exact jR (bH hc (by omega)).1
   rw [if_neg h0]
   obtain ⟨_, _, q1, _, q2⟩ := tN (t := t) (ks := ks) hc (by omega)
   obtain ⟨a1, _⟩ := bH hc q1
   obtain ⟨b1, _⟩ := bH a1 q2
   by_cases h1 : (bQ v t c).1 ≠ 0
   . rw [if_pos h1]; exact hv _ _ _ b1
   rw [if_neg h1]
   have f1 : Fit c.next.1.next.1 (bQ v t c) := hf _ _ _ b1 (show (bQ v t c).1 = 0 by omega)
   by_cases h2 : (bQ v t c).2.2.aE ≠ 0
   . rw [if_pos h2]; exact jR f1.live
   rw [if_neg h2]
   obtain ⟨l1, _⟩ := bH f1.live (by omega)
   by_cases h3 : (bQ v t c).2.2.next.2.k.toNat = 125
   . rw [if_pos h3]; exact c5 rfl
   rw [if_neg h3]
   by_cases h4 : (bQ v t c).2.2.next.2.k.toNat ≠ 44
   . rw [if_pos h4]; exact c5 rfl
   rw [if_neg h4]
   by_cases h5 : (bQ v t c).2.2.next.1.aE ≠ 0
   . rw [if_pos h5]; exact jR l1
   rw [if_neg h5]
   obtain ⟨m1, _⟩ := bH l1 (by omega)
   exact xR hf hv n _ _ _ _ m1
theorem Es {v : VF} (hf : jr v) (hv : CdV v) {c : Cu} (hc : c.live) : Cd (aU v c).1 := by
 unfold aU
 by_cases h1 : c.aE ≠ 0
 . rw [if_pos h1]; exact jR hc
 rw [if_neg h1]
 obtain ⟨l1, _⟩ := bH hc (by omega)
 split
 . exact c5 rfl
 . exact xR hf hv _ _ _ _ _ l1
theorem tp : ∀ k, CdV (gv k)
 | 0 => fun t key c hc => by
   rw [gv]
   repeat' split
   all_goals exact c5 rfl
 | k + 1 => fun t key c hc => by
   rw [gv]
   repeat' split
   . exact Es (fM k) (tp k) hc
   . exact En (fM k) (tp k) hc
   all_goals exact c5 rfl
end Go.Proofs.Ytllncocibkgjkaa
namespace Go.Proofs.Ytllncocibkgjkaa
open Go Go.VG
set_option maxRecDepth 100000
noncomputable def cxr (l : List (Nat × Sm)) (p : List (Nat × dC)) (h : List (Nat × List du)) : Ctx := ⟨Try.prog, tt, fu, fun f => lN l f, fun _ _ _ => False, fun r => lkH h r, fun _ => false, fun _ _ _ _ => none, fun f => nk p f, fun _ => false⟩
theorem goodr {l : List (Nat × Sm)} {p : List (Nat × dC)} {hs : List (Nat × List du)} (h : mj l) (hp : OKp p) : bp (cxr l p hs) where
 ti := pG
 mt := fun _ _ _ h => h.elim
 hm := qT
 gam := fun f args sg pre x r h' hp => oY h args sg pre x r h' hp
 del := fun f args sg pre c u r x r2 h' hq => qP hp args sg pre c u r x r2 h' hq
theorem DQ (s : List UInt8) (hp : s.length ≤ 10000000) : OK 24 [.str s] [] (.tuple [.buf 0, .int .i64 (cK s)]) (some [.buf 4 0 ((fW s).map aX)]) := by
 refine Eh (C := cxr [(17, rv)] [(57, jM), (56, gH 32), (58, uc)] [(3, [.cell 3 1 4])]) (goodr ⟨yb, trivial⟩ ⟨lJ, yD 32, Fs, trivial⟩) (gf := 55) (fn := Try.f24) rfl rfl rfl rfl rfl rfl rfl rfl rfl rfl fun hw hs => ?_
 have hc : (Cu.new s).live := ⟨⟨Nat.zero_le _, Nat.le_refl _⟩, rfl, hp⟩
 have hn := fun h => bH hc h
 have hrg : ∀ {n : Int}, Cd n → -9223372036854775808 ≤ n ∧ n ≤ 9223372036854775807 := fun h => ⟨by have := h.1; omega, by have := h.2; omega⟩
 have hnil : ∀ {n : Int}, cK s = n → n ≠ 0 → fW s = [] := fun h h0 => by unfold fW; rw [if_neg (by rw [h]; exact h0)]
 repeat' ((conv => whnf); first | with_reducible refine fL ?_ (fun h => ?_) fun h => ?_ | apply al)
 all_goals try conv => whnf
 all_goals try (refine af.mk ?_; try dsimp only)
 all_goals (try simp only [aO, jY] at *)
 . rfl
 . exact ⟨trivial, hc.1, hc.2.2⟩
 . have e : cK s = (Cu.new s).aE := by unfold cK; rw [if_pos (by assumption)]
   rw [hnil e (by assumption), e]
   refine jW.mk _ (sD _ (hrg (jR hc))) rfl ?_
   refine ah.mk [.cell 0 0 4, .swap 0 6] ?_ <;> (repeat' first | trivial)
 all_goals
  have h0 : ¬ (Cu.new s).aE ≠ 0 := by assumption
  obtain ⟨l1, l2, l3, l4, _⟩ := hn (by omega)
  have hkk := (Cu.new s).next.2.k.toNat_lt
  have le := l1.1
  have he : (Cu.new s).e = s.length := rfl
  have fit := fM 32 (Cu.new s).next.2 [] (Cu.new s).next.1 l1
 . exact ⟨by omega, l1, by decide, ⟨[], rfl⟩, by show 0 + _ + 1 ≤ _; omega⟩
 . have e : cK s = (gv 32 (Cu.new s).next.2 [] (Cu.new s).next.1).1 := by unfold cK; rw [if_neg h0, if_pos (by assumption)]
   rw [hnil e (by assumption), e]
   refine jW.mk _ (sD _ (hrg (tp 32 _ _ _ l1))) rfl ?_
   refine ah.mk [.cell 0 0 4, .swap 0 6] ?_ <;> (repeat' first | trivial)
 all_goals
  have h1 : ¬ (gv 32 (Cu.new s).next.2 [] (Cu.new s).next.1).1 ≠ 0 := by assumption
  have f := fit (by omega)
 . exact ⟨trivial, f.live.1, f.live.2.2⟩
 . have e : cK s = 2 := by unfold cK; rw [if_neg h0, if_neg h1, if_pos (by assumption)]
   rw [hnil e (by decide), e]
   refine jW.mk _ (sD 2 (by decide)) rfl ?_
   refine ah.mk [.cell 0 0 4, .swap 0 6] ?_ <;> (repeat' first | trivial)
 . have e : cK s = 0 := by unfold cK; rw [if_neg h0, if_neg h1, if_neg (by assumption)]
   have el : fW s = (gv 32 (Cu.new s).next.2 [] (Cu.new s).next.1).2.1 := by unfold fW; rw [if_pos e]
   rw [el, e]
   refine jW.mk _ (BG _ ?_) rfl ?_
   . (repeat' first | trivial | rfl | refine And.intro ?_ ?_)
   refine ah.mk [.swap 0 4] ?_ <;> (repeat' first | trivial)
end Go.Proofs.Ytllncocibkgjkaa
namespace Go.Proofs.Ytllncocibkgjkaa
open Go Go.VG
set_option maxRecDepth 100000
theorem GR {d : Nat} {L : List Nd} {x : List UInt8} (h : TT d L x) : iu L = x := by
 have h1 := h.pos.1
 have := h.put [] [] L.length (by simp)
 rw [List.append_nil, List.nil_append] at this
 unfold iu pk
 rw [if_neg (by omega)]
 exact this
theorem sF {g : It → List UInt8} {x : It} : ∀ (l : List It) (i : Nat), x ∈ l → (g x).length ≤ (aC g l i).length
 | [], _, h => by cases h
 | y :: l, i, h => by
   show _ ≤ ((if i = 0 then [] else [44]) ++ (g y ++ aC g l (i + 1))).length
   rw [List.length_append, List.length_append]
   rcases List.mem_cons.1 h with rfl | h
   . omega
   . have := sF (g := g) l (i + 1) h; omega
theorem TT.nb {d : Nat} {L : List Nd} {x : List UInt8} (h : TT d L x) : ∀ z ∈ L, z.t.length ≤ x.length ∧ (z.key.length ≤ x.length ∨ z.key = (gu L).key) := by
 induction h with
 | leaf d k key t h hl =>
   intro z hz
   rw [List.mem_singleton.1 hz]
   refine ⟨?_, .inr rfl⟩
   show t.length ≤ (bG ⟨k, t⟩).length
   rcases h with ⟨q, _⟩ | ⟨q, _⟩ | ⟨_, q⟩ | ⟨_, q⟩
   . dsimp only at q; rw [q]; exact zP t
   . dsimp only at q; rw [q]; exact Nat.le_refl _
   . dsimp only at q; rw [q]; exact Nat.zero_le _
   . dsimp only at q; rw [q]; exact Nat.zero_le _
 | lst d key l h hk ih =>
   intro z hz
   rw [List.length_cons, List.length_append]
   rcases List.mem_cons.1 hz with rfl | hz
   . exact ⟨Nat.zero_le _, .inr rfl⟩
   . obtain ⟨y, hy, hz⟩ := qu hz
     have h1 := ih y hy z hz
     have h2 : y.2.length ≤ (aC bc l 0).length := sF (g := bc) l 0 hy
     have h3 : (gu y.1).key = [] := hk y hy
     refine ⟨by omega, .inl ?_⟩
     rcases h1.2 with k | k
     . omega
     . rw [k, h3]; exact Nat.zero_le _
 | obj d key l h hk ht ih =>
   intro z hz
   rw [List.length_cons, List.length_append]
   rcases List.mem_cons.1 hz with rfl | hz
   . exact ⟨Nat.zero_le _, .inr rfl⟩
   . obtain ⟨y, hy, hz⟩ := qu hz
     have h1 := ih y hy z hz
     have h2 : (aN y).length ≤ (aC aN l 0).length := sF (g := aN) l 0 hy
     have h3 : (aN y).length = (quote (gu y.1).key).length + (1 + y.2.length) := by unfold aN; rw [List.length_append, List.length_append]; rfl
     have h4 := zP (gu y.1).key
     refine ⟨by omega, .inl ?_⟩
     rcases h1.2 with k | k
     . omega
     . rw [k]; omega
end Go.Proofs.Ytllncocibkgjkaa
namespace Go.Proofs.Ytllncocibkgjkaa
open Go Go.VG
set_option maxRecDepth 100000

-- #name r13value truchmanref13.value
end Go.Proofs.Ytllncocibkgjkaa
namespace Go.Proofs.Ytllncocibkgjkaa
open Go Go.VG
set_option maxRecDepth 100000
-- #name r13inner truchmanref13.inner
end Go.Proofs.Ytllncocibkgjkaa
namespace Go.Proofs.Ytllncocibkgjkaa
open Go Go.VG
set_option maxRecDepth 100000
end Go.Proofs.Ytllncocibkgjkaa
namespace Go.Proofs.Ytllncocibkgjkaa
open Go Go.VG
set_option maxRecDepth 100000
end Go.Proofs.Ytllncocibkgjkaa
namespace Go.Proofs.Ytllncocibkgjkaa
open Go Go.VG
set_option maxRecDepth 100000
def vg (R : List UInt8 → Int × List Nd) : Sm := fun args σ => match args, σ with
 | [.str s], [] => some (s.length ≤ 10000000, .tuple [.buf 0, .int .i64 (R s).1], some [eNb (R s).2])
 | _, _ => none
theorem Fa {R : List UInt8 → Int × List Nd} (hR : ∀ s, R s = (cK s, fW s)) : aI 24 (vg R) := by
 intro args sg pre x r he hp
 unfold vg at he
 split at he <;> cases he
 rw [hR]
 exact DQ _ hp
theorem Eu (d : Nat) {c : Cu} (hc : c.live) (t : Tk) (key : List UInt8) (h : (gv d t key c).1 = 0) : (gv d t key c).2.1.length ≤ c.s.length + 1 := by
 have f := fM d t key c hc h
 have h1 := f.len
 obtain ⟨h3, h4⟩ := f.live.1
 rw [f.e] at h3 h4
 rw [f.s] at h4
 omega
theorem Io {s : List UInt8} (h : s.length ≤ 10000000) : (fW s).length ≤ s.length + 1 := by
 unfold fW
 split
 . rename_i h0
   have hc : (Cu.new s).live := ⟨⟨Nat.zero_le _, Nat.le_refl _⟩, rfl, h⟩
   unfold cK at h0
   by_cases h1 : (Cu.new s).aE ≠ 0
   . rw [if_pos h1] at h0; exact absurd h0 h1
   rw [if_neg h1] at h0
   obtain ⟨l1, l2, _⟩ := bH hc (by omega)
   by_cases h2 : (gv 32 (Cu.new s).next.2 [] (Cu.new s).next.1).1 ≠ 0
   . rw [if_pos h2] at h0; exact absurd h0 h2
   have := Eu 32 l1 (Cu.new s).next.2 [] (by omega)
   rw [l2] at this
   exact this
 . exact Nat.zero_le _
end Go.Proofs.Ytllncocibkgjkaa
namespace Go.Proofs.Ytllncocibkgjkaa
open Go Go.VG
set_option maxRecDepth 100000
def ew : List di → Nat
 | [] => 0
 | o :: l => o.text.length + ew l
theorem zz {l : List di} {i : Nat} (h : i < l.length) : ew (l.take (i + 1)) = ew (l.take i) + (l.getD i default).text.length := by
 induction l generalizing i with
 | nil => simp at h
 | cons v r ih =>
   cases i with
   | zero => simp [ew]
   | succ i =>
     have := ih (i := i) (by simpa using h)
     show ew (v :: r.take (i + 1)) = ew (v :: r.take i) + (r.getD i default).text.length
     rw [ew, ew, this]; omega
theorem Gj (l : List di) (i : Nat) : ew (l.take i) ≤ ew l := by
 induction l generalizing i with
 | nil => simp
 | cons v r ih =>
   cases i with
   | zero => simp [ew]
   | succ i => have := ih i; show ew (v :: r.take i) ≤ _; rw [ew, ew]; omega
def opsW (l : List di) : Prop := ∀ i, i < l.length → (0 ≤ (l.getD i default).kind ∧ (l.getD i default).kind ≤ 255) ∧ (-9223372036854775808 ≤ (l.getD i default).n ∧ (l.getD i default).n ≤ 9223372036854775807)
theorem Gk {l : List di} (h : V.cV (l.map eo)) : opsW l := fun i hi => by
 have := AX.1 h (eo (l.getD i default)) (List.mem_map.2 ⟨l.getD i default, by rw [List.getD_eq_getElem?_getD, List.getElem?_eq_getElem hi]; exact List.getElem_mem hi, rfl⟩)
 exact ⟨this.1, this.2.2.1⟩
theorem AW {l : List di} (h : opsW l) : ∀ i, i ≤ l.length → (wA l i).out.length ≤ 6 * ew (l.take i) + 30 * i ∧ (wA l i).l.length ≤ 32
 | 0, _ => by simp [wA, WS.new]
 | i + 1, hi => by
   obtain ⟨a, b⟩ := AW h i (by omega)
   have := Gi (wA l i) (l.getD i default) (h i (by omega)).2
   have := Gg (wA l i) (l.getD i default) b
   rw [vB (by omega), zz (by omega)]
   omega
theorem H7 {x : List UInt8} (h : TG 32 x) (hl : x.length ≤ 10000000) : cK x = 5 ∨ cK x = 8 ∨ (cK x = 0 ∧ iu (fW x) = x ∧ iE (fW x)) := by
 rcases Ip h hl with e | e | ⟨e, t, k⟩
 . exact .inl e
 . exact .inr (.inl e)
 refine .inr (.inr ⟨e, GR t, fun z hz => ?_, by have := Io hl; omega⟩)
 have h5 := t.sz z hz
 have h6 := t.nb z hz
 refine ⟨h5.1, h5.2, ?_, by omega⟩
 rcases h6.2 with q | q
 . omega
 . rw [q, k]; exact Nat.zero_le _
-- #name trPutNil jtree.Put
def vf : Sm := fun args σ => match args, σ with
 | [.list true z [], .list d 4 N], [] => some (jJ N ∧ iE (cL N) ∧ (iu (cL N)).length ≤ 100000000, .buf 0, some [.buf 1 0 (bl (iu (cL N)))])
 | _, _ => none
theorem F9 : aI 28 vf := by
 intro args sg pre x r he hp
 unfold vf at he
 split at he <;> cases he
 exact (DP true _ [] _ ⟨hp.1, hp.2.1, by simpa using hp.2.2⟩).args (cN.cons (Wk.nil (.inl rfl)) (cN.refl _))
theorem DG {R : List UInt8 → Int × List Nd} (hR : ∀ s, R s = (cK s, fW s)) (l : List di) (hp : ew l ≤ 1048576) : OK 9 [.list false 3 (l.map eo)] [] (.bool true) none := by
 refine az (C := cxh [(32, v8), (33, rI), (34, v7), (35, rD), (24, vg R), (28, vf)] [(12, [.dE 3])]) (ax ⟨F4, yn, F3, yi, Fa hR, F9, trivial⟩) (fn := Try.f9) rfl rfl rfl rfl fun hw hs => ?_
 have hwf := Gk hw.1.2
 have hlm : (l.map eo).length = l.length := List.length_map _
 have hinv := (AV l l.length (Nat.le_refl _)).doneT
 have hno := fun h => BO (w := wA l l.length) h
 have hdl : (wA l l.length).done.1.length ≤ (wA l l.length).out.length := by
  unfold WS.done; repeat' split
  . exact Nat.zero_le _
  . exact Nat.zero_le _
  . exact Nat.le_refl _
 have hrf : (wA l l.length).done.1.length ≤ 10000000 → (wA l l.length).done.2 = 0 → (R (wA l l.length).done.1).1 = 5 ∨ (R (wA l l.length).done.1).1 = 8 ∨ ((R (wA l l.length).done.1).1 = 0 ∧ iu (R (wA l l.length).done.1).2 = (wA l l.length).done.1 ∧ iE (R (wA l l.length).done.1).2) := fun h1 h2 => by
  rw [hR]; exact H7 (hinv h2) h1
 have hml : ((R (wA l l.length).done.1).2.map aX).length = (R (wA l l.length).done.1).2.length := List.length_map _
 have hwl := AW hwf
 have htk := Gj l
 clear hinv hR
 repeat' ((conv => whnf); first | apply al | (apply ay <;> intro h))
 all_goals try conv => whnf
 all_goals try (refine af.mk ?_; try dsimp only)
 all_goals (try simp only [jn, cF] at *)
 all_goals try refine stay ?_
 . refine ah.mk [] ?_ <;> (repeat' first | trivial)
 refine cg.mk Nat (fun i => i ≤ l.length) (fun i => ⟨62, [(0, .list false 3 (l.map eo)), (3, .ptr 0 0), (4, .int .i64 i)], [.cells [.buf 1, .buf 2, .bool (wA l i).whole, .int .i64 (wA l i).code, .func (.func 36) [] []], .buf 1 0 (bl (wA l i).out), .buf 3 0 ((wA l i).l.map ef)], [1, 2]⟩) (fun i => l.length - i) [] 0 (Nat.zero_le _) ?_ (fun i hi _ _ => ?_)
 . refine Go.VG.Sub.mk rfl ?_ ?_ ?_ ?_ <;> (repeat' first | trivial)
 have hwi := hwl i hi
 have hti := htk i
 have wn : i < l.length → (aZ (bl (wA l i).out) ((wA l i).l.map ef) (wA l i).whole (wA l i).code).op ⟨(l.getD i default).kind, (l.getD i default).text, (l.getD i default).n⟩ = wA l (i + 1) := fun h => by rw [bA]; exact (vB h).symm
 have htx : i < l.length → (l.getD i default).text.length ≤ 1048576 := fun h => by
  have := zz h
  have := htk (i + 1)
  omega
 repeat' ((conv => whnf); first | apply al | apply bh | ((first | apply ay | apply go9) <;> intro h) | with_reducible apply goF | apply kG)
 all_goals try conv => whnf
 all_goals try (refine af.mk ?_; try dsimp only)
 all_goals (try simp only [jn, cF] at *)
 all_goals first | refine stay ?_ | omega | skip
 . have htx := htx (by omega)
   rw [bA]; exact ⟨trivial, gC (by omega) (by omega), ⟨by omega, by omega⟩, by omega⟩
 . have hlt : i < l.length := by omega
   refine ⟨[], i + 1, by omega, ?_, by omega⟩
   simp only [wn hlt]
   refine Go.VG.Sub.mk rfl ?_ ?_ ?_ ?_ <;> (repeat' first | trivial | apply ak | apply cw)
   (simp (discharger := omega) only [wR]; omega)
 . exact ⟨gC (by omega) (by omega), trivial⟩
 all_goals
  have ei : i = l.length := by omega
  subst ei
  clear wn htx
  simp only [bA, jn] at *
  have hb : (wA l l.length).done.1.length ≤ 10000000 := by omega
 . exact hb
 . rcases hrf hb (by assumption) with q | q | ⟨_, q1, q2⟩
   . omega
   . omega
   . exact ⟨ns, q2, by rw [q1]; omega⟩
 . refine ah.mk [] ?_ <;> (repeat' first | trivial)
 . exfalso
   rcases hrf hb (by assumption) with q | q | ⟨_, q1, q2⟩
   . omega
   . omega
   . exact absurd q1 (by assumption)
 . refine ah.mk [] ?_ <;> (repeat' first | trivial)
 . refine ah.mk [] ?_ <;> (repeat' first | trivial)
 . exfalso
   rcases hrf hb (by assumption) with q | q | ⟨q, _⟩ <;> omega
 . refine ah.mk [] ?_ <;> (repeat' first | trivial)
 . exact absurd (hno (by assumption)) (by assumption)
theorem xm (l : List di) (hp : ew l ≤ 1048576) : OK 9 [.list false 3 (l.map eo)] [] (.bool true) none := DG (R := fun s => (cK s, fW s)) (fun _ => rfl) l hp
end Go.Proofs.Ytllncocibkgjkaa
