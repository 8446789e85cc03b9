/-
  A part of the proof.
-/
import Derived.Test.YtllncocibkgjkaaDoorB
import Derived.Test.YtllncocibkgjkaaDoorVgZC
import Derived.TacticsInMore
import Derived.Test.YtllncocibkgjkaaDoorTRa
import Derived.Test.YtllncocibkgjkaaDoorPText2
import Derived.Test.YtllncocibkgjkaaDoorTRf
import Derived.Test.YtllncocibkgjkaaDoorTRb
import Derived.Test.YtllncocibkgjkaaDoorVRb
import Derived.Test.YtllncocibkgjkaaDoorTRv
set_option linter.unusedSimpArgs false
set_option linter.unusedVariables false
set_option maxHeartbeats 4000000
namespace Go.Proofs.YtllncocibkgjkaaDoor
open Go Go.VG
set_option maxRecDepth 100000
theorem as0' (w : World) : (Instr.typeAssert .nilIface 20 48 true).run Tryd.prog w = .ok (.tuple #[.int .i64 0, .bool false]) w := by rfl
theorem as1' (n : Int) (w : World) : (Instr.typeAssert (.iface 48 (.int .i64 n)) 20 48 true).run Tryd.prog w = .ok (.tuple #[.int .i64 n, .bool true]) w := by rfl
theorem as0 {ev : Operand → Value} {o : Oper} {x : Operand} (ho : o.op = .typeAssert x 20 48 true) (hx : ev x = .nilIface) (w : World) : (execOp ev o).run Tryd.prog w = .ok (.value (.tuple #[.int .i64 0, .bool false])) w := by
 simp only [execOp, ho, hx, Sem.run_bind, as0', Result.andThen_ok, Sem.run_pure]
theorem as1 {ev : Operand → Value} {o : Oper} {x : Operand} {n : Int} (ho : o.op = .typeAssert x 20 48 true) (hx : ev x = .iface 48 (.int .i64 n)) (w : World) : (execOp ev o).run Tryd.prog w = .ok (.value (.tuple #[.int .i64 n, .bool true])) w := by
 simp only [execOp, ho, hx, Sem.run_bind, as1', Result.andThen_ok, Sem.run_pure]
theorem oR {ev : Operand → Value} {o : Oper} {x : Operand} {v : Value} {P : Program} (ho : o.op = .move x ∨ o.op = .assign x) (hx : ev x = v) (w : World) : (execOp ev o).run P w = .ok (.value v) w := by
 rcases ho with ho | ho <;> simp only [execOp, ho, hx, Sem.run_pure]
theorem ta {ev : Operand → Value} {o : Oper} {x : Operand} {i : Nat} {vs : Array Value} {v : Value} {P : Program} (ho : o.op = .extract x i) (hx : ev x = .tuple vs) (hv : vs[i]? = some v) (w : World) : (execOp ev o).run P w = .ok (.value v) w := by
 simp [execOp, ho, hx, Instr.extract, hv]
section
variable {P : Program} {ops : Array Oper} {Q : Exit → Act → List Frame → World → Prop} {i : Nat} {rest : List Nat} {a : Act} {cs : List Frame} {w : World} {o : Oper}
theorem jr {v : Value} (ho : ops[i]? = some o) (hg : o.guard = none) (hx : (execOp a.eval o).run P w = .ok (.value v) w) (h : wpOpsSIn Fence.wide 0 P ops Q rest (a.put o.dst v) cs w) : wpOpsSIn Fence.wide 0 P ops Q (i :: rest) a cs w := by
 unfold wpOpsSIn
 rw [ho]
 refine ⟨fun _ _ => trivial, ?_⟩
 rw [if_pos (by simp [Region.wanted, hg]), hx]
 exact h
theorem K7 {v : Value} {cs' : List Frame} (ho : ops[i]? = some o) (hg : o.guard = none) (hx : (execOp a.eval o).run P w = .ok .recover w) (hc : recoverD cs = some (v, cs')) (h : wpOpsSIn Fence.wide 0 P ops Q rest (a.put o.dst v) cs' w) : wpOpsSIn Fence.wide 0 P ops Q (i :: rest) a cs w := by
 unfold wpOpsSIn
 rw [ho]
 refine ⟨fun _ _ => trivial, ?_⟩
 rw [if_pos (by simp [Region.wanted, hg]), hx]
 show (match recoverD cs with | some (v, cs') => _ | none => _)
 rw [hc]
 exact h
theorem K6 (ho : ops[i]? = some o) (hg : o.guard = none) (hx : (execOp a.eval o).run P w = .ok .recover w) (hc : recoverD cs = none) (h : wpOpsSIn Fence.wide 0 P ops Q rest (a.put o.dst .nilIface) cs w) : wpOpsSIn Fence.wide 0 P ops Q (i :: rest) a cs w := by
 unfold wpOpsSIn
 rw [ho]
 refine ⟨fun _ _ => trivial, ?_⟩
 rw [if_pos (by simp [Region.wanted, hg]), hx]
 show (match recoverD cs with | some (v, cs') => _ | none => _)
 rw [hc]
 exact h
end
theorem Ao (v1 v2 : Value) : [v1, v2].toArray ++ Array.replicate (11 - [v1, v2].toArray.size) undef = #[v1, v2, undef, undef, undef, undef, undef, undef, undef, undef, undef] := by rfl
theorem Cv {v1 v2 y4 y5 y6 y7 y8 : Value} {n : Int} {b : Bool} (hn : -9223372036854775808 ≤ n ∧ n ≤ 9223372036854775807) : ∀ (st : St) (g : ae) (n' : Nat), aq st g [.ptr 0 0, .ptr 1 0] n' [v1, v2] → ∀ t, VR st g (lk [(3, .bool b), (2, .int .i64 n), (1, .ptr 1 0), (0, .ptr 0 0)] t) n' ((#[v1, v2, .int .i64 n, .bool b, y4, y5, y6, y7, y8, undef, undef] : Array Value).getD t undef) := by
 intro st g n' hv t
 obtain ⟨x1, q1, q2⟩ := jy hv (i := 0) rfl
 obtain ⟨x2, q3, q4⟩ := jy hv (i := 1) rfl
 cases q1; cases q3
 match t with
 | 0 => exact q2
 | 1 => exact q4
 | 2 => exact ⟨rfl, hn⟩
 | 3 => rfl
 | t + 4 => trivial
theorem Dc (σ : List O) (hσ : eP σ σ σ.length) : qV Tryd.prog fZ 18 [.ptr 0 0, .ptr 1 0] σ none σ := by
 refine yj (C := cx []) (aG trivial) (cfn := Tryd.f18) (tm := [(3, .bool false), (2, .int .i64 0), (1, .ptr 1 0), (0, .ptr 0 0)]) rfl rfl rfl rfl (fun vs w c₀ cs Q hl hu h => ?_) ?_
 . obtain ⟨v1, v2, rfl⟩ : ∃ v1 v2, vs = [v1, v2] := by
     match vs, hl with
     | [v1, v2], _ => exact ⟨v1, v2, rfl⟩
   rw [show Tryd.f18.ntmps = 11 from rfl] at h ⊢
   rw [Ao]
   apply wpSIn_region
   show wpOpsSIn Fence.wide 0 Tryd.prog _ _ _ _ _ _
   refine K6 rfl rfl rfl (by simp [recoverD, hu, lV]) ?_
   refine jr (v := .tuple #[.int .i64 0, .bool false]) rfl rfl (as0 rfl rfl w) ?_
   refine jr (v := .tuple #[.int .i64 0, .bool false]) rfl rfl (oR (x := .tmp 6) (v := .tuple #[.int .i64 0, .bool false]) (.inl rfl) rfl w) ?_
   refine jr (v := .int .i64 0) rfl rfl (ta (x := .tmp 4) (i := 0) (vs := #[.int .i64 0, .bool false]) (v := .int .i64 0) rfl rfl rfl w) ?_
   refine jr (v := .bool false) rfl rfl (ta (x := .tmp 4) (i := 1) (vs := #[.int .i64 0, .bool false]) (v := .bool false) rfl rfl rfl w) ?_
   refine jr (v := .int .i64 0) rfl rfl (oR (x := .tmp 7) (v := .int .i64 0) (.inr rfl) rfl w) ?_
   refine jr (v := .bool false) rfl rfl (oR (x := .tmp 8) (v := .bool false) (.inr rfl) rfl w) ?_
   have hc0 : c₀ = { c₀ with mode := .returning } := by cases c₀; simp_all [lV]
   rw [hc0]
   refine h _ .returning rfl rfl rfl ?_
   exact Cv (by decide)
 . repeat' ((conv => whnf); apply ai)
   all_goals try conv => whnf
   all_goals try (refine a8.mk ?_; try dsimp only)
   . rfl
   . exact hσ
   . exact Nat.ble_eq_true_of_le (Nat.le_refl _)
theorem tV (n : Int) (hm : -9223372036854775808 ≤ n ∧ n ≤ 9223372036854775807) : qV Tryd.prog fZ 18 [.ptr 0 0, .ptr 1 0] [.cells [.list true 0 []], .cells [.int .i64 0], .dead, .dead, .dead, .buf 1 0 []]
   (some (.iface 48 (.int .i64 n))) [.cells [.list true 0 []], .cells [.int .i64 n], .dead, .dead, .dead, .buf 1 0 []] := by
 refine yj (C := cx []) (aG trivial) (cfn := Tryd.f18) (tm := [(3, .bool true), (2, .int .i64 n), (1, .ptr 1 0), (0, .ptr 0 0)]) rfl rfl rfl rfl (fun vs w c₀ cs Q hl hu h => ?_) ?_
 . obtain ⟨v1, v2, rfl⟩ : ∃ v1 v2, vs = [v1, v2] := by
     match vs, hl with
     | [v1, v2], _ => exact ⟨v1, v2, rfl⟩
   rw [show Tryd.f18.ntmps = 11 from rfl] at h ⊢
   rw [Ao]
   apply wpSIn_region
   show wpOpsSIn Fence.wide 0 Tryd.prog _ _ _ _ _ _
   refine K7 (v := .iface 48 (.int .i64 n)) (cs' := { c₀ with mode := .panicking [{ v := .iface 48 (.int .i64 n), recovered := true }] } :: cs) rfl rfl rfl (by simp [recoverD, hu, lV]) ?_
   refine jr (v := .tuple #[.int .i64 n, .bool true]) rfl rfl (as1 rfl rfl w) ?_
   refine jr (v := .tuple #[.int .i64 n, .bool true]) rfl rfl (oR (x := .tmp 6) (v := .tuple #[.int .i64 n, .bool true]) (.inl rfl) rfl w) ?_
   refine jr (v := .int .i64 n) rfl rfl (ta (x := .tmp 4) (i := 0) (vs := #[.int .i64 n, .bool true]) (v := .int .i64 n) rfl rfl rfl w) ?_
   refine jr (v := .bool true) rfl rfl (ta (x := .tmp 4) (i := 1) (vs := #[.int .i64 n, .bool true]) (v := .bool true) rfl rfl rfl w) ?_
   refine jr (v := .int .i64 n) rfl rfl (oR (x := .tmp 7) (v := .int .i64 n) (.inr rfl) rfl w) ?_
   refine jr (v := .bool true) rfl rfl (oR (x := .tmp 8) (v := .bool true) (.inr rfl) rfl w) ?_
   refine h _ (.panicking [{ v := .iface 48 (.int .i64 n), recovered := true }]) rfl rfl rfl ?_
   exact Cv hm
 . repeat' ((conv => whnf); apply ai)
   all_goals try conv => whnf
   all_goals try (refine a8.mk ?_; try dsimp only)
   . rfl
   . (repeat' first | trivial | rfl | refine And.intro ?_ ?_)
   . rfl
end Go.Proofs.YtllncocibkgjkaaDoor
namespace Go.Proofs.YtllncocibkgjkaaDoor
open Go Go.VG
set_option maxRecDepth 100000
def Cd (n : Int) : Prop := 0 ≤ n ∧ n ≤ 100
theorem cV {n : Int} (h : decide (0 ≤ n ∧ n ≤ 100) = true) : Cd n := by unfold Cd; exact of_decide_eq_true h
theorem u7 (t : List UInt8) : ∀ (n i : Nat) (a : Int), Cd (cA t n i a).2
 | 0, _, _ => by rw [cA]; exact cV rfl
 | n + 1, i, a => by
   rw [cA]
   repeat' split
   all_goals first
    | exact cV rfl
    | exact u7 t n _ _
theorem Iw (t : List UInt8) (i : Nat) (n : Int) : Cd (g9 t i n).2.2 := by
 unfold g9
 repeat' split
 all_goals first
  | exact cV rfl
  | exact u7 _ _ _ _
theorem DD (t : List UInt8) (i : Nat) : Cd (fL t i).2.2 := by
 unfold fL
 repeat' split
 all_goals first
  | exact cV rfl
  | exact u7 _ _ _ _
  | exact Iw _ _ _
theorem Iz (t : List UInt8) (i : Nat) : Cd (dn t i).2.2 := by
 unfold dn
 repeat' split
 all_goals first
  | exact cV rfl
  | exact DD _ _
theorem Bq (t : List UInt8) : ∀ (n i : Nat) (o : List UInt8), Cd (eo t n i o).1
 | 0, _, _ => by rw [eo]; exact cV rfl
 | n + 1, i, o => by
   rw [eo]
   repeat' split
   all_goals first
    | exact cV rfl
    | exact Iz _ _
    | exact Bq t n _ _
theorem o7 {c : Cu} {k : Int} (h0 : c.c = 0) (h : Cd k) : Cd (c.fail k).c := by
 unfold Cu.fail
 rw [if_pos h0]; exact h
theorem J3 {c : Cu} (h0 : c.c = 0) : Cd c.jo.1.c := by
 unfold Cu.jo
 repeat' split
 . exact absurd h0 (by assumption)
 . exact o7 h0 (cV rfl)
 . exact o7 h0 (cV rfl)
 . show Cd c.c; rw [h0]; exact cV rfl
 . exact o7 h0 (Bq _ _ _ _)
theorem v9 (t : List UInt8) (i : Nat) : Cd (dz t i).2 := by
 unfold dz
 repeat' split
 all_goals exact cV rfl
theorem HZ (t : List UInt8) (i : Nat) : Cd (dI t i).2 := by
 have hw : Cd (cj t i).2 := by
  unfold cj; split
  . exact cV rfl
  . exact v9 _ _
 have hb : ∀ x, Cd x.2 → Cd (cT t x).2 := fun x hx => by
  unfold cT; split
  . exact v9 _ _
  . exact hx
 have hp : ∀ x, Cd x.2 → Cd (iK t x).2 := fun x hx => by
  unfold iK; split
  . exact v9 _ _
  . exact hx
 exact hp _ (hb _ hw)
theorem HY {c : Cu} (h0 : c.c = 0) : Cd c.lY.1.c := by
 unfold Cu.lY
 repeat' split
 . exact absurd h0 (by assumption)
 . exact o7 h0 (HZ _ _)
 . show Cd c.c; rw [h0]; exact cV rfl
theorem Cz (c : Cu) : ∀ (s : List UInt8) (i : Nat), Cd (gK c s i)
 | [], _ => cV rfl
 | b :: s, i => by
   unfold gK
   repeat' split
   all_goals first
    | exact cV rfl
    | exact Cz c s _
theorem Cy {c : Cu} (h0 : c.c = 0) (k : UInt8) : Cd (c.gJ k).1.c := by
 unfold Cu.gJ
 split
 . exact o7 h0 (Cz _ _ _)
 . show Cd c.c; rw [h0]; exact cV rfl
theorem Km {d : Cu} (h0 : d.c = 0) : Cd d.kh.1.c := by
 have z : Cd d.c := by rw [h0]; exact cV rfl
 unfold Cu.kh
 repeat' split
 . exact z
 . exact z
 . exact J3 h0
 . exact HY h0
 . exact Cy h0 _
 . exact Cy h0 _
 . exact o7 h0 (cV rfl)
theorem HK {c : Cu} (h0 : c.c = 0) : Cd c.eZ.1.c := by
 unfold Cu.eZ
 rw [if_neg (by omega)]
 exact Km (d := { c with p := eE dS c.a9 c.p }) h0
theorem l5 {c : Cu} (h : c.live) : Cd c.bk := by
 have hs := sv h.1
 unfold Cu.bk
 repeat' split
 . rw [hs.2.1]; exact HK h.2.1
 . exact cV rfl
 . exact cV rfl
def CdV (v : VF) : Prop := ∀ t key c, c.live → Cd (v t key c).1
theorem zl {v : VF} (hf : km v) (hv : CdV v) : ∀ (n : Nat) (t : Tk) (c : Cu) (acc : List Nd), c.live → Cd (gw v n t c acc).1
 | 0, _, _, _, _ => by rw [gw]; exact cV rfl
 | n + 1, t, c, acc, hc => by
   rw [gw]
   by_cases h1 : (v t [] c).1 ≠ 0
   . rw [if_pos h1]; exact hv _ _ _ hc
   rw [if_neg h1]
   have f1 := hf t [] c hc (by omega)
   by_cases h2 : (v t [] c).2.2.bk ≠ 0
   . rw [if_pos h2]; exact l5 f1.live
   rw [if_neg h2]
   obtain ⟨l1, _⟩ := cF f1.live (by omega)
   by_cases h3 : (v t [] c).2.2.next.2.k.toNat = 93
   . rw [if_pos h3]; exact cV rfl
   rw [if_neg h3]
   by_cases h4 : (v t [] c).2.2.next.2.k.toNat ≠ 44
   . rw [if_pos h4]; exact cV rfl
   rw [if_neg h4]
   by_cases h5 : (v t [] c).2.2.next.1.bk ≠ 0
   . rw [if_pos h5]; exact l5 l1
   rw [if_neg h5]
   obtain ⟨m1, _⟩ := cF l1 (by omega)
   exact zl hf hv n _ _ _ m1
theorem FX {v : VF} (hf : km v) (hv : CdV v) {c : Cu} (hc : c.live) : Cd (bV v c).1 := by
 unfold bV
 by_cases h1 : c.bk ≠ 0
 . rw [if_pos h1]; exact l5 hc
 rw [if_neg h1]
 obtain ⟨l1, _⟩ := cF hc (by omega)
 split
 . exact cV rfl
 . exact zl hf hv _ _ _ _ l1
theorem zq {v : VF} (hf : km v) (hv : CdV v) : ∀ (n : Nat) (t : Tk) (c : Cu) (ks : List (List UInt8)) (acc : List Nd), c.live → Cd (gy v n t c ks acc).1
 | 0, _, _, _, _, _ => by rw [gy]; exact cV rfl
 | n + 1, t, c, ks, acc, hc => by
   rw [gy]
   by_cases h0 : dG t c ks ≠ 0
   . rw [if_pos h0]
     show Cd (dG t c ks)
     unfold dG
     repeat' split
     all_goals first
      | exact cV rfl
      | exact l5 hc
      | exact l5 (cF hc (by omega)).1
   rw [if_neg h0]
   obtain ⟨_, _, q1, _, q2⟩ := uY (t := t) (ks := ks) hc (by omega)
   obtain ⟨a1, _⟩ := cF hc q1
   obtain ⟨b1, _⟩ := cF a1 q2
   by_cases h1 : (cL v t c).1 ≠ 0
   . rw [if_pos h1]; exact hv _ _ _ b1
   rw [if_neg h1]
   have f1 : Fit c.next.1.next.1 (cL v t c) := hf _ _ _ b1 (show (cL v t c).1 = 0 by omega)
   by_cases h2 : (cL v t c).2.2.bk ≠ 0
   . rw [if_pos h2]; exact l5 f1.live
   rw [if_neg h2]
   obtain ⟨l1, _⟩ := cF f1.live (by omega)
   by_cases h3 : (cL v t c).2.2.next.2.k.toNat = 125
   . rw [if_pos h3]; exact cV rfl
   rw [if_neg h3]
   by_cases h4 : (cL v t c).2.2.next.2.k.toNat ≠ 44
   . rw [if_pos h4]; exact cV rfl
   rw [if_neg h4]
   by_cases h5 : (cL v t c).2.2.next.1.bk ≠ 0
   . rw [if_pos h5]; exact l5 l1
   rw [if_neg h5]
   obtain ⟨m1, _⟩ := cF l1 (by omega)
   exact zq hf hv n _ _ _ _ m1
theorem G0 {v : VF} (hf : km v) (hv : CdV v) {c : Cu} (hc : c.live) : Cd (bT v c).1 := by
 unfold bT
 by_cases h1 : c.bk ≠ 0
 . rw [if_pos h1]; exact l5 hc
 rw [if_neg h1]
 obtain ⟨l1, _⟩ := cF hc (by omega)
 split
 . exact cV rfl
 . exact zq hf hv _ _ _ _ _ l1
theorem uA : ∀ k, CdV (gv k)
 | 0 => fun t key c hc => by
   rw [gv]
   repeat' split
   all_goals exact cV rfl
 | k + 1 => fun t key c hc => by
   rw [gv]
   repeat' split
   . exact G0 (iz k) (uA k) hc
   . exact FX (iz k) (uA k) hc
   all_goals exact cV rfl
end Go.Proofs.YtllncocibkgjkaaDoor
namespace Go.Proofs.YtllncocibkgjkaaDoor
open Go Go.VG
set_option maxRecDepth 100000
abbrev lv (k : Int) (t : List UInt8) (n b : Int) : V := .agg [.int .u8 k, .str t, .int .i64 n, .int .u64 b, .list true 0 [], .list true 0 []]
theorem tq (k : Int) (t : List UInt8) (n b : Int) : Wk (lv k t n b) (ev (.mk k t n b [] [])) :=
 Wk.agg (aM.cons (Wk.refl _) (aM.cons (Wk.refl _) (aM.cons (Wk.refl _) (aM.cons (Wk.refl _) (aM.cons (Wk.nil (.inl rfl)) (aM.cons (Wk.nil (.inl rfl)) aM.nil))))))
theorem pD (k : Int) (t : List UInt8) (n b : Int) : bW (lv k t n b) = .mk k t n b [] [] := by simp [bW, kt, ku]
theorem rU (k : Int) (t : List UInt8) (n b : Int) : fM (lv k t n b) := by unfold fM; rw [pD]; exact tq k t n b
def wA : ah := .mk 6 [] 0 0 [.mk 3 [] 1 0 [] [], .mk 0 [] 0 0 [] [], .mk 1 [97] 0 0 [] []] []
abbrev lA : V := .agg [.int .u8 6, .str [], .int .i64 0, .int .u64 0, .list true 6 [lv 3 [] 1 0, lv 0 [] 0 0, lv 1 [97] 0 0], .list true 0 []]
theorem tZ : bW lA = wA := by simp [bW, kt, ku, wA]
theorem Ga : fM lA := by
 unfold fM
 rw [tZ]
 refine Wk.agg (aM.cons (Wk.refl _) (aM.cons (Wk.refl _) (aM.cons (Wk.refl _) (aM.cons (Wk.refl _) (aM.cons (Wk.list (.inl rfl) rfl ?_) (aM.cons (Wk.nil (.inl rfl)) aM.nil))))))
 intro i x y hx hy
 match i, hx, hy with
 | 0, hx, hy =>
   cases hx
   have : iT (.mk 3 [] 1 0 [] []) = y := Option.some.inj hy
   subst this; rw [mD]; exact tq 3 [] 1 0
 | 1, hx, hy =>
   cases hx
   have : iT (.mk 0 [] 0 0 [] []) = y := Option.some.inj hy
   subst this; rw [mD]; exact tq 0 [] 0 0
 | 2, hx, hy =>
   cases hx
   have : iT (.mk 1 [97] 0 0 [] []) = y := Option.some.inj hy
   subst this; rw [mD]; exact tq 1 [97] 0 0
 | n + 3, hx, _ => simp at hx
theorem dec1 : fK 1 = [49] := by
 unfold fK
 rw [if_neg (by omega), dec_lt (by decide)]; rfl
theorem Kk : text wA = [91, 49, 44, 110, 117, 108, 108, 44, 34, 97, 34, 93] := by
 simp [text, wA, ah.kind, json, gW, gX, dec1, quote, d5, hJ]
theorem FK : OK 6 [] [] (.bool true) none := by
 refine aI (C := cx [(15, sS), (8, qI), (16, vV)]) (aG ⟨zI, uF, Gi, trivial⟩) (fn := Tryd.f6) rfl rfl rfl rfl fun hw _ => ?_
 repeat' ((conv => whnf); first | with_reducible (first | refine bg (fun j q h => ?_) fun h => ?_ | refine go2 ⟨rfl, rfl⟩ (fun h => ?_) fun j h => ?_ | refine go2 ?_ (fun h => ?_) fun j h => ?_ | refine aL ?_ (fun h => ?_) fun h => ?_) | apply ai | apply aT | apply aw | ((first | apply aj | apply bB | apply bC | apply bm | apply bc) <;> intro h) | with_reducible (first | refine aQ.mk _ rfl ?_ | refine bL ?_ ?_ | refine bM ?_ ?_ | refine bn ?_ fun hc => ?_ | refine bo ?_ fun hc => ?_ | refine aY ?_ fun hc => ?_ | refine b9 ?_ fun hc => ?_ | apply bd | apply bf | refine b6 ?_ fun b hb => ?_) | apply b7 | apply bh | apply bp | apply bq | apply br | apply goN | apply bz | with_reducible refine bA ?_)
 all_goals try conv => whnf
 all_goals try (refine a8.mk ?_; try dsimp only)
 all_goals first | refine stay ?_ | ((refine And.intro (az _) ?_; simp only [aN]; repeat' (refine And.intro ?_ ?_)); all_goals (first | assumption | omega); done) | ((refine And.intro (aH _) ?_; simp only [bU]; repeat' (refine And.intro ?_ ?_)); all_goals (first | assumption | omega); done) | (exact az _) | (exact aH _) | (exact cq _) | trivial | omega | (simp (discharger := omega) only [wR]; omega) | (simp only [ax]; omega) | (simp (discharger := omega) [-List.getD_eq_getElem?_getD, wR] <;> omega) | skip
 . refine ⟨Ga, ?_⟩
   rw [tZ]
   exact ⟨by simp [wA, ah.ok, ec, eh], by simp [wA, ah.size, dK, dq]⟩
 . refine ⟨rU _ _ _ _, ?_⟩
   rw [pD]
   exact ⟨by simp [ah.ok, ec, eh], by simp [ah.size, dK, dq]⟩
 . refine ⟨rU _ _ _ _, ?_⟩
   rw [pD]
   exact ⟨by simp [ah.ok, ec, eh], by simp [ah.size, dK, dq]⟩
 . refine ⟨rU _ _ _ _, ?_⟩
   rw [pD]
   exact ⟨by simp [ah.ok, ec, eh], by simp [ah.size, dK, dq]⟩
 . refine ⟨rU _ _ _ _, ?_⟩
   rw [pD]
   exact ⟨by simp [ah.ok, ec, eh], by simp [ah.size, dK, dq]⟩
 . refine ab.mk [] ?_ <;> (repeat' first | trivial | rfl | exact aV _ _ | apply aa | apply aU | apply ar | apply aK | apply ak | apply aS | apply aW | apply aX | apply aO | apply aJ)
 . exact absurd (by rw [tZ]; exact Kk) h
def x8 : Sm := fun args σ => match args, σ with
 | [], [] => some (True, .bool true, none)
 | _, _ => none
theorem H6 : aE 6 x8 := by
 intro args sg pre x r he hp
 unfold x8 at he
 split at he <;> cases he
 exact FK
end Go.Proofs.YtllncocibkgjkaaDoor
namespace Go.Proofs.YtllncocibkgjkaaDoor
open Go Go.VG
set_option maxRecDepth 100000
noncomputable def cxr (l : List (Nat × Sm)) (p : List (Nat × eS)) (h : List (Nat × List eH)) : Ctx := ⟨Tryd.prog, tt, fZ, fun f => mV l f, fun _ _ _ => False, fun r => lkH h r, fun _ => false, fun _ _ _ _ => none, fun f => oA p f, fun _ => false⟩
theorem goodr {l : List (Nat × Sm)} {p : List (Nat × eS)} {hs : List (Nat × List eH)} (h : nv l) (hp : OKp p) : ct (cxr l p hs) where
 ti := qQ
 mt := fun _ _ _ h => h.elim
 hm := sr
 gam := fun f args sg pre x r h' hp => qf h args sg pre x r h' hp
 del := fun f args sg pre c u r x r2 h' hq => sl hp args sg pre c u r x r2 h' hq
theorem Fm (s : List UInt8) (hp : s.length ≤ 10000000) : OK 7 [.str s] [] (.tuple [.buf 0, .int .i64 (gd s)]) (some [.buf 4 0 ((j0 s).map bX)]) := by
 refine FQ (C := cxr [(17, vZ)] [(20, kU), (19, iL 32), (21, vz)] [(3, [.cell 3 1 4])]) (goodr ⟨Gm, trivial⟩ ⟨mR, zX 32, Hd, trivial⟩) (gf := 18) (fn := Tryd.f7) rfl rfl rfl rfl rfl rfl rfl rfl rfl rfl fun hw hs => ?_
 have hc : (Cu.new s).live := ⟨⟨Nat.zero_le _, Nat.le_refl _⟩, rfl, hp⟩
 have hn := fun h => cF hc h
 have hrg : ∀ {n : Int}, Cd n → -9223372036854775808 ≤ n ∧ n ≤ 9223372036854775807 := fun h => ⟨by have := h.1; omega, by have := h.2; omega⟩
 have hnil : ∀ {n : Int}, gd s = n → n ≠ 0 → j0 s = [] := fun h h0 => by unfold j0; rw [if_neg (by rw [h]; exact h0)]
 repeat' ((conv => whnf); first | with_reducible refine aL ?_ (fun h => ?_) fun h => ?_ | apply ai)
 all_goals try conv => whnf
 all_goals try (refine a8.mk ?_; try dsimp only)
 all_goals (try simp only [bJ, la] at *)
 . rfl
 . exact ⟨trivial, hc.1, hc.2.2⟩
 . have e : gd s = (Cu.new s).bk := by unfold gd; rw [if_pos (by assumption)]
   rw [hnil e (by assumption), e]
   refine l8.mk _ (tV _ (hrg (l5 hc))) rfl ?_
   refine ab.mk [.cell 0 0 4, .swap 0 6] ?_ <;> (repeat' first | trivial)
 all_goals
  have h0 : ¬ (Cu.new s).bk ≠ 0 := by assumption
  obtain ⟨l1, l2, l3, l4, _⟩ := hn (by omega)
  have hkk := (Cu.new s).next.2.k.toNat_lt
  have le := l1.1
  have he : (Cu.new s).e = s.length := rfl
  have fit := iz 32 (Cu.new s).next.2 [] (Cu.new s).next.1 l1
 . exact ⟨by omega, l1, by decide, ⟨[], rfl⟩, by show 0 + _ + 1 ≤ _; omega⟩
 . have e : gd s = (gv 32 (Cu.new s).next.2 [] (Cu.new s).next.1).1 := by unfold gd; rw [if_neg h0, if_pos (by assumption)]
   rw [hnil e (by assumption), e]
   refine l8.mk _ (tV _ (hrg (uA 32 _ _ _ l1))) rfl ?_
   refine ab.mk [.cell 0 0 4, .swap 0 6] ?_ <;> (repeat' first | trivial)
 all_goals
  have h1 : ¬ (gv 32 (Cu.new s).next.2 [] (Cu.new s).next.1).1 ≠ 0 := by assumption
  have f := fit (by omega)
 . exact ⟨trivial, f.live.1, f.live.2.2⟩
 . have e : gd s = 2 := by unfold gd; rw [if_neg h0, if_neg h1, if_pos (by assumption)]
   rw [hnil e (by decide), e]
   refine l8.mk _ (tV 2 (by decide)) rfl ?_
   refine ab.mk [.cell 0 0 4, .swap 0 6] ?_ <;> (repeat' first | trivial)
 . have e : gd s = 0 := by unfold gd; rw [if_neg h0, if_neg h1, if_neg (by assumption)]
   have el : j0 s = (gv 32 (Cu.new s).next.2 [] (Cu.new s).next.1).2.1 := by unfold j0; rw [if_pos e]
   rw [el, e]
   refine l8.mk _ (Dc _ ?_) rfl ?_
   . (repeat' first | trivial | rfl | refine And.intro ?_ ?_)
   refine ab.mk [.swap 0 4] ?_ <;> (repeat' first | trivial)
end Go.Proofs.YtllncocibkgjkaaDoor
namespace Go.Proofs.YtllncocibkgjkaaDoor
open Go Go.VG
set_option maxRecDepth 100000
def qF (k : Nat) : Sm := fun args σ => match args, σ with
 | [x], [] => some (fM x ∧ (bW x).nodes < k ∧ (bW x).nodes ≤ 100000000, .int .i64 (bW x).nodes, none)
 | _, _ => none
theorem BP {k : Nat} (h : ∀ v, v.nodes < k → v.nodes ≤ 100000000 → OK 9 [ev v] [] (.int .i64 v.nodes) none) : aE 9 (qF k) := by
 intro args sg pre x r he hp
 unfold qF at he
 split at he <;> cases he
 exact (h _ hp.2.1 hp.2.2).args (aM.cons hp.1 (aM.refl _))
theorem HT {l : List ah} {i : Nat} (h : i < l.length) : d9 (l.take (i + 1)) = d9 (l.take i) + (l.getD i default).nodes := by
 induction l generalizing i with
 | nil => simp at h
 | cons v r ih =>
   cases i with
   | zero => simp [d9]
   | succ i =>
     have := ih (i := i) (by simpa using h)
     show d9 (v :: r.take (i + 1)) = d9 (v :: r.take i) + (r.getD i default).nodes
     rw [d9, d9, this]; omega
theorem HV {l : List aD} {i : Nat} (h : i < l.length) : cM (l.take (i + 1)) = cM (l.take i) + (l.getD i default).value.nodes := by
 induction l generalizing i with
 | nil => simp at h
 | cons v r ih =>
   cases i with
   | zero => simp [cM, vf]
   | succ i =>
     have := ih (i := i) (by simpa using h)
     show cM (v :: r.take (i + 1)) = cM (v :: r.take i) + (r.getD i default).value.nodes
     rw [cM, cM, this]; omega
theorem AM (l : List ah) (i : Nat) : d9 (l.take i) ≤ d9 l := by
 induction l generalizing i with
 | nil => simp
 | cons v r ih =>
   cases i with
   | zero => simp [d9]
   | succ i => have := ih i; show d9 (v :: r.take i) ≤ _; rw [d9, d9]; omega
theorem AN (l : List aD) (i : Nat) : cM (l.take i) ≤ cM l := by
 induction l generalizing i with
 | nil => simp
 | cons v r ih =>
   cases i with
   | zero => simp [cM]
   | succ i => have := ih i; show cM (v :: r.take i) ≤ _; rw [cM, cM]; omega
theorem HS (l : List ah) : l.length ≤ d9 l := by
 induction l with
 | nil => exact Nat.le_refl _
 | cons v r ih => have := AO v; rw [List.length_cons, d9]; omega
theorem HU (l : List aD) : l.length ≤ cM l := by
 induction l with
 | nil => exact Nat.le_refl _
 | cons v r ih => have := AO v.value; rw [List.length_cons, cM, vf]; omega
theorem De {k : Nat} (h1 : aE 9 (qF k)) (v : ah) (hk : v.nodes < k + 1) (hm : v.nodes ≤ 100000000) : OK 9 [ev v] [] (.int .i64 v.nodes) none := by
 refine aI (C := cx [(9, qF k)]) (aG ⟨h1, trivial⟩) (fn := Tryd.f9) rfl rfl rfl rfl fun hw _ => ?_
 have hv := kP v
 have e1 := nN v.list
 have e2 := lp v.map
 have b1 := HS v.list
 have b2 := HU v.map
 repeat' ((conv => whnf); first | with_reducible (first | refine bg (fun j q h => ?_) fun h => ?_ | refine go2 ⟨rfl, rfl⟩ (fun h => ?_) fun j h => ?_ | refine go2 ?_ (fun h => ?_) fun j h => ?_ | refine aL ?_ (fun h => ?_) fun h => ?_) | apply ai | apply aT | apply aw | ((first | apply aj | apply bB | apply bC | apply bm | apply bc) <;> intro h) | with_reducible (first | refine aQ.mk _ rfl ?_ | refine bL ?_ ?_ | refine bM ?_ ?_ | refine bn ?_ fun hc => ?_ | refine bo ?_ fun hc => ?_ | refine aY ?_ fun hc => ?_ | refine b9 ?_ fun hc => ?_ | apply bd | apply bf | refine b6 ?_ fun b hb => ?_) | apply b7 | apply bh | apply bp | apply bq | apply br | apply goN | apply bz | with_reducible refine bA ?_)
 all_goals try conv => whnf
 all_goals try (refine a8.mk ?_; try dsimp only)
 all_goals (try simp only [ju, dx] at *)
 all_goals first | refine stay ?_ | (exact kb) | trivial | omega | (simp (discharger := omega) only [wR]; omega) | (simp only [ax]; omega) | (simp (discharger := omega) [-List.getD_eq_getElem?_getD, wR] <;> omega) | skip
 refine cB.mk Nat (fun i => i ≤ v.list.length) (fun i => ⟨38, [(1, .ptr 0 0), (3, .int .i64 (1 + d9 (v.list.take i) : Nat)), (4, .int .i64 i)], [.cells (cv v)], []⟩) (fun i => v.list.length - i) [] 0 (Nat.zero_le _) ?_ (fun i hi _ _ => ?_)
 . refine Go.VG.Sub.mk rfl ?_ ?_ ?_ ?_ <;> (repeat' first | trivial | rfl | exact aV _ _ | apply aa | apply aU | apply ar | apply aK | apply ak | apply aS | apply aW | apply aX | apply aO | apply aJ)
   all_goals (simp [d9]; done)
 have hl := AM v.list i
 have hl2 := AM v.list (i + 1)
 have hn := fun h => HT (l := v.list) (i := i) h
 repeat' ((conv => whnf); first | with_reducible (first | refine bg (fun j q h => ?_) fun h => ?_ | refine go2 ⟨rfl, rfl⟩ (fun h => ?_) fun j h => ?_ | refine go2 ?_ (fun h => ?_) fun j h => ?_ | refine aL ?_ (fun h => ?_) fun h => ?_) | apply ai | apply aT | apply aw | ((first | apply aj | apply bB | apply bC | apply bm | apply bc) <;> intro h) | with_reducible (first | refine aQ.mk _ rfl ?_ | refine bL ?_ ?_ | refine bM ?_ ?_ | refine bn ?_ fun hc => ?_ | refine bo ?_ fun hc => ?_ | refine aY ?_ fun hc => ?_ | refine b9 ?_ fun hc => ?_ | apply bd | apply bf | refine b6 ?_ fun b hb => ?_) | apply b7 | apply bh | apply bp | apply bq | apply br | apply goN | apply bz | with_reducible refine bA ?_)
 all_goals try conv => whnf
 all_goals try (refine a8.mk ?_; try dsimp only)
 all_goals (try simp only [ju, dx] at *)
 all_goals first | refine stay ?_ | (exact kb) | trivial | omega | (simp (discharger := omega) only [wR]; omega) | (simp only [ax]; omega) | (simp (discharger := omega) [-List.getD_eq_getElem?_getD, wR] <;> omega) | skip
 . refine ⟨az _, ?_, ?_⟩
   all_goals (have hn := hn (by omega); rw [aN]; omega)
 . have hn := hn (by omega)
   refine ⟨[], i + 1, by omega, ?_, by omega⟩
   rw [aN]
   refine Go.VG.Sub.mk rfl ?_ ?_ ?_ ?_ <;> (repeat' first | trivial | rfl | exact aV _ _ | apply aa | apply aU | apply ar | apply aK | apply ak | apply aS | apply aW | apply aX | apply aO | apply aJ)
   all_goals (first | omega | (simp (discharger := omega) only [wR]; omega) | (simp only [ax]; omega) | (simp (discharger := omega) [-List.getD_eq_getElem?_getD, wR] <;> omega))
 rw [List.take_of_length_le (show v.list.length ≤ i by omega)]
 refine cB.mk Nat (fun j => j ≤ v.map.length) (fun j => ⟨38, [(1, .ptr 0 0), (3, .int .i64 (1 + d9 v.list + cM (v.map.take j) : Nat)), (5, .int .i64 j)], [.cells (cv v)], []⟩) (fun j => v.map.length - j) [] 0 (Nat.zero_le _) ?_ (fun j hj _ _ => ?_)
 . refine Go.VG.Sub.mk rfl ?_ ?_ ?_ ?_ <;> (repeat' first | trivial | rfl | exact aV _ _ | apply aa | apply aU | apply ar | apply aK | apply ak | apply aS | apply aW | apply aX | apply aO | apply aJ)
 have kl := AN v.map j
 have kl2 := AN v.map (j + 1)
 have kn := fun h => HV (l := v.map) (i := j) h
 repeat' ((conv => whnf); first | with_reducible (first | refine bg (fun j q h => ?_) fun h => ?_ | refine go2 ⟨rfl, rfl⟩ (fun h => ?_) fun j h => ?_ | refine go2 ?_ (fun h => ?_) fun j h => ?_ | refine aL ?_ (fun h => ?_) fun h => ?_) | apply ai | apply aT | apply aw | ((first | apply aj | apply bB | apply bC | apply bm | apply bc) <;> intro h) | with_reducible (first | refine aQ.mk _ rfl ?_ | refine bL ?_ ?_ | refine bM ?_ ?_ | refine bn ?_ fun hc => ?_ | refine bo ?_ fun hc => ?_ | refine aY ?_ fun hc => ?_ | refine b9 ?_ fun hc => ?_ | apply bd | apply bf | refine b6 ?_ fun b hb => ?_) | apply b7 | apply bh | apply bp | apply bq | apply br | apply goN | apply bz | with_reducible refine bA ?_)
 all_goals try conv => whnf
 all_goals try (refine a8.mk ?_; try dsimp only)
 all_goals (try simp only [ju, dx] at *)
 all_goals first | refine stay ?_ | (exact kb) | trivial | omega | (simp (discharger := omega) only [wR]; omega) | (simp only [ax]; omega) | (simp (discharger := omega) [-List.getD_eq_getElem?_getD, wR] <;> omega) | skip
 . refine ⟨az _, ?_, ?_⟩
   all_goals (have kn := kn (by omega); rw [aN]; omega)
 . have kn := kn (by omega)
   refine ⟨[], j + 1, by omega, ?_, by omega⟩
   rw [aN]
   refine Go.VG.Sub.mk rfl ?_ ?_ ?_ ?_ <;> (repeat' first | trivial | rfl | exact aV _ _ | apply aa | apply aU | apply ar | apply aK | apply ak | apply aS | apply aW | apply aX | apply aO | apply aJ)
   all_goals (first | omega | (simp (discharger := omega) only [wR]; omega) | (simp only [ax]; omega) | (simp (discharger := omega) [-List.getD_eq_getElem?_getD, wR] <;> omega))
 . rw [List.take_of_length_le (show v.map.length ≤ j by omega), ← hv]
   refine ab.mk [] ?_ <;> (repeat' first | trivial | rfl | exact aV _ _ | apply aa | apply aU | apply ar | apply aK | apply ak | apply aS | apply aW | apply aX | apply aO | apply aJ)
theorem yo : ∀ k : Nat, aE 9 (qF k)
 | 0 => BP fun _ h => by omega
 | k + 1 => BP fun v hk hm => De (yo k) v hk hm
def vQ : Sm := fun args σ => match args, σ with
 | [x], [] => some (fM x ∧ (bW x).nodes ≤ 100000000, .int .i64 (bW x).nodes, none)
 | _, _ => none
theorem Gq : aE 9 vQ := by
 intro args sg pre x r he hp
 unfold vQ at he
 split at he <;> cases he
 rename_i y
 exact yo ((bW y).nodes + 1) [y] [] _ _ _ rfl ⟨hp.1, Nat.lt_succ_self _, hp.2⟩
theorem IS {d : Nat} {L : List Nd} {x : List UInt8} (h : TT d L x) : jm L = x := by
 have h1 := h.pos.1
 have := h.put [] [] L.length (by simp)
 rw [List.append_nil, List.nil_append] at this
 unfold jm qv
 rw [if_neg (by omega)]
 exact this
-- #name trPutNil jtree.Put
def wM : Sm := fun args σ => match args, σ with
 | [.list true z [], .list d 4 N], [] => some (kQ N ∧ jN (dD N) ∧ (jm (dD N)).length ≤ 100000000, .buf 0, some [.buf 1 0 (bl (jm (dD N)))])
 | _, _ => none
theorem GR : aE 10 wM := by
 intro args sg pre x r he hp
 unfold wM at he
 split at he <;> cases he
 exact (Fl true _ [] _ ⟨hp.1, hp.2.1, by simpa using hp.2.2⟩).args (aM.cons (Wk.nil (.inl rfl)) (aM.refl _))
-- #name trReadV jtree.Read
def wN : Sm := fun args σ => match args, σ with
 | [.str s], [] => some (s.length ≤ 10000000, .tuple [.buf 0, .int .i64 (gd s)], some [eNb (j0 s)])
 | _, _ => none
theorem GS : aE 7 wN := by
 intro args sg pre x r he hp
 unfold wN at he
 split at he <;> cases he
 exact Fm _ hp
theorem tX {g : It → List UInt8} {x : It} : ∀ (l : List It) (i : Nat), x ∈ l → (g x).length ≤ (bG g l i).length
 | [], _, h => by cases h
 | y :: l, i, h => by
   show _ ≤ ((if i = 0 then [] else [44]) ++ (g y ++ bG g l (i + 1))).length
   rw [List.length_append, List.length_append]
   rcases List.mem_cons.1 h with rfl | h
   . omega
   . have := tX (g := g) l (i + 1) h; omega
theorem TT.nb {d : Nat} {L : List Nd} {x : List UInt8} (h : TT d L x) : ∀ z ∈ L, z.t.length ≤ x.length ∧ (z.key.length ≤ x.length ∨ z.key = (iA L).key) := by
 induction h with
 | leaf d k key t h hl =>
   intro z hz
   rw [List.mem_singleton.1 hz]
   refine ⟨?_, .inr rfl⟩
   show t.length ≤ (cE ⟨k, t⟩).length
   rcases h with ⟨q, _⟩ | ⟨q, _⟩ | ⟨_, q⟩ | ⟨_, q⟩
   . dsimp only at q; rw [q]; exact Bi t
   . dsimp only at q; rw [q]; exact Nat.le_refl _
   . dsimp only at q; rw [q]; exact Nat.zero_le _
   . dsimp only at q; rw [q]; exact Nat.zero_le _
 | lst d key l h hk ih =>
   intro z hz
   rw [List.length_cons, List.length_append]
   rcases List.mem_cons.1 hz with rfl | hz
   . exact ⟨Nat.zero_le _, .inr rfl⟩
   . obtain ⟨y, hy, hz⟩ := rM hz
     have h1 := ih y hy z hz
     have h2 : y.2.length ≤ (bG cP l 0).length := tX (g := cP) l 0 hy
     have h3 : (iA y.1).key = [] := hk y hy
     refine ⟨by omega, .inl ?_⟩
     rcases h1.2 with k | k
     . omega
     . rw [k, h3]; exact Nat.zero_le _
 | obj d key l h hk ht ih =>
   intro z hz
   rw [List.length_cons, List.length_append]
   rcases List.mem_cons.1 hz with rfl | hz
   . exact ⟨Nat.zero_le _, .inr rfl⟩
   . obtain ⟨y, hy, hz⟩ := rM hz
     have h1 := ih y hy z hz
     have h2 : (bR y).length ≤ (bG bR l 0).length := tX (g := bR) l 0 hy
     have h3 : (bR y).length = (quote (iA y.1).key).length + (1 + y.2.length) := by unfold bR; rw [List.length_append, List.length_append]; rfl
     have h4 := Bi (iA y.1).key
     refine ⟨by omega, .inl ?_⟩
     rcases h1.2 with k | k
     . omega
     . rw [k]; omega
theorem Kw {v : ah} (ho : v.ok) (hc : eU v 0 = 0) (hs : (json v).length ≤ 10000000) (hz : v.nodes ≤ 10000) : gd (json v) = 0 ∧ (j0 (json v)).length = v.nodes ∧ jm (j0 (json v)) = json v ∧ jN (j0 (json v)) := by
 obtain ⟨L, h⟩ := xk v 0 32 [] ho (Int.le_refl 0) hc (by decide)
 obtain ⟨a, b⟩ := Kp h.t h.k hs
 have h5 := h.t.sz
 have h6 := h.t.nb
 rw [b]
 refine ⟨a, h.n, IS h.t, fun z hz => ⟨(h5 z hz).1, (h5 z hz).2, ?_, by have := (h6 z hz).1; omega⟩, by rw [h.n]; omega⟩
 rcases (h6 z hz).2 with k | k
 . omega
 . rw [k, h.k]; exact Nat.zero_le _
mutual
theorem vg : ∀ v : ah, v.nodes ≤ v.size
 | .mk k t n b l m => by
   have h1 := AP l
   have h2 := AQ m
   simp only [ah.nodes, ah.size]; omega
theorem AP : ∀ l : List ah, d9 l ≤ dK l
 | [] => Nat.le_refl _
 | v :: r => by
   have h1 := vg v
   have h2 := AP r
   simp only [d9, dK]; omega
theorem AQ : ∀ l : List aD, cM l ≤ dq l
 | [] => Nat.le_refl _
 | .mk k v :: r => by
   have h1 := vg v
   have h2 := AQ r
   simp only [cM, dq, aD.nodes, aD.size]; omega
end
theorem Fc (v : ah) (hok : v.ok) : OK 3 [ev v] [] (.bool true) none := by
 refine aI (C := cxh [(4, vR), (5, vS), (6, x8), (8, qI), (7, wN), (9, vQ), (10, wM)] [(4, [.eV 1])]) (aG ⟨Ho, k_Chk, H6, uF, GS, Gq, GR, trivial⟩) (fn := Tryd.f3) rfl rfl rfl rfl fun hw _ => ?_
 have hl := uU v 2000
 have hj := pU v hok
 have hnz := vg v
 have hml : ((j0 (json v)).map bX).length = (j0 (json v)).length := List.length_map _
 repeat' ((conv => whnf); first | with_reducible (first | refine bg (fun j q h => ?_) fun h => ?_ | refine go2 ⟨rfl, rfl⟩ (fun h => ?_) fun j h => ?_ | refine go2 ?_ (fun h => ?_) fun j h => ?_ | refine aL ?_ (fun h => ?_) fun h => ?_) | apply ai | apply aT | apply aw | ((first | apply aj | apply bB | apply bC | apply bm | apply bc) <;> intro h) | with_reducible (first | refine aQ.mk _ rfl ?_ | refine bL ?_ ?_ | refine bM ?_ ?_ | refine bn ?_ fun hc => ?_ | refine bo ?_ fun hc => ?_ | refine aY ?_ fun hc => ?_ | refine b9 ?_ fun hc => ?_ | apply bd | apply bf | refine b6 ?_ fun b hb => ?_) | apply b7 | apply bh | apply bp | apply bq | apply br | apply goN | apply bz | with_reducible refine bA ?_)
 all_goals try conv => whnf
 all_goals try (refine a8.mk ?_; try dsimp only)
 all_goals (try simp only [aN, ju] at *)
 all_goals (try simp only [ju, dx] at *)
 all_goals first | refine stay ?_ | (exact kb) | trivial | omega | (simp (discharger := omega) only [wR]; omega) | (simp only [ax]; omega) | (simp (discharger := omega) [-List.getD_eq_getElem?_getD, wR] <;> omega) | skip
 all_goals (try have hf := Kw hok (by assumption) (by omega) (by omega))
 all_goals first
  | exact ⟨az _, by omega⟩
  | exact ⟨az _, by omega, by omega, by omega⟩
  | exact ⟨az _, hok, by omega⟩
  | exact ⟨kb, hf.2.2.2, by rw [hf.2.2.1]; omega⟩
  | (exfalso; first | omega | exact ‹jm _ ≠ json v› hf.2.2.1 | exact ‹¬ gd _ = 0› hf.1)
  | (show ab _ _ _ _ _ _
     refine ab.mk [] ?_ <;> (repeat' first | trivial | rfl | exact aV _ _ | apply aa | apply aU | apply ar | apply aK | apply ak | apply aS | apply aW | apply aX | apply aO | apply aJ)
     )
end Go.Proofs.YtllncocibkgjkaaDoor
