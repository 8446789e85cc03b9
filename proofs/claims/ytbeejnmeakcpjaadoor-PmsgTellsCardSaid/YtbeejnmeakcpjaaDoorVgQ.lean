/-
  Regions whose order is told.
-/
import Derived.Test.YtbeejnmeakcpjaaDoorVgP
import Derived.Lib.SlBytesConst
import Derived.RangeFuncSeq
import Derived.RangeFuncLeaves
import Derived.TacticsIn
set_option linter.unusedSimpArgs false
set_option linter.unusedVariables false
namespace Go.VG
open Go

/-- fences that ask nothing: a plain frame's, a round's -/
def WF (F : Fence) : Prop := F = Fence.wide ∨ ∃ l, F = Fence.wide.inRound l
theorem WF.fn {F : Fence} (h : WF F) (f : FuncId) : F.fn f := by
  rcases h with rfl | ⟨l, rfl⟩ <;> exact trivial
theorem WF.depth {F : Fence} (h : WF F) : F.depth.isSome = true → ∀ n : Nat, 1 ≤ n := by
  rcases h with rfl | ⟨l, rfl⟩ <;> (intro q; simp [Fence.wide, Fence.inRound] at q)
theorem WF.calls {F : Fence} (h : WF F) {n : Nat} {P : Program} {f : FuncId} {args : Array Value} {w : World} {R : Ending → World → Prop} (k : Calls P f args w R) : CallsIn F n P f args w R := by
  rcases h with rfl | ⟨l, rfl⟩
  · exact callsIn_wide.2 k
  · exact (callsIn_wide.2 k : CallsIn Fence.wide n P f args w R)
theorem WF.rows {F : Fence} (h : WF F) {n : Nat} {P : Program} {f : String} {args : Array Value} {w : World} {R : Value → World → Prop} (k : Rows P f args w R) : RowsIn F n P f args w R := by
  intro c cs _
  obtain ⟨v, w', r, s⟩ := k c cs
  refine ⟨v, w', r, ?_⟩
  rcases h with rfl | ⟨l, rfl⟩
  · exact stepsIn_wide.2 s
  · exact stepsIn_wide.2 s
theorem WF.sem {F : Fence} (h : WF F) {o : Oper} {ρ : Operand → Value} (hnd : ∀ c, o.op ≠ .defer c) : o.semAt F.round ρ = execOp ρ o := by
  rcases h with rfl | ⟨l, rfl⟩
  · exact Oper.semAt_none ρ o
  · exact Oper.semAt_some l ρ o hnd
theorem WF.wp {F : Fence} (hF : WF F) {P : Program} {o : Oper} {a : Act} {w : World} {next : Act → World → Prop} {Q : Exit → Act → World → Prop} (hnd : ∀ c, o.op ≠ .defer c) (h : o.wp P a w next Q) : o.wpIn F 0 P a w next Q := by
  refine ⟨fun f _ => hF.fn f, ?_⟩
  rw [hF.sem hnd]
  unfold Oper.wp at h
  revert h
  generalize (execOp a.eval o).run P w = r
  intro h
  unfold Oper.upon at h
  split at h
  · exact h
  · exact h
  · exact h
  · exact ⟨fun q => hF.depth q 0, hF.calls h⟩
  · exact ⟨fun q => hF.depth q 0, hF.rows h⟩
  · exact h
  · exact h.elim
theorem WF.value {F : Fence} (hF : WF F) {P : Program} {o : Oper} {a : Act} {w w1 : World} {v : Value} {next : Act → World → Prop} {Q : Exit → Act → World → Prop} (hnd : ∀ c, o.op ≠ .defer c)
    (hr : (execOp a.eval o).run P w = .ok (.value v) w1) (h : next (a.put o.dst v) w1) : o.wpIn F 0 P a w next Q :=
  hF.wp hnd (by unfold Oper.wp; rw [hr]; exact h)
theorem whenK_iff {b : Bool} {A : Prop} : whenK b A ↔ b = true ∧ A := by cases b <;> simp [whenK]
theorem addN_mem {i : Nat} : ∀ {ks l : List Nat}, memN i (addN ks l) = true ↔ i ∈ ks ∨ memN i l = true
  | [], l => by simp [addN]
  | k :: ks, l => by
    simp only [addN, List.mem_cons]
    cases hk : memN k l with
    | true =>
      simp only [cond_true, addN_mem (ks := ks)]
      constructor
      · rintro (h | h)
        · exact .inl (.inr h)
        · exact .inr h
      · rintro ((rfl | h) | h)
        · exact .inr hk
        · exact .inl h
        · exact .inr h
    | false =>
      simp only [cond_false, memN, Bool.or_eq_true, addN_mem (ks := ks)]
      constructor
      · rintro (h | h | h)
        · exact .inl (.inl (Nat.eq_of_beq_eq_true h))
        · exact .inl (.inr h)
        · exact .inr h
      · rintro ((rfl | h) | h)
        · exact .inl (Nat.beq_refl _)
        · exact .inr (.inl h)
        · exact .inr (.inr h)

theorem GlobOK.mono {gl : Nat → Option (List V)} {st st' : St} (h : GlobOK gl st) (hm : ∀ b o v, st b o = some v → st' b o = some v) : GlobOK gl st' := fun b cs hb g => by
  obtain ⟨vs, h1, h2⟩ := h b cs hb g
  refine ⟨vs, VRs_map hm (fun _ _ hi => absurd hi (Nat.not_lt_zero _)) h1, fun j hj => ?_⟩
  have h3 := h2 j hj
  rw [List.getElem?_eq_getElem hj] at h3 ⊢
  exact hm _ _ _ h3

/-- from one activation to a later one; `kl` tells who may have been struck -/
structure Aft (st : St) (g : Ghost) (s : AS) (st' : St) (g' : Ghost) (s' : AS) : Prop where
  mono : ∀ b o v, st b o = some v → st' b o = some v
  keep : ∀ i, i < s.sg.length → memN i s'.kl = false → g' i = g i
  len : s.sg.length ≤ s'.sg.length
  kl : ∀ i, memN i s.kl = true → memN i s'.kl = true

theorem Aft.refl {st : St} {g : Ghost} {s : AS} : Aft st g s st g s := ⟨fun _ _ _ h => h, fun _ _ _ => rfl, Nat.le_refl _, fun _ h => h⟩
theorem Aft.trans {st st' st'' : St} {g g' g'' : Ghost} {s s' s'' : AS} (h : Aft st g s st' g' s') (k : Aft st' g' s' st'' g'' s'') : Aft st g s st'' g'' s'' where
  mono := fun _ _ _ hv => k.mono _ _ _ (h.mono _ _ _ hv)
  keep := fun i hi hm => by
    rw [k.keep i (Nat.lt_of_lt_of_le hi h.len) hm]
    refine h.keep i hi ?_
    cases hb : memN i s'.kl with
    | false => rfl
    | true => rw [k.kl i hb] at hm; cases hm
  len := Nat.le_trans h.len k.len
  kl := fun i hi => k.kl i (h.kl i hi)

theorem Bas.aft {st : St} {g : Ghost} {s : AS} {n : Nat} {st0 st' : St} {g0 g' : Ghost} {s' : AS} (B : Bas n st0 g0 st g s) (A : Aft st g s st' g' s') : Bas n st0 g0 st' g' s' where
  mono := fun _ _ _ h => A.mono _ _ _ (B.mono _ _ _ h)
  keep := fun i hi hm => by
    rw [A.keep i (Nat.lt_of_lt_of_le hi B.len) hm]
    refine B.keep i hi ?_
    cases hb : memN i s.kl with
    | false => rfl
    | true => rw [A.kl i hb] at hm; cases hm
  len := Nat.le_trans B.len A.len
/-- what the calls of yield do -/
def YieldsOK (C : Ctx) (E : Env) (n : Nat) (st0 : St) (g0 : Ghost) : Prop := ∀ l, YieldSem C E n st0 g0 l (C.yd l)
theorem WF.yields {F : Fence} (hF : WF F) {P : Program} {l : Nat} {args : Array Value} {w : World} {R : Ending → World → Prop} (h : YieldAt Fence.wide 0 P l args w R) : YieldAt F 0 P l args w R := by
  rcases hF with rfl | ⟨k, rfl⟩
  · exact h
  · exact h
theorem YieldsOK.none {C : Ctx} {E : Env} {n : Nat} {st0 : St} {g0 : Ghost} (h : C.yd = fun _ _ _ _ => none) : YieldsOK C E n st0 g0 := fun l args s pre x sg' ks hy => by simp only [h] at hy; cases hy
section
variable {C : Ctx} {E : Env} {st : St} {g : Ghost} {s : AS} {a : Act} {w : World} {o : Oper} {e : Ef}

theorem Aft.app {st' : St} {g' : Ghost} {d : Option Nat} (A : After E st g s.sg.length st' g' (s.app d e).sg.length e.ks) : Aft st g s st' g' (s.app d e) where
  mono := A.mono
  keep := fun i hi hm => A.keep i hi (by
    cases hb : memN i e.ks with
    | false => rfl
    | true =>
      have : memN i (addN e.ks s.kl) = true := addN_mem.2 (.inl (memN_iff.1 hb))
      simp only [AS.app] at hm
      rw [this] at hm; cases hm)
  len := A.len
  kl := fun i hi => addN_mem.2 (.inr hi)

/-- what is to be kept on the way -/
def Go (C : Ctx) (E : Env) (st : St) (g : Ghost) (s : AS) (s' : AS) (a' : Act) (w' : World) : Prop := ∃ st' g', Rel E st' g' s' a' w' ∧ GlobOK C.gl st' ∧ Aft st g s st' g' s'

theorem Go.trans {st' : St} {g' : Ghost} {s' s'' : AS} {a'' : Act} {w'' : World} (A : Aft st g s st' g' s') (h : Go C E st' g' s' s'' a'' w'') : Go C E st g s s'' a'' w'' := by
  obtain ⟨st2, g2, R, hg, B⟩ := h
  exact ⟨st2, g2, R, hg, A.trans B⟩

theorem ev_step (R : Rel E st g s a w) (hg : GlobOK C.gl st) (hd : dstOk s o.dst = true) (h : OpOK C E st g s a w o e) {next : Act → World → Prop} {Q : Exit → Act → World → Prop}
    (hn : ∀ a' w', Go C E st g s (s.app o.dst e) a' w' → next a' w') : o.wp C.P a w next Q :=
  h next Q fun st' g' w' v A W hv => hn _ _ ⟨st', g', R.app hd A W hv, hg.mono A.mono, Aft.app A⟩

theorem Rel.lit (R : Rel E st g s a w) {t : Nat} {x : V} (h : lk s.tm t = x) : Rel E st g (s.app (some t) (pe x)) a w where
  nt := R.nt
  df := R.df
  wr := by rw [app_pe]; exact R.wr
  tm := fun u => by
    rw [app_pe]
    simp only [AS.app, pe, killIfTm, lk]
    cases hb : Nat.beq t u with
    | true =>
      have := Nat.eq_of_beq_eq_true hb
      subst this
      have := R.tm t
      rw [h] at this
      exact this
    | false => exact R.tm u

theorem put_undef (R : Rel E st g s a w) (hd : dstOk s o.dst = true) : Rel E st g (s.app o.dst (pe (.tuple []))) (a.put o.dst undef) w := by
  refine R.app hd ⟨fun _ _ _ h => h, fun _ _ _ => rfl, ?_⟩ ?_ ?_
  · rw [app_pe]; exact Nat.le_refl _
  · rw [app_pe]; exact R.wr
  · simp [pe, VR, VRs, undef]
theorem Aft.pe {d : Option Nat} {x : V} : Aft st g s st g (s.app d (pe x)) where
  mono := fun _ _ _ h => h
  keep := fun _ _ _ => rfl
  len := by rw [app_pe]; exact Nat.le_refl _
  kl := fun i hi => by simpa [AS.app, VG.pe, addN] using hi

theorem yielded_bool {ops : Array Oper} {j t : Nat} {b : Bool} (R : Rel E st g s a w) (ht : dstAt ops.toList j = some t) (h : lk s.tm t = .bool b) : yielded ops a.tmps j = some b := by
  have h1 : ∀ (l : List Oper) (j t : Nat), dstAt l j = some t → (l[j]?).bind (·.dst) = some t := by
    intro l
    induction l with
    | nil => intro j t h; simp [dstAt] at h
    | cons o l ih => intro j t h; cases j with
      | zero => simpa [dstAt] using h
      | succ j => simpa using ih j t (by simpa [dstAt] using h)
  have h2 := h1 _ _ _ ht
  have h3 : (ops[j]?).bind (·.dst) = some t := by rw [← Array.getElem?_toList]; exact h2
  have h4 := R.tm t
  rw [h] at h4
  simp only [VR] at h4
  unfold yielded
  rw [h3]
  simp only [Option.bind_some]
  rcases Nat.lt_or_ge t a.tmps.size with h5 | h5
  · rw [Array.getElem?_eq_getElem h5]
    have : a.tmps.getD t undef = a.tmps[t] := by simp [Array.getD, h5]
    rw [this] at h4
    rw [h4]
  · have : a.tmps.getD t undef = undef := by simp [Array.getD, Nat.not_lt.2 h5]
    rw [this] at h4
    simp [undef] at h4

theorem yielded_none {ops : Array Oper} {j t : Nat} (R : Rel E st g s a w) (ht : dstAt ops.toList j = some t) (h : lk s.tm t = .tuple []) : yielded ops a.tmps j = none := by
  have h1 : ∀ (l : List Oper) (j t : Nat), dstAt l j = some t → (l[j]?).bind (·.dst) = some t := by
    intro l
    induction l with
    | nil => intro j t h; simp [dstAt] at h
    | cons o l ih => intro j t h; cases j with
      | zero => simpa [dstAt] using h
      | succ j => simpa using ih j t (by simpa [dstAt] using h)
  have h2 := h1 _ _ _ ht
  have h3 : (ops[j]?).bind (·.dst) = some t := by rw [← Array.getElem?_toList]; exact h2
  have h4 := R.tm t
  rw [h] at h4
  simp only [VR, VRs] at h4
  obtain ⟨vs, h4, h6⟩ := h4
  unfold yielded
  rw [h3]
  simp only [Option.bind_some]
  rcases Nat.lt_or_ge t a.tmps.size with h5 | h5
  · rw [Array.getElem?_eq_getElem h5]
    have : a.tmps.getD t undef = a.tmps[t] := by simp [Array.getD, h5]
    rw [this] at h4
    rw [h4]
  · rw [Array.getElem?_eq_none h5]

/-- back from a call -/
theorem Rel.back {st' : St} {g' : Ghost} {w' : World} {x : V} {sg' : List O} {ks : List Nat} {v : Value} {d : Option Nat} (R : Rel E st g s a w) (hd : dstOk s d = true) (A : After E st g s.sg.length st' g' sg'.length ks)
    (W : WRel E st' g' sg' w') (hv : VR st' g' x sg'.length v) : Rel E st' g' (s.back d x sg' ks) (a.put d v) w' ∧ Aft st g s st' g' (s.back d x sg' ks) := by
  refine ⟨⟨?_, ?_, fun t => ?_, W⟩, ⟨A.mono, fun i hi hm => A.keep i hi ?_, A.len, fun i hi => addN_mem.2 (.inr hi)⟩⟩
  · cases d with
    | none => exact R.nt
    | some d => simp [Act.put, AS.back, R.nt]
  · cases d <;> exact R.df
  · cases d with
    | none =>
      have h1 : lk (s.back none x sg' ks).tm t = (lk s.tm t).kill ks := by simp only [AS.back]; exact lk_killIf _ _ _
      rw [h1]
      exact VR_after A (R.tm t)
    | some d =>
      have hlt : d < s.nt := by simpa [dstOk] using hd
      have h1 : lk (s.back (some d) x sg' ks).tm t = cond (Nat.beq d t) x ((lk s.tm t).kill ks) := by simp only [AS.back, lk]; rw [lk_killIf]
      rw [h1]
      by_cases hdt : d = t
      · subst hdt
        rw [show Nat.beq d d = true from Nat.beq_refl d]
        simp only [cond_true, Act.put]
        rw [show (a.tmps.setIfInBounds d v).getD d undef = v by simp [R.nt, hlt]]
        exact hv
      · rw [show Nat.beq d t = false from by cases hb : Nat.beq d t with | false => rfl | true => exact absurd (Nat.eq_of_beq_eq_true hb) hdt]
        simp only [cond_false, Act.put]
        rw [show (a.tmps.setIfInBounds d v).getD t undef = a.tmps.getD t undef by simp [hdt]]
        exact VR_after A (R.tm t)
  · cases hb : memN i ks with
    | false => rfl
    | true =>
      have : memN i (addN ks s.kl) = true := addN_mem.2 (.inl (memN_iff.1 hb))
      simp only [AS.back] at hm
      rw [this] at hm; cases hm

theorem go_nodefer {K : Ef → AS → Prop} {U : AS → V → List O → List Nat → Prop} (h : evStep0.go C o K U s) : ∀ c, o.op ≠ .defer c := fun c hc => by
  unfold evStep0.go at h
  rw [hc] at h
  simp only [evOp, hc, fail] at h
theorem ev_go {F : Fence} (hF : WF F) {n0 : Nat} {st0 : St} {g0 : Ghost} (hY : YieldsOK C E n0 st0 g0) (B : Bas n0 st0 g0 st g s) {K : AS → Prop} {U : AS → V → List O → List Nat → Prop} (R : Rel E st g s a w) (hg : GlobOK C.gl st) (G : GoodG C) (hd : dstOk s o.dst = true) (h : evStep0.go C o (fun _ => K) U s)
    {next : Act → World → Prop} {Q : Exit → Act → World → Prop} (hK : ∀ s' a' w', K s' → Go C E st g s s' a' w' → next a' w')
    (hU : ∀ x sg ks a' w', U s x sg ks → Go C E st g s (s.back o.dst x sg ks) a' w' → next a' w') : o.wpIn F 0 C.P a w next Q := by
  have hnd := go_nodefer h
  have hop : (evOp C s o fun e => appK s o.dst e K) → o.wpIn F 0 C.P a w next Q := fun h => by
    obtain ⟨e, h1, h2⟩ := evOp_fn C s o _ h
    rw [appK_eq] at h1
    have h3 := s_op R hg G e (h2 _ rfl)
    exact hF.wp hnd (ev_step R hg hd h3 fun a' w' hgo => hK _ a' w' h1 hgo)
  unfold evStep0.go at h
  split at h
  · rename_i c hc
    split at h
    · rename_i f args ht
      have hval : ∃ x first captured, c.callee = .value x ∧ s.ev C x = .func (.func f) first captured ∧ args = first ++ s.evs C c.args.toList ++ captured := by
        unfold target at ht
        split at ht
        · rename_i x hx
          split at ht
          · rename_i g' first captured hf
            cases ht
            exact ⟨x, first, captured, hx, hf, rfl⟩
          · cases ht
        · cases ht
      obtain ⟨x, first, captured, hx1, hx2, rfl⟩ := hval
      obtain ⟨vs, hv1, hv2⟩ := s_value (c := c) R hg hx1 hx2
      split at h
      · rename_i pre e he
        obtain ⟨hpre, h⟩ := h
        rw [forceEf_eq, appK_eq] at h
        have h3 := s_call (o := o) R hg G (hv2 o hc) hv1 he hpre
        exact hF.wp hnd (ev_step R hg hd h3 fun a' w' hgo => hK _ a' w' h hgo)
      · obtain ⟨hck, hcall⟩ := h
        refine hF.wp hnd ?_
        unfold Oper.wp
        rw [hv2 o hc hck]
        refine Calls.mono (hcall E st g w vs R.wr hg hv1) ?_
        rintro en w' ⟨v, x, sg', ks, st', g', rfl, W, hv, A, hk⟩
        obtain ⟨R', A'⟩ := R.back hd A W hv
        exact hU _ _ _ _ _ hk ⟨st', g', R', hg.mono A.mono, A'⟩
    · split at h
      · rename_i l args hy
        split at h
        · rename_i pre x sg' ks hyd
          obtain ⟨hpre, h⟩ := h
          have hval : ∃ x, c.callee = .value x ∧ s.ev C x = .func (.yield l) [] [] ∧ args = s.evs C c.args.toList := by
            unfold yieldOf at hy
            split at hy
            · rename_i x hx
              split at hy
              · rename_i l' hf
                cases hy
                exact ⟨x, hx, hf, rfl⟩
              · cases hy
            · cases hy
          obtain ⟨f, hx1, hx2, rfl⟩ := hval
          have hfv := ev_ok (C := C) R hg f
          rw [hx2] at hfv
          simp only [VR] at hfv
          obtain ⟨fa, fb, hf1, hf2, hf3⟩ := hfv
          simp only [VRs] at hf2 hf3
          have hvs := evs_ok (C := C) R hg c.args.toList
          obtain ⟨fn, tmps, assign, body, hrun, hround⟩ := hF.yields (hY l _ _ _ _ _ _ hyd hpre st g w _ R.wr hg hvs B)
          refine ⟨fun f _ => hF.fn f, ?_⟩
          rw [hF.sem hnd]
          have he : (execOp a.eval o).run C.P w = .ok (.round l fn tmps assign body) w := by
            have e1 : fa ++ c.args.map a.eval ++ fb = (c.args.toList.map a.eval).toArray := by
              apply Array.ext'; simp [hf2, hf3]
            have hx : a.eval f = .func (.yield l) fa fb := hf1
            simp only [execOp, hc, resolve, hx1, hx, Sem.run_bind]
            show (Sem.run C.P (Deferred.ofValue _ _) w).andThen _ = _
            simp only [Deferred.ofValue, Sem.run_pure, Result.andThen_ok, invoke]
            have hfb : fb = #[] := by apply Array.ext'; simpa using hf3
            rw [← hrun, ← e1, hfb, Array.append_empty]
          rw [he, Oper.uponIn_round]
          refine ⟨fun q => hF.depth q 0, RoundIn.mono hround ?_⟩
          rintro en w' ⟨v, st', g', rfl, W, hv, A⟩
          obtain ⟨R', A'⟩ := R.back hd A W hv
          exact hU _ _ _ _ _ h ⟨st', g', R', hg.mono A.mono, A'⟩
        · exact h.elim
      · exact hop h
  · rename_i x hx
    obtain ⟨e, h1, h3⟩ := s_nextM R hg hx h
    exact hF.wp hnd (ev_step R hg hd h3 fun a' w' hgo => hK _ a' w' h1 hgo)
  · exact hop h

theorem litNext_some {ops : List Oper} {rest : List Oper} {d d2 : Nat} (h : litNext C ops o rest = some (d, d2)) :
    ∃ t len parts e o2 rest2, o.op = .buildSlice t len parts ∧ o.dst = some d ∧ rest = o2 :: rest2 ∧ o2.op = .convert t t (.tmp d) ∧ o2.dst = some d2 ∧ (C.ti t).k = .slice e ∧ (C.ti e).k = .int .u8 ∧
      o2.guard = o.guard ∧ (∀ j x, o.guard = some (j, x) → ∃ u, dstAt ops j = some u ∧ u ≠ d) ∧ C.lits d = false := by
  unfold litNext at h
  split at h
  · rename_i t len parts d0 o2 rest2 h1 h2
    split at h
    · rename_i a b d' d20 e h4 h5 h6
      split at h
      · rename_i h7
        cases hb : (Nat.beq a t && Nat.beq b t && Nat.beq d0 d' && !C.lits d0) with
        | false => rw [hb] at h; simp at h
        | true =>
          rw [hb] at h
          simp only [cond_true, Bool.and_eq_true, Bool.not_eq_true'] at h hb
          obtain ⟨⟨⟨e1, e2⟩, e3⟩, e4⟩ := hb
          have e1 := Nat.eq_of_beq_eq_true e1; have e2 := Nat.eq_of_beq_eq_true e2; have e3 := Nat.eq_of_beq_eq_true e3
          subst e1; subst e2; subst e3
          split at h
          · rename_i g1 g2
            cases h
            exact ⟨_, len, parts, e, o2, rest2, h1, h2, rfl, h4, h5, h6, h7, by rw [g1, g2], fun j x hj => by (rw [g1] at hj; cases hj), e4⟩
          · rename_i j x j' x' g1 g2
            split at h
            · rename_i u hu
              cases hc : (Nat.beq j j' && Bool.and (x == x') (!Nat.beq u d0)) with
              | false => rw [hc] at h; simp at h
              | true =>
                rw [hc] at h
                simp only [cond_true, Option.some.injEq, Prod.mk.injEq] at h
                obtain ⟨rfl, rfl⟩ := h
                simp only [Bool.and_eq_true, Bool.not_eq_true', beq_iff_eq] at hc
                obtain ⟨f1, f2, f3⟩ := hc
                have f1 := Nat.eq_of_beq_eq_true f1
                subst f1; subst f2
                refine ⟨_, len, parts, e, o2, rest2, h1, h2, rfl, h4, h5, h6, h7, by rw [g1, g2], fun j' x' hj => ?_, e4⟩
                rw [g1] at hj; cases hj
                exact ⟨u, hu, fun e => by subst e; simp at f3⟩
            · cases h
          · cases h
      · cases h
    · cases h
  · cases h

theorem yielded_put {ops : Array Oper} {j u d : Nat} {v : Value} (hu : dstAt ops.toList j = some u) (hne : u ≠ d) : yielded ops (a.put (some d) v).tmps j = yielded ops a.tmps j := by
  have h1 : ∀ (l : List Oper) (j t : Nat), dstAt l j = some t → (l[j]?).bind (·.dst) = some t := by
    intro l
    induction l with
    | nil => intro j t h; simp [dstAt] at h
    | cons o l ih => intro j t h; cases j with
      | zero => simpa [dstAt] using h
      | succ j => simpa using ih j t (by simpa [dstAt] using h)
  have h3 : (ops[j]?).bind (·.dst) = some u := by rw [← Array.getElem?_toList]; exact h1 _ _ _ hu
  unfold yielded
  rw [h3]
  simp only [Option.bind_some, Act.put]
  rw [Array.getElem?_setIfInBounds_ne (Ne.symm hne)]

theorem lk_app_pe {s : AS} {d : Nat} {x : V} : lk (s.app (some d) (pe x)).tm d = x := by simp [AS.app, pe, lk]
theorem put_app {s : AS} {d : Nat} {x : V} : s.put (some d) x = s.app (some d) (pe x) := by
  simp [AS.put, AS.app, pe, killIfTm, killIfSg, updSg, addSg, addN]

/-- a text's bytes, written out -/
theorem lit_run (R : Rel E st g s a w) (hg : GlobOK C.gl st) (G : GoodG C) {o2 : Oper} {t len d d2 : Nat} {parts : Array (Nat × Operand)} {e : TypeId} (h1 : o.op = .buildSlice t len parts) (h2 : o.dst = some d)
    (hnl : C.lits d = false) (h4 : o2.op = .convert t t (.tmp d)) (h6 : (C.ti t).k = .slice e) (h7 : (C.ti e).k = .int .u8) {F : Bool → AS → Prop} {U : AS → V → List O → List Nat → Prop} (hd : dstOk s o.dst = true)
    (h : evStep0.go C o (fun _ s' => copyK s' (some (d, d2)) F) U s) : ∃ v w1 w2 s'', (execOp a.eval o).run C.P w = .ok (.value v) w1 ∧ (execOp (a.put (some d) v).eval o2).run C.P w1 = .ok (.value v) w2 ∧
      Go C E st g s s'' ((a.put (some d) v).put (some d2) v) w2 ∧ F true s'' := by
  have hop : evOp C s o fun e => appK s o.dst e fun s' => copyK s' (some (d, d2)) F := by
    unfold evStep0.go at h
    rw [h1] at h
    exact h
  obtain ⟨ef, k1, k2⟩ := evOp_fn C s o _ hop
  rw [appK_eq] at k1
  have k3 := k2 (fun b => b = ef) rfl
  have k4 : evBuildSlice C s t len parts fun b => b = ef := by
    have k3 := k3; simp only [evOp, h1, h2, evBS, hnl, cond_false] at k3; exact k3
  obtain ⟨x, e', cells, rfl, q1, q2, q3, _⟩ := buildSlice_run R hg G.toGood h1 ef k4
  have hu := ((G.toGood.ti t).of (by rw [h6]; simp)).1
  rw [h6] at hu
  have hu : C.P.underlying t = some (.slice e) := hu
  rw [hu] at q1; cases q1
  have hue := ((G.toGood.ti e).of (by rw [h7]; simp)).1
  rw [h7] at hue
  have hue : C.P.underlying e = some (.int .u8) := hue
  rw [h2] at k1 hd
  unfold copyK at k1
  simp only [forceD_eq] at k1
  obtain ⟨k5, k6⟩ := whenK_iff.1 k1
  rw [lk_app_pe, put_app] at k6
  have hlt : d < s.nt := by simpa [dstOk] using hd
  have hs2 : (a.put (some d) (.slice (some ⟨w.heap.size, 0, none⟩) len len)).eval (.tmp d) = .slice (some ⟨w.heap.size, 0, none⟩) len len := by
    show (a.tmps.setIfInBounds d _).getD d undef = _
    simp [R.nt, hlt]
  have hr2 : (execOp (a.put (some d) (.slice (some ⟨w.heap.size, 0, none⟩) len len)).eval o2).run C.P (w.alloc (.cells cells e)) = .ok (.value (.slice (some ⟨w.heap.size, 0, none⟩) len len)) (w.alloc (.cells cells e (cells.size, cells.size + 1))) := by
    simp only [execOp, h4, hs2]
    rw [Sem.run_bind, Lib.run_convert_bytes_const w t e cells len len hu hue]
    rfl
  have R1 : Rel E (addSt st w.heap.size cells cells.size) g (s.app (some d) (pe x)) (a.put (some d) (.slice (some ⟨w.heap.size, 0, none⟩) len len)) (w.alloc (.cells cells e (cells.size, cells.size + 1))) :=
    R.app hd ⟨addSt_mono R.wr.st_new, fun _ _ _ => rfl, by rw [app_pe]; exact Nat.le_refl _⟩ (by rw [app_pe]; exact R.wr.allocSt cells e _ cells.size) (by rw [app_pe]; exact q3)
  have R2 := R1.app (d := some d2) (e := pe x) (v := .slice (some ⟨w.heap.size, 0, none⟩) len len) k5 ⟨fun _ _ _ h => h, fun _ _ _ => rfl, by rw [app_pe]; exact Nat.le_refl _⟩ (by rw [app_pe]; exact R1.wr) (by rw [app_pe, app_pe]; exact q3)
  refine ⟨_, _, _, _, q2, hr2, ⟨_, g, R2, hg.mono (addSt_mono R.wr.st_new), ?_⟩, k6⟩
  exact Aft.trans (s' := s.app (some d) (pe x)) (st' := addSt st w.heap.size cells cells.size) (g' := g) ⟨addSt_mono R.wr.st_new, fun _ _ _ => rfl, by rw [app_pe]; exact Nat.le_refl _, fun i hi => addN_mem.2 (.inr hi)⟩ Aft.pe

theorem ops_sound {F : Fence} (hF : WF F) {E : Env} {n0 : Nat} {st0 : St} {g0 : Ghost} (hY : YieldsOK C E n0 st0 g0) (G : GoodG C) {ops : Array Oper} {Q : Exit → Act → World → Prop} {K : AS → Prop} : ∀ (n : Nat) (rest : List Oper), rest.length ≤ n → ∀ (s : AS) (st : St) (g : Ghost) (a : Act) (w : World), Rel E st g s a w → GlobOK C.gl st → Bas n0 st0 g0 st g s →
    evOps C ops.toList false rest s K → (∀ s' a' w', K s' → Go C E st g s s' a' w' → Q .normal a' w') → wpListIn F 0 C.P ops Q rest a w
  | _, [], _, s, st, g, a, w, R, hg, B, h, hK => hK s a w h ⟨st, g, R, hg, Aft.refl⟩
  | 0, _ :: _, hn, _, _, _, _, _, _, _, _, _, _ => absurd hn (by simp)
  | n + 1, o :: rest, hn, s, st, g, a, w, R, hg, B, h, hK => by
    have hn : rest.length ≤ n := by simpa using hn
    simp only [evOps, evStep_eq, evStep0] at h
    obtain ⟨hd, h⟩ := whenK_iff.1 h
    cases hlit : litNext C ops.toList o rest with
    | some p =>
      obtain ⟨d, d2⟩ := p
      obtain ⟨t, len, parts, e, o2, rest2, h1, h2, rfl, h4, h5, h6, h7, h8, h9, h10⟩ := litNext_some hlit
      rw [hlit] at h
      have hn2 : rest2.length ≤ n := by simp at hn; omega
      have hrest : ∀ s' a' w', evOps C ops.toList true (o2 :: rest2) s' K → Go C E st g s s' a' w' → wpListIn F 0 C.P ops Q rest2 a' w' := fun s' a' w' h' hgo => by
        obtain ⟨st', g', R', hg', A⟩ := hgo
        simp only [evOps] at h'
        exact ops_sound hF hY G n rest2 hn2 s' st' g' a' w' R' hg' (B.aft A) h' fun s'' a'' w'' hk hgo' => hK s'' a'' w'' hk (hgo'.trans A)
      have hgo : ∀ s₁, Rel E st g s₁ a w → Aft st g s st g s₁ → dstOk s₁ o.dst = true → Region.wanted o (yielded ops a.tmps) = true → (∀ v, Region.wanted o2 (yielded ops (a.put (some d) v).tmps) = true) →
          evStep0.go C o (fun _ s' => copyK s' (some (d, d2)) fun b s'' => evOps C ops.toList b (o2 :: rest2) s'' K) (fun s x sg ks => backK s o.dst x sg ks fun s' => copyK s' (some (d, d2)) fun b s'' => evOps C ops.toList b (o2 :: rest2) s'' K) s₁ →
          wpListIn F 0 C.P ops Q (o :: o2 :: rest2) a w := fun s₁ R₁ A₁ hd₁ hw1 hw2 h₁ => by
        obtain ⟨v, w1, w2, s'', r1, r2, r3, r4⟩ := lit_run R₁ hg G h1 h2 h10 h4 h6 h7 hd₁ h₁
        unfold wpListIn
        rw [if_pos hw1]
        refine hF.value (go_nodefer h₁) r1 ?_
        show wpListIn F 0 C.P ops Q (o2 :: rest2) (a.put o.dst v) w1
        rw [h2]
        unfold wpListIn
        rw [if_pos (hw2 v)]
        refine hF.value (fun c hc => by rw [h4] at hc; cases hc) r2 ?_
        show wpListIn F 0 C.P ops Q rest2 ((a.put (some d) v).put o2.dst v) w2
        rw [h5]
        exact hrest _ _ _ r4 (r3.trans A₁)
      have hskip : ∀ s₁, Rel E st g s₁ a w → Aft st g s st g s₁ → dstOk s₁ o.dst = true → Region.wanted o (yielded ops a.tmps) = false → (Region.wanted o2 (yielded ops (a.put (some d) undef).tmps) = false) →
          (copyK (s₁.app o.dst (pe (.tuple []))) (some (d, d2)) fun b s'' => evOps C ops.toList b (o2 :: rest2) s'' K) → wpListIn F 0 C.P ops Q (o :: o2 :: rest2) a w := fun s₁ R₁ A₁ hd₁ hw1 hw2 h₁ => by
        unfold wpListIn
        rw [if_neg (by rw [hw1]; simp)]
        refine ⟨fun f _ => hF.fn f, ?_⟩
        unfold wpListIn
        rw [h2, if_neg (by rw [hw2]; simp)]
        refine ⟨fun f _ => hF.fn f, ?_⟩
        rw [h2] at h₁ hd₁
        unfold copyK at h₁
        simp only [forceD_eq] at h₁
        obtain ⟨k5, k6⟩ := whenK_iff.1 h₁
        rw [lk_app_pe, put_app] at k6
        have Ra := put_undef (o := o) R₁ (by rw [h2]; exact hd₁)
        rw [h2] at Ra
        have Rb := put_undef (o := o2) Ra (by rw [h5]; exact k5)
        rw [h5] at Rb ⊢
        exact hrest _ _ _ k6 ⟨st, g, Rb, hg, (A₁.trans Aft.pe).trans Aft.pe⟩
      split at h
      · rename_i hgd
        exact hgo s R Aft.refl hd (by simp [Region.wanted, hgd]) (fun v => by simp [Region.wanted, h8, hgd]) h
      · rename_i j want hgd
        obtain ⟨u, hu1, hu2⟩ := h9 j want hgd
        split at h
        · exact h.elim
        · rename_i t' ht
          rw [hu1] at ht; cases ht
          split at h
          · rename_i b hb
            have hy := yielded_bool R hu1 hb
            have hl := R.lit hb
            have hA : Aft st g s st g (s.app (some u) (pe (.bool b))) := Aft.pe
            have hw : ∀ v, yielded ops (a.put (some d) v).tmps j = some b := fun v => by rw [yielded_put hu1 hu2]; exact hy
            have hrun : ∀ b', b = b' → want = b' → evStep0.run' C o s (fun _ s' => copyK s' (some (d, d2)) fun b s'' => evOps C ops.toList b (o2 :: rest2) s'' K) (fun s x sg ks => backK s o.dst x sg ks fun s' => copyK s' (some (d, d2)) fun b s'' => evOps C ops.toList b (o2 :: rest2) s'' K) (.bool b') u → wpListIn F 0 C.P ops Q (o :: o2 :: rest2) a w := fun b' e e2 h => by
              subst e
              unfold evStep0.run' at h
              rw [appK_eq] at h
              exact hgo _ hl hA hd (by simp [Region.wanted, hgd, hy, e2]) (fun v => by simp [Region.wanted, h8, hgd, hw v, e2]) h
            have hsk : ∀ b', b = b' → want ≠ b' → evStep0.skip o s (fun _ s' => copyK s' (some (d, d2)) fun b s'' => evOps C ops.toList b (o2 :: rest2) s'' K) (.bool b') u → wpListIn F 0 C.P ops Q (o :: o2 :: rest2) a w := fun b' e e2 h => by
              subst e
              unfold evStep0.skip at h
              rw [appK_eq, appK_eq] at h
              exact hskip _ hl hA hd (by simp [Region.wanted, hgd, hy, Ne.symm e2]) (by simp [Region.wanted, h8, hgd, hw undef, Ne.symm e2]) h
            cases b <;> cases want <;> simp only [brn, cond_true, cond_false] at h
            · exact hrun _ rfl rfl h
            · exact hsk _ rfl (by simp) h
            · exact hsk _ rfl (by simp) h
            · exact hrun _ rfl rfl h
          · rename_i hb
            have hy := yielded_none R hu1 hb
            have hl := R.lit hb
            have hA : Aft st g s st g (s.app (some u) (pe (.tuple []))) := Aft.pe
            unfold evStep0.skip at h
            rw [appK_eq, appK_eq] at h
            exact hskip _ hl hA hd (by simp [Region.wanted, hgd, hy]) (by simp [Region.wanted, h8, hgd, yielded_put hu1 hu2, hy]) h
          · exact h.elim
    | none =>
    rw [hlit] at h
    -- the rest, from any state that this operation leads to
    have hrest : ∀ s' a' w', evOps C ops.toList false rest s' K → Go C E st g s s' a' w' → wpListIn F 0 C.P ops Q rest a' w' := fun s' a' w' h' hgo => by
      obtain ⟨st', g', R', hg', A⟩ := hgo
      exact ops_sound hF hY G n rest hn s' st' g' a' w' R' hg' (B.aft A) h' fun s'' a'' w'' hk hgo' => hK s'' a'' w'' hk (hgo'.trans A)
    have hgo : ∀ s₁, Rel E st g s₁ a w → Aft st g s st g s₁ → dstOk s₁ o.dst = true → evStep0.go C o (fun _ s' => copyK s' none fun b s'' => evOps C ops.toList b rest s'' K) (fun s x sg ks => backK s o.dst x sg ks fun s' => copyK s' none fun b s'' => evOps C ops.toList b rest s'' K) s₁ →
        o.wpIn F 0 C.P a w (wpListIn F 0 C.P ops Q rest) Q := fun s₁ R₁ A₁ hd₁ h₁ => by
      refine ev_go hF hY (B.aft A₁) R₁ hg G hd₁ h₁ (fun s' a' w' h' hgo => hrest s' a' w' h' (hgo.trans A₁)) (fun x sg ks a' w' h' hgo => ?_)
      rw [backK_eq] at h'
      exact hrest _ a' w' h' (hgo.trans A₁)
    unfold wpListIn
    split at h
    · rename_i hgd
      rw [if_pos (by simp [Region.wanted, hgd])]
      exact (hgo s R Aft.refl hd h)
    · rename_i j want hgd
      split at h
      · exact h.elim
      · rename_i t ht
        split at h
        · rename_i b hb
          have hy := yielded_bool R ht hb
          have hl := R.lit hb
          have hA : Aft st g s st g (s.app (some t) (pe (.bool b))) := Aft.pe
          have hrun : ∀ b', b = b' → evStep0.run' C o s (fun _ s' => copyK s' none fun b s'' => evOps C ops.toList b rest s'' K) (fun s x sg ks => backK s o.dst x sg ks fun s' => copyK s' none fun b s'' => evOps C ops.toList b rest s'' K) (.bool b') t → o.wpIn F 0 C.P a w (wpListIn F 0 C.P ops Q rest) Q := fun b' e h => by
            subst e
            unfold evStep0.run' at h
            rw [appK_eq] at h
            exact hgo _ hl hA hd h
          have hskip : ∀ b', b = b' → evStep0.skip o s (fun _ s' => copyK s' none fun b s'' => evOps C ops.toList b rest s'' K) (.bool b') t → wpListIn F 0 C.P ops Q rest (a.put o.dst undef) w := fun b' e h => by
            subst e
            unfold evStep0.skip at h
            rw [appK_eq, appK_eq] at h
            exact hrest _ _ _ h ⟨st, g, put_undef hl hd, hg, hA.trans Aft.pe⟩
          cases b <;> cases want <;> simp only [brn, cond_true, cond_false] at h
          · rw [if_pos (by simp [Region.wanted, hgd, hy])]; exact hrun _ rfl h
          · rw [if_neg (by simp [Region.wanted, hgd, hy])]; exact ⟨fun f _ => hF.fn f, hskip _ rfl h⟩
          · rw [if_neg (by simp [Region.wanted, hgd, hy])]; exact ⟨fun f _ => hF.fn f, hskip _ rfl h⟩
          · rw [if_pos (by simp [Region.wanted, hgd, hy])]; exact hrun _ rfl h
        · rename_i hb
          have hy := yielded_none R ht hb
          have hl := R.lit hb
          have hA : Aft st g s st g (s.app (some t) (pe (.tuple []))) := Aft.pe
          rw [if_neg (by simp [Region.wanted, hgd, hy])]
          refine ⟨fun f _ => hF.fn f, ?_⟩
          unfold evStep0.skip at h
          rw [appK_eq, appK_eq] at h
          exact hrest _ _ _ h ⟨st, g, put_undef hl hd, hg, hA.trans Aft.pe⟩
        · exact h.elim

theorem region_soundIn {F : Fence} (hF : WF F) {n0 : Nat} {st0 : St} {g0 : Ghost} (hY : YieldsOK C E n0 st0 g0) {id : Nat} {ops : Array Oper} (R : Rel E st g s a w) (hg : GlobOK C.gl st) (G : GoodG C) (B : Bas n0 st0 g0 st g s) {Q : Exit → Act → World → Prop} {K : AS → Prop} (h : evOps C ops.toList false ops.toList s K)
    (hK : ∀ s' a' w', K s' → Go C E st g s s' a' w' → Q .normal a' w') : (Code.region id ops false).wpIn F 0 C.P Q a w :=
  wpIn_region_list (ops_sound hF hY G _ _ (Nat.le_refl _) s st g a w R hg B h hK)
theorem region_sound {n0 : Nat} {st0 : St} {g0 : Ghost} (hY : YieldsOK C E n0 st0 g0) {id : Nat} {ops : Array Oper} (R : Rel E st g s a w) (hg : GlobOK C.gl st) (G : GoodG C) (B : Bas n0 st0 g0 st g s) {Q : Exit → Act → World → Prop} {K : AS → Prop} (h : evOps C ops.toList false ops.toList s K)
    (hK : ∀ s' a' w', K s' → Go C E st g s s' a' w' → Q .normal a' w') : (Code.region id ops false).wp C.P Q a w :=
  wpIn_wide.1 (region_soundIn (.inl rfl) hY R hg G B h hK)
end
end Go.VG
