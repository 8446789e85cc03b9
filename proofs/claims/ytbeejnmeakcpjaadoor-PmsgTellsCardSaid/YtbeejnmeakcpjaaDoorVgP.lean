/-
  Calls, ended: a call that has a summary; methods; calls of function values.
-/
import Derived.Test.YtbeejnmeakcpjaaDoorVgO
set_option linter.unusedSimpArgs false
set_option linter.unusedVariables false
namespace Go.VG
open Go

theorem closedN_get {sg : List O} {th0 : List Nat} : ∀ {th : List Nat}, closedN sg th0 th = true → ∀ i cs, i ∈ th → getSg sg i = .cells cs → V.withinL th0 cs = true
  | [], _, i, _, h, _ => by simp at h
  | k :: ks, hc, i, cs, h, hi => by
    simp only [closedN] at hc
    rcases List.mem_cons.1 h with rfl | h
    · rw [hi] at hc
      simp only [Bool.and_eq_true] at hc
      exact hc.1
    · refine closedN_get (th := ks) ?_ i cs h hi
      split at hc
      · simp only [Bool.and_eq_true] at hc; exact hc.2
      · simp only [Bool.and_eq_true] at hc; exact hc.2
      · exact hc
theorem closedN_getM {sg : List O} {th0 : List Nat} : ∀ {th : List Nat}, closedN sg th0 th = true → ∀ i m bs ck l x, i ∈ th → getSg sg i = .miter m bs ck l x → V.within th0 m = true
  | [], _, i, _, _, _, _, _, h, _ => by simp at h
  | k :: ks, hc, i, m, bs, ck, l, x, h, hi => by
    simp only [closedN] at hc
    rcases List.mem_cons.1 h with rfl | h
    · rw [hi] at hc
      simp only [Bool.and_eq_true] at hc
      exact hc.1
    · refine closedN_getM (th := ks) ?_ i m bs ck l x h hi
      split at hc
      · simp only [Bool.and_eq_true] at hc; exact hc.2
      · simp only [Bool.and_eq_true] at hc; exact hc.2
      · exact hc

section
variable {C : Ctx} {E : Env} {st : St} {g : Ghost} {s : AS} {a : Act} {w : World} {o : Oper} {e : Ef}

/-- back from a call that turned nothing -/
theorem WRel.join0 (R : WRel E st g s.sg w) {th : List Nat} (hn : nodupN th = true) (ha : aliveN s.sg th = true) (hc : closedN s.sg th th = true) {st' : St} {g1 : Ghost} {w' : World}
    (W : WRel ⟨fun b => w.heap.size ≤ b ∨ ∃ i ∈ th, (g i).blk = some b, w, st, []⟩ st' g1 (locals s.sg (fun i => idxOf i th 0) th) w') (hm : ∀ b o v, st b o = some v → st' b o = some v)
    (hk : ∀ j i, th[j]? = some i → g1 j = g i) : WRel E st' g s.sg w' ∧ ∀ i j, backIdx th 0 0 i = some j → i < th.length → j < s.sg.length ∧ g j = g1 i := by
  have hlt : ∀ i, i ∈ th → i < s.sg.length := fun i hi => (aliveN_get ha i hi).choose_spec.2.2
  have hbw : ∀ i j, backIdx th 0 0 i = some j → i < th.length → j < s.sg.length ∧ g j = g1 i := fun i j h hi => by
    rw [backIdx_lt hi] at h
    exact ⟨hlt j (List.mem_of_getElem? h), (hk i j h).symm⟩
  have hG : ∀ b, (w.heap.size ≤ b ∨ ∃ i ∈ th, (g i).blk = some b) → E.G b := fun b hb => by
    rcases hb with hb | ⟨i, hi, hb⟩
    · exact R.gnew b (Nat.le_trans R.size hb)
    · exact (R.blk_lt (hlt i hi) hb).2
  refine ⟨⟨W.os.trans R.os, W.tape.trans R.tape, W.output.trans R.output, Nat.le_trans R.size W.size, R.gnew, fun b o v h => hm _ _ _ (R.sub _ _ _ h), fun b o v h => ?_, W.stw, fun b hb => ?_, fun i o ho => ?_, R.inj⟩, hbw⟩
  · rcases W.stG b o v h with h1 | h1
    · exact R.stG _ _ _ h1
    · exact .inr (hG b h1)
  · rw [W.fr b (fun h => hb (hG b h))]
    exact R.fr b hb
  · have hil : i < s.sg.length := by
      rcases Nat.lt_or_ge i s.sg.length with h' | h'
      · exact h'
      · simp [List.getElem?_eq_none h'] at ho
    by_cases him : i ∈ th
    · obtain ⟨j, hj, hji⟩ := List.getElem_of_mem him
      have hj' : th[j]? = some i := by rw [List.getElem?_eq_getElem hj, hji]
      obtain ⟨o', h1, h2, _⟩ := aliveN_get ha i him
      rw [ho] at h1; cases h1
      have hl : (locals s.sg (fun i => idxOf i th 0) th)[j]? = some (o.ren fun i => idxOf i th 0) := by rw [locals_get, hj', Option.map_some, h2]
      have h3 := W.ob j _ hl
      have h4 := h3.ren (E' := E) (g' := g) (n' := s.sg.length) (f := backIdx th 0 0) (fun i j h hi => hbw i j h (by rwa [locals_length] at hi))
        (fun b hb => hG b (W.blk_lt (by rw [locals_length]; exact hj) hb).2)
      have h5 : (o.ren fun i => idxOf i th 0).ren (backIdx th 0 0) = o := by
        cases o with
        | cells cs =>
          simp only [O.ren]
          rw [renL_ren (th := th) (fun i hi => ?_) (closedN_get hc i cs him h2)]
          obtain ⟨k, hk1, hk2⟩ := List.getElem_of_mem hi
          have hk' : th[k]? = some i := by rw [List.getElem?_eq_getElem hk1, hk2]
          exact ⟨k, idxOf_get hn hk', by rw [backIdx_lt hk1]; exact hk'⟩
        | miter m bs ck l x =>
          simp only [O.ren]
          rw [ren_ren (th := th) (fun i hi => ?_) (closedN_getM hc i m bs ck l x him h2)]
          obtain ⟨k, hk1, hk2⟩ := List.getElem_of_mem hi
          have hk' : th[k]? = some i := by rw [List.getElem?_eq_getElem hk1, hk2]
          exact ⟨k, idxOf_get hn hk', by rw [backIdx_lt hk1]; exact hk'⟩
        | _ => rfl
      rw [h5, hk j i hj'] at h4
      exact h4
    · have h0 := R.ob i o ho
      have hnot : ∀ b, (g i).blk = some b → ¬ (w.heap.size ≤ b ∨ ∃ i ∈ th, (g i).blk = some b) := fun b hb hor => by
        rcases hor with h | ⟨k, hk, hkb⟩
        · have := (h0.blk_lt hb).1; omega
        · exact him (R.inj i k b hil (hlt k hk) hb hkb ▸ hk)
      refine h0.keep (fun b hb => W.fr b (hnot b hb)) hm (fun b hb o' v hv => ?_) (fun k hk' hkn => ⟨hkn, rfl⟩)
      rcases W.stG b o' v hv with h1 | h1
      · exact h1
      · exact absurd h1 (hnot b hb)

theorem s_call {f : FuncId} {args : List V} {vs : List Value} {pre : Prop} (R : Rel E st g s a w) (hg : GlobOK C.gl st) (G : GoodG C)
    (hex : CallOK C.P f → (execOp a.eval o).run C.P w = .ok (.enter f vs.toArray) w) (hv : VRs st g args s.sg.length vs) (he : evCall C s.sg f args = some (pre, e)) (hpre : pre) : OpOK C E st g s a w o e := by
  unfold evCall at he
  rw [forceNs_eq, forceNs_eq] at he
  generalize reach s.sg 256 (V.namesL args []) (V.namesL args []) = th at he
  unfold evCallAt at he
  simp only [forceDs_eq, forceOs_eq] at he
  cases hchk : (nodupN th && aliveN s.sg th) with
  | false => rw [hchk] at he; cases he
  | true =>
    rw [hchk] at he
    simp only [cond_true] at he
    simp only [Bool.and_eq_true] at hchk
    obtain ⟨hn, ha⟩ := hchk
    have WL := R.wr.local hn ha
    have hfw : ∀ i j, idxOf i th 0 = some j → i < s.sg.length → j < (locals s.sg (fun i => idxOf i th 0) th).length ∧ (fun j => g (th.getD j 0)) j = g i := fun i j h _ => by
      obtain ⟨_, h4⟩ := idxOf_some h
      simp only [Nat.sub_zero] at h4
      refine ⟨?_, ?_⟩
      · rw [locals_length]
        rcases Nat.lt_or_ge j th.length with h' | h'
        · exact h'
        · simp [List.getElem?_eq_none h'] at h4
      · simp [h4]
    have hgd : ∀ j i, th[j]? = some i → g (th.getD j 0) = g i := fun j i h => by simp [h]
    have hv' := VRs_ren hfw hv
    split at he
    · cases he
    · rename_i pre' x hΓ
      cases hcl : closedN s.sg th th with
      | false => rw [hcl] at he; cases he
      | true =>
        rw [hcl] at he
        simp only [cond_true, Option.some.injEq, Prod.mk.injEq] at he
        obtain ⟨rfl, rfl⟩ := he
        obtain ⟨hc, hf⟩ := G.gam _ _ _ _ _ _ hΓ hpre
        intro next Q hnext
        unfold Oper.wp
        rw [hex hc]
        refine Calls.mono (hf _ st _ w vs WL hg hv') ?_
        rintro en w' ⟨v, st', g1, rfl, W, hx, hm, _, hk⟩
        simp only [Option.getD_none] at W hx
        have hk' : ∀ j i, th[j]? = some i → g1 j = g i := fun j i h => by
          rw [hk j _ (by rw [locals_get, h]; rfl) (.inl rfl)]
          exact hgd j i h
        obtain ⟨W', hb⟩ := R.wr.join0 hn ha hcl W hm hk'
        refine hnext st' g w' v ⟨hm, fun _ _ _ => rfl, ?_⟩ ?_ ?_
        · rw [app_rd]; exact Nat.le_refl _
        · rw [app_rd]; exact W'
        · rw [app_rd]
          exact VR_ren (fun i j h hi => hb i j h (by rwa [locals_length] at hi)) hx
    · rename_i pre' x sg1 hΓ
      simp only [Option.some.injEq, Prod.mk.injEq] at he
      obtain ⟨rfl, rfl⟩ := he
      obtain ⟨hc, hf⟩ := G.gam _ _ _ _ _ _ hΓ hpre
      intro next Q hnext
      unfold Oper.wp
      rw [hex hc]
      refine Calls.mono (hf _ st _ w vs WL hg hv') ?_
      rintro en w' ⟨v, st', g1, rfl, W, hx, hm, hl, hk⟩
      simp only [Option.getD_some] at W hx hl
      rw [locals_length] at hl
      obtain ⟨W', A, hb⟩ := R.wr.join (ks := cond (keepM sg1) [] (bufsOf s.sg th)) hn ha W hm hl (fun j i o h h1 h2 => by
        rw [hk j _ (by rw [locals_get, h]; rfl) (.inr ?_)]
        · exact hgd j i h
        · cases hkm : keepM sg1 with
          | true => exact .inl hkm
          | false =>
            refine .inr ?_
            rw [hkm] at h2
            rw [isBuf_ren]
            obtain ⟨o', h3, h4, _⟩ := aliveN_get ha i (List.mem_of_getElem? h)
            cases hb : (getSg s.sg i).isBuf with
            | false => rfl
            | true => exact absurd (bufsOf_buf (List.mem_of_getElem? h) hb) (memN_false.1 h2))
      have hsg : ∀ v : V, (s.app o.dst ⟨v, cond (keepM sg1) [] (bufsOf s.sg th), zipUp (backIdx th s.sg.length (dropO sg1 th.length).length) th sg1, mapRen (backIdx th s.sg.length (dropO sg1 th.length).length) (dropO sg1 th.length), th⟩).sg =
          updSg (s.sg.map (O.kill (cond (keepM sg1) [] (bufsOf s.sg th)))) (zipUp (backIdx th s.sg.length (dropO sg1 th.length).length) th sg1) ++ mapRen (backIdx th s.sg.length (dropO sg1 th.length).length) (dropO sg1 th.length) := fun v => by
        simp only [AS.app, addSg_eq, killIfSg_eq]
      rw [← hsg (x.ren (backIdx th s.sg.length (dropO sg1 th.length).length))] at A W' hb
      exact hnext st' _ w' v A W' (VR_ren hb hx)

theorem callT_all {r : Option (Prop × Ef)} (h : ∀ pre e, r = some (pre, e) → pre → OpOK C E st g s a w o e) : Snd C E st g s a w o (callT r) := by
  refine All.opt fun p hp => All.req fun hpre => ?_
  intro e' he'
  have he' : forceEf p.2 (fun b => b = e') := he'
  rw [forceEf_eq] at he'
  subst he'
  exact h p.1 p.2 hp hpre

theorem ex_value {c : Call} {x : Operand} {f : FuncId} {first captured : Array Value} (ho : o.op = .call c) (hc : c.callee = .value x) (hx : a.eval x = .func (.func f) first captured) (hk : CallOK C.P f) :
    (execOp a.eval o).run C.P w = .ok (.enter f (first.toList ++ c.args.toList.map a.eval ++ captured.toList).toArray) w := by
  have e1 : (first.toList ++ c.args.toList.map a.eval ++ captured.toList).toArray = first ++ c.args.map a.eval ++ captured := by
    apply Array.ext'; simp
  rw [e1]
  simp only [execOp, ho, resolve, hc, hx, Sem.run_bind]
  show (Sem.run C.P (Deferred.ofValue _ _) w).andThen _ = _
  simp only [Deferred.ofValue, Sem.run_pure, Result.andThen_ok, invoke, run_callFunc hk]

theorem s_value {c : Call} {x : Operand} {f : FuncId} {first captured : List V} (R : Rel E st g s a w) (hg : GlobOK C.gl st) (hc : c.callee = .value x) (hx : s.ev C x = .func (.func f) first captured) :
    ∃ vs : List Value, VRs st g (first ++ s.evs C c.args.toList ++ captured) s.sg.length vs ∧ ∀ o : Oper, o.op = .call c → CallOK C.P f → (execOp a.eval o).run C.P w = .ok (.enter f vs.toArray) w := by
  have h := ev_ok (C := C) R hg x
  rw [hx] at h
  simp only [VR] at h
  obtain ⟨fa, ca, h1, h2, h3⟩ := h
  exact ⟨_, VRs_append (VRs_append h2 (evs_ok R hg _)) h3, fun o ho hk => ex_value ho hc h1 hk⟩

theorem s_callOp {c : Call} (R : Rel E st g s a w) (hg : GlobOK C.gl st) (G : GoodG C) (ho : o.op = .call c) : Snd C E st g s a w o (evCallOp C s c) := by
  unfold evCallOp
  split
  · rename_i b hb
    rw [forceDsT_eq]
    obtain ⟨callee, args, ts⟩ := c
    simp only at hb
    subst hb
    exact s_builtin R hg G.toGood ho
  · rename_i x hb
    refine All.opt fun p hp => callT_all fun pre e he hpre => ?_
    unfold target at hp
    rw [hb] at hp
    simp only at hp
    split at hp
    · rename_i f first captured hx
      cases hp
      obtain ⟨vs, h1, h2⟩ := s_value (c := c) R hg hb hx
      exact s_call R hg G (h2 o ho) h1 he hpre
    · cases hp
  · rename_i r m hb
    split
    · rename_i t v hr
      refine All.ex fun f => All.req fun hmt => callT_all fun pre e he hpre => ?_
      have h := ev_ok (C := C) R hg r
      rw [hr] at h
      simp only [VR] at h
      obtain ⟨u, h1, h2⟩ := h
      refine s_call (vs := u :: c.args.toList.map a.eval) R hg G (fun hk => ?_) (VRs_cons h2 (evs_ok R hg _)) he hpre
      have hm := G.mt t m f hmt u w
      have e1 : (u :: c.args.toList.map a.eval).toArray = #[u] ++ c.args.map a.eval := by apply Array.ext'; simp
      rw [e1]
      have e2 : (#[Value.iface t u] ++ c.args.map a.eval)[0]? = some (.iface t u) := by rw [Array.getElem?_append_left (by simp)]; rfl
      have e3 : (#[Value.iface t u] ++ c.args.map a.eval).extract 1 (#[Value.iface t u] ++ c.args.map a.eval).size = c.args.map a.eval := by
        apply Array.ext'; simp [List.take_of_length_le]
      simp only [execOp, ho, resolve, hb, Sem.run_bind, Sem.run_pure, Result.andThen_ok, h1, invoke, e2, e3, callMethod, run_program, hm, run_callFunc hk]
    · exact All.fail
end

/-- each operation is what its symbolic form says -/
theorem s_op {C : Ctx} {E : Env} {st : St} {g : Ghost} {s : AS} {a : Act} {w : World} {o : Oper} (R : Rel E st g s a w) (hg : GlobOK C.gl st) (G : GoodG C) : Snd C E st g s a w o (evOp C s o) := by
  unfold evOp
  split <;> rename_i ho
  · exact s_move R hg (.inl ho)
  · exact s_move R hg (.inr ho)
  · exact s_pick R hg ho
  · exact s_alloc R G.toGood ho
  · exact s_box R hg ho
  · exact s_build R hg G.toGood ho
  · exact s_bs R hg G.toGood ho
  · exact s_load R hg G.toGood ho
  · exact s_store R hg G.toGood ho
  · exact s_nilCheck R hg ho
  · exact s_bin R hg G.toGood ho
  · exact s_un R hg ho
  · exact s_mark R hg G.toGood ho
  · exact s_makeIface R hg G.toGood ho
  · exact s_makeFunc R hg ho
  · exact s_makeSlice R hg G.toGood ho
  · exact s_slice R hg G.toGood ho
  · exact s_fieldAddr R hg G.toGood ho
  · exact s_field R hg G.toGood ho
  · exact s_indexAddr R hg G.toGood ho
  · exact s_index R hg G.toGood ho
  · exact s_assert R hg G.toGood ho
  · exact s_extract R hg ho
  · exact s_iter R hg G.toGood ho
  · exact s_next R hg ho
  · exact s_makeMap R G.toGood ho
  · exact s_lookup R hg G.toGood ho
  · exact s_mapUpdate R hg G.toGood ho
  · exact s_mapEntry R hg G.toGood ho
  · exact s_entryStore R hg G.toGood ho
  · exact s_entry R hg ho
  · exact s_callOp R hg G ho
  · exact All.fail
end Go.VG
