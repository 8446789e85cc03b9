/-
  Each symbolic operation tells what the operation does: operations that turn no object.
-/
import Derived.Test.YtbeejnmeakcpjaaDoorVgF
set_option linter.unusedSimpArgs false
set_option linter.unusedVariables false
namespace Go.VG
open Go

section
variable {C : Ctx} {E : Env} {st : St} {g : Ghost} {s : AS} {a : Act} {w : World} {o : Oper} {e : Ef}

theorem app_new (s : AS) (d : Option Nat) (x : V) (rd : List Nat) (ob : O) : (s.app d ⟨x, [], [], [ob], rd⟩).sg = s.sg ++ [ob] := by simp [AS.app, killIfSg, updSg, addSg]

/-- a new object, of whatever kind -/
theorem OpOK.new {x : V} {rd : List Nat} {ob : O} (R : Rel E st g s a w) (v : Value) (w1 : World) (hw : SameW w w1) (gi : Gh) (oj : Obj)
    (hr : (execOp a.eval o).run C.P w = .ok (.value v) (w1.alloc oj)) (hb : ∀ b, gi.blk = some b → b = w1.heap.size)
    (ho : ObjR E st (upd g s.sg.length gi) (s.sg.length + 1) (w1.alloc oj) gi ob)
    (hv : VR st (upd g s.sg.length gi) x (s.sg.length + 1) v) : OpOK C E st g s a w o ⟨x, [], [], [ob], rd⟩ := by
  refine OpOK.val v _ st (upd g s.sg.length gi) hr ⟨fun _ _ _ h => h, fun i hi _ => upd_other (Nat.ne_of_lt hi), ?_⟩ ?_ ?_
  · rw [app_new]; simp
  · rw [app_new]; exact (R.wr.same hw).allocObj oj gi ob hb ho
  · rw [app_new]; simpa using hv

theorem OpOK.newCells {rd : List Nat} {cs : List V} (R : Rel E st g s a w) (vs : Array Value) (el : TypeId)
    (hr : (execOp a.eval o).run C.P w = .ok (.value (.pointer (some ⟨w.heap.size, 0, none⟩))) (w.alloc (.cells vs el))) (hc : VRs st g cs s.sg.length vs.toList) :
    OpOK C E st g s a w o ⟨.ptr s.sg.length 0, [], [], [.cells cs], rd⟩ := by
  refine OpOK.new R _ w (SameW.refl w) ⟨some w.heap.size, none, 0, 0, 0⟩ _ hr (by simp) ?_ ?_
  · refine ⟨w.heap.size, vs, el, (0, 0), rfl, R.wr.gnew _ R.wr.size, heap_alloc_new, ?_, ⟨by simp, by intro o _; simp⟩, R.wr.st_new⟩
    exact VRs_map (fun _ _ _ h => h) (fun i _ hi => ⟨by omega, upd_other (Nat.ne_of_lt hi)⟩) hc
  · simp only [VR]
    exact ⟨by omega, w.heap.size, by simp, rfl⟩

/-- whatever something goes on with has a property -/
def All {α : Type} (p : α → Prop) (t : Tr α) : Prop := ∀ e, t (fun b => b = e) → p e
section
variable {α β : Type} {p : α → Prop}
theorem All.ret {x : α} (h : p x) : All p (ret x) := by rintro _ ⟨⟩; exact h
theorem All.fail : All p fail := fun _ h => h.elim
theorem All.req {A : Prop} {t : Tr α} (h : A → All p t) : All p (req A t) := fun e he => h he.1 e he.2
theorem All.when {b : Bool} {t : Tr α} (h : b = true → All p t) : All p (whenT b t) := fun e he => by
  cases b with
  | false => exact he.elim
  | true => exact h rfl e he
theorem All.opt {x : Option β} {f : β → Tr α} (h : ∀ y, x = some y → All p (f y)) : All p (optT x f) := fun e he => by
  cases x with
  | none => exact he.elim
  | some y => exact h y rfl e he
theorem All.brn {b : Bool} {t u : Tr α} (ht : b = true → All p t) (hu : b = false → All p u) : All p (brnT b t u) := fun e he => by
  cases b with
  | false => exact hu rfl e he
  | true => exact ht rfl e he
theorem All.optB {x : Option β} {f : β → Tr α} {u : Tr α} (h : ∀ y, x = some y → All p (f y)) (hu : x = none → All p u) : All p (optB x f u) := fun e he => by
  cases hx : x with
  | none => exact hu hx e (he.2 hx)
  | some y => exact h y hx e (he.1 y hx)
theorem All.ex {f : β → Tr α} (h : ∀ y, All p (f y)) : All p (exT f) := fun e ⟨y, he⟩ => h y e he
theorem All.bind {t : Tr β} {f : β → Tr α} (ht : FnP t) (h : ∀ y, (∀ K : β → Prop, K y → t K) → All p (f y)) : All p (bindT t f) := fun e he => by
  obtain ⟨y, h1, h2⟩ := ht _ he
  exact h y h2 e h1
end
/-- whatever a symbolic operation goes on with is what the operation does -/
abbrev Snd (C : Ctx) (E : Env) (st : St) (g : Ghost) (s : AS) (a : Act) (w : World) (o : Oper) (t : Tr Ef) : Prop := All (OpOK C E st g s a w o) t

theorem s_move {x : Operand} (R : Rel E st g s a w) (hg : GlobOK C.gl st) (ho : o.op = .move x ∨ o.op = .assign x) : Snd C E st g s a w o (force (s.ev C x) fun x => ret (pe x)) := by
  rw [force_eq]
  exact All.ret (OpOK.pure R (a.eval x) w (by rcases ho with ho | ho <;> simp [execOp, ho]) (SameW.refl w) (ev_ok R hg x))

theorem s_pick {c x y : Operand} (R : Rel E st g s a w) (hg : GlobOK C.gl st) (ho : o.op = .pick c x y) : Snd C E st g s a w o (evPick C s c x y) := by
  unfold evPick
  have hc := ev_ok R hg c
  split
  · rename_i t ht
    rw [ht] at hc
    simp only [VR] at hc
    simp only [force_eq]
    have hx := ev_ok R hg x
    have hy := ev_ok R hg y
    have hr : (execOp a.eval o).run C.P w = .ok (.value (if t then a.eval x else a.eval y)) w := by simp [execOp, ho, hc, asBool]
    split
    · rename_i bx bY h1 h2
      refine All.ret (OpOK.pure R _ w hr (SameW.refl w) ?_)
      rw [h1] at hx; rw [h2] at hy
      cases t
      · simpa [VR] using hy
      · simpa [VR] using hx
    · refine All.brn (fun h => ?_) (fun h => ?_)
      · subst h; exact All.ret (OpOK.pure R _ w hr (SameW.refl w) (by simpa using hx))
      · subst h; exact All.ret (OpOK.pure R _ w hr (SameW.refl w) (by simpa using hy))
  · exact All.fail

theorem s_alloc {t : TypeId} (R : Rel E st g s a w) (G : Good C) (ho : o.op = .alloc t) : Snd C E st g s a w o (evAlloc C s t) := by
  unfold evAlloc
  split
  · exact All.fail
  · rename_i hk
    simp only [force_eq, forceN_eq]
    refine All.when fun hu => All.ret ?_
    obtain ⟨z, hz, hz'⟩ := run_zero w (G.ti t) (fun h => hk h)
    refine OpOK.newCells R z.cells t ?_ (VR_cells (hz' st g _) (by simpa using hu))
    simp [execOp, ho, Instr.alloc, hz, newVar, newRow]

theorem s_box {t : TypeId} {x : Operand} (R : Rel E st g s a w) (hg : GlobOK C.gl st) (ho : o.op = .box t x) :
    Snd C E st g s a w o (force (s.ev C x) fun x => forceN s.sg.length fun n => whenT (!x.isU) (ret ⟨.ptr n 0, [], [], [.cells x.cells], []⟩)) := by
  simp only [force_eq, forceN_eq]
  refine All.when fun hu => All.ret ?_
  refine OpOK.newCells R (a.eval x).cells t ?_ (VR_cells (ev_ok R hg x) (by simpa using hu))
  simp [execOp, ho, Instr.box, newVar, newRow]

/-! parts of cells -/
theorem part1_cases {agg : Bool} {size off : Nat} {cs : List V} {v : V} (h : ∀ K : V → Prop, K v → part1 agg size cs off K) :
    (agg = true ∧ (size = 0 ∨ off + size ≤ cs.length) ∧ v = .agg ((cs.drop off).take size)) ∨ (agg = false ∧ cs[off]? = some v) := by
  have h := h (fun x => x = v) rfl
  unfold part1 at h
  cases agg
  · cases hr : getL cs off with
    | none => simp only [optT, hr, optK] at h
    | some r =>
      simp only [optT, hr, optK] at h
      rw [getL_eq] at hr
      cases h
      exact .inr ⟨rfl, hr⟩
  · cases hr : takeL (dropL cs off) size with
    | none => simp only [optT, hr, optK] at h
    | some r =>
      simp only [optT, hr, optK] at h
      obtain ⟨h1, h2⟩ := takeL_eq hr
      rw [dropL_eq] at h1 h2
      subst h1
      cases h
      simp only [List.length_drop] at h2
      exact .inl ⟨rfl, by omega, rfl⟩

/-- a variable is read out of cells that are known -/
theorem run_loadVar {t : TypeId} {b o : Nat} {cs : List V} {vs : List Value} {v : V} {n : Nat} (G : Good C) (hk : (C.ti t).k ≠ .other) (hc : VRs st g cs n vs)
    (hw : ∀ j, j < vs.length → w.cell? ⟨b, o + j, none⟩ = vs[j]?) {off : Nat} (h : ∀ K : V → Prop, K v → part1 (C.ti t).k.isAgg (C.ti t).size cs off K) :
    ∃ u, (loadVar t ⟨b, o + off, none⟩).run C.P w = .ok u w ∧ VR st g v n u := by
  rcases part1_cases h with ⟨h1, h2, rfl⟩ | ⟨h1, h2⟩
  · have hl := VRs_length hc
    have hlen : (C.ti t).size = ((vs.drop off).take (C.ti t).size).length := by simp; omega
    refine ⟨.agg ((vs.drop off).take (C.ti t).size).toArray, ?_, ?_⟩
    · have := run_loadCells_list (P := C.P) w ⟨b, o + off, none⟩ ((vs.drop off).take (C.ti t).size) (fun j v hj => by
        rw [Addr.add_lit]
        rw [List.getElem?_take] at hj
        split at hj
        · rw [List.getElem?_drop] at hj
          have hlt : off + j < vs.length := by
            rcases Nat.lt_or_ge (off + j) vs.length with h' | h'
            · exact h'
            · simp [List.getElem?_eq_none h'] at hj
          have := hw (off + j) hlt
          rw [hj] at this
          rw [Nat.add_assoc]; exact this
        · cases hj)
      rw [← hlen] at this
      simp [loadVar, run_agg? w (G.ti t) hk, h1, run_size w (G.ti t) hk, this]
    · simp only [VR]
      exact ⟨_, rfl, by simpa using VRs_take (VRs_drop hc)⟩
  · obtain ⟨u, h3, h4⟩ := VRs_get hc h2
    have hlt : off < vs.length := by
      rcases Nat.lt_or_ge off vs.length with h' | h'
      · exact h'
      · simp [List.getElem?_eq_none h'] at h3
    refine ⟨u, ?_, h4⟩
    have := hw off hlt
    rw [h3] at this
    simp [loadVar, run_agg? w (G.ti t) hk, h1, this]

theorem run_part {t : TypeId} {cs : List V} {vs : Array Value} {v : V} {n off : Nat} (G : Good C) (hk : (C.ti t).k ≠ .other) (hc : VRs st g cs n vs.toList)
    (h : ∀ K : V → Prop, K v → part1 (C.ti t).k.isAgg (C.ti t).size cs off K) : ∃ u, (part t vs off).run C.P w = .ok u w ∧ VR st g v n u := by
  rcases part1_cases h with ⟨h1, h2, rfl⟩ | ⟨h1, h2⟩
  · refine ⟨.agg (vs.extract off (off + (C.ti t).size)), ?_, ?_⟩
    · simp [part, run_agg? w (G.ti t) hk, h1, run_size w (G.ti t) hk]
    · simp only [VR]
      refine ⟨_, rfl, ?_⟩
      rw [Array.toList_extract, List.extract_eq_take_drop]
      simpa using VRs_take (VRs_drop hc)
  · obtain ⟨u, h3, h4⟩ := VRs_get hc h2
    refine ⟨u, ?_, h4⟩
    have h3' : vs[off]? = some u := by simpa using h3
    simp [part, run_agg? w (G.ti t) hk, h1, h3']

theorem cells_look {E : Env} {sg : List O} (W : WRel E st g sg w) {i : Nat} {cs : List V} (hi : sg[i]? = some (.cells cs)) : ∃ b c el fr, (g i).blk = some b ∧ E.G b ∧ w.heap[b]? = some (.cells c el fr) ∧ VRs st g cs sg.length c.toList ∧ ffree c fr ∧ ∀ o, st b o = none :=
  W.ob i _ hi

theorem s_load {t : TypeId} {x : Operand} (R : Rel E st g s a w) (hg : GlobOK C.gl st) (G : Good C) (ho : o.op = .load t x) : Snd C E st g s a w o (evLoad C s t x) := by
  unfold evLoad
  simp only [idxT_eq]
  split
  · exact All.fail
  rename_i hk
  have hk : (C.ti t).k ≠ .other := fun h => hk h
  have hx := ev_ok R hg x
  split
  · rename_i cs off he
    rw [he] at hx
    simp only [VR] at hx
    obtain ⟨b, of, vs, h1, h2, h3⟩ := hx
    refine All.bind (part1_fn _ _ _ _) fun v hv => ?_
    rw [force_eq]
    have hcell : ∀ j, j < vs.length → w.cell? ⟨b, of + j, none⟩ = vs[j]? := fun j hj => by
      have h4 := h3 j hj
      rw [List.getElem?_eq_getElem hj] at h4 ⊢
      exact R.wr.stw _ _ _ h4
    obtain ⟨u, h5, h6⟩ := run_loadVar (w := w) (b := b) (o := of) G hk h2 hcell hv
    refine All.ret (OpOK.pure R u w ?_ (SameW.refl w) (VR_map (fun _ _ _ h => h) (fun i _ hi => absurd hi (Nat.not_lt_zero _)) h6))
    simp [execOp, ho, Instr.loadAt, h1, Instr.sureAddr, h5]
  · rename_i i off he
    rw [he] at hx
    simp only [VR] at hx
    obtain ⟨hi, b, hb, h1⟩ := hx
    split
    · rename_i cs hs
      obtain ⟨hs1, _⟩ := getSg_eq hs (by simp)
      obtain ⟨b', c, el, fr, k1, k2, k3, k4, k5, k6⟩ := cells_look R.wr hs1
      rw [hb] at k1; cases k1
      refine All.bind (part1_fn _ _ _ _) fun v hv => ?_
      rw [force_eq]
      have hcell : ∀ j, j < c.toList.length → w.cell? ⟨b, 0 + j, none⟩ = c.toList[j]? := fun j hj => by rw [cell?_of k3]; simp
      obtain ⟨u, h5, h6⟩ := run_loadVar (w := w) (b := b) (o := 0) G hk k4 hcell hv
      refine All.ret (OpOK.pure R u w ?_ (SameW.refl w) h6)
      rw [Nat.zero_add] at h5
      simp [execOp, ho, Instr.loadAt, h1, Instr.sureAddr, h5]
    · exact All.fail
  · rename_i i idx off he
    rw [he] at hx
    simp only [VR] at hx
    obtain ⟨hi, b, hb, h1⟩ := hx
    split
    · rename_i sz pre l hs
      obtain ⟨hs1, _⟩ := getSg_eq hs (by simp)
      obtain ⟨q1, q2, q3, q4, q5, q6, q7⟩ := R.wr.ob i _ hs1
      refine All.opt fun y hy => All.when fun hu => All.bind (part1_fn _ _ _ _) fun v hv => ?_
      rw [force_eq]
      rcases q7 with ⟨_, q7⟩ | ⟨b', c, el, fr, k1, k2, k3, k4, k5, k6, _⟩
      · rw [hb] at q7; cases q7
      · rw [hb] at k1; cases k1
        obtain ⟨u, r1, r2, r3, r4⟩ := VRrow_iff.1 k6 idx y hy
        have r5 := VR_cells r1 (by simpa using hu)
        have hcell : ∀ j, j < u.cells.toList.length → w.cell? ⟨b, idx * sz + j, none⟩ = u.cells.toList[j]? := fun j hj => by
          rw [cell?_of k4]
          have := r4 j (by rw [← r2]; simpa using hj)
          rw [Nat.zero_add] at this
          simpa using this
        obtain ⟨u', h5, h6⟩ := run_loadVar (w := w) (b := b) (o := idx * sz) G hk r5 hcell hv
        refine All.ret (OpOK.pure R u' w ?_ (SameW.refl w) (VR_map (fun _ _ _ h => h) (fun i _ hi => absurd hi (Nat.not_lt_zero _)) h6))
        rw [q2] at h1
        simp [execOp, ho, Instr.loadAt, h1, Instr.sureAddr, h5]
    · exact All.fail
  · exact All.fail

theorem s_nilCheck {x : Operand} (R : Rel E st g s a w) (hg : GlobOK C.gl st) (ho : o.op = .nilCheck x) : Snd C E st g s a w o (evNilCheck C s x) := by
  unfold evNilCheck
  have hx := ev_ok R hg x
  split
  all_goals first
    | exact All.fail
    | skip
  all_goals
    rename_i he
    rw [he] at hx
    have hx' := hx
    simp only [VR] at hx
  · obtain ⟨_, b, _, h1⟩ := hx
    exact All.ret (OpOK.pure R (a.eval x) w (by simp [execOp, ho, h1]) (SameW.refl w) hx')
  · obtain ⟨_, b, _, h1⟩ := hx
    exact All.ret (OpOK.pure R (a.eval x) w (by simp [execOp, ho, h1]) (SameW.refl w) hx')
  · obtain ⟨b, _, _, h1, _⟩ := hx
    exact All.ret (OpOK.pure R (a.eval x) w (by simp [execOp, ho, h1]) (SameW.refl w) hx')
  · obtain ⟨b, _, h1, _⟩ := hx
    exact All.ret (OpOK.pure R (a.eval x) w (by simp [execOp, ho, h1]) (SameW.refl w) hx')
  · obtain ⟨b, h1, _⟩ := hx
    exact All.ret (OpOK.pure R (a.eval x) w (by simp [execOp, ho, h1]) (SameW.refl w) hx')

theorem s_makeIface {t : TypeId} {x : Operand} (R : Rel E st g s a w) (hg : GlobOK C.gl st) (G : Good C) (ho : o.op = .makeInterface t x) : Snd C E st g s a w o (evMakeIface C s t x) := by
  unfold evMakeIface
  split
  · exact All.fail
  · exact All.fail
  · rename_i h1 h2
    rw [force_eq]
    refine All.when fun hu => All.ret ?_
    refine OpOK.pure R (.iface t (a.eval x)) w ?_ (SameW.refl w) (by simp only [VR]; exact ⟨_, rfl, ev_ok R hg x⟩)
    obtain ⟨h3, _⟩ := (G.ti t).of (fun h => h1 h)
    cases hk' : (C.ti t).k <;> rw [hk'] at h3 <;> simp only [TK.ok] at h3
    case struct fs => obtain ⟨f, h3, _⟩ := h3; simp [execOp, ho, Instr.makeInterface, run_underlying h3]
    case iface => exact absurd hk' (fun h => h2 h)
    case func => obtain ⟨p, q, r, h3⟩ := h3; simp [execOp, ho, Instr.makeInterface, run_underlying h3]
    all_goals simp [execOp, ho, Instr.makeInterface, run_underlying h3]

theorem s_makeFunc {fn : Fn} {xs ys : Array Operand} (R : Rel E st g s a w) (hg : GlobOK C.gl st) (ho : o.op = .makeFunc fn xs ys) :
    Snd C E st g s a w o (forceDsT (s.evs C xs.toList) fun a => forceDsT (s.evs C ys.toList) fun b => ret (pe (.func fn a b))) := by
  simp only [forceDsT_eq]
  refine All.ret (OpOK.pure R (.func fn (xs.map a.eval) (ys.map a.eval)) w (by simp [execOp, ho, Instr.makeFunc]) (SameW.refl w) ?_)
  simp only [VR]
  exact ⟨_, _, rfl, by simpa using evs_ok R hg xs.toList, by simpa using evs_ok R hg ys.toList⟩

theorem s_extract {x : Operand} {i : Nat} (R : Rel E st g s a w) (hg : GlobOK C.gl st) (ho : o.op = .extract x i) : Snd C E st g s a w o (evExtract C s x i) := by
  unfold evExtract
  have hx := ev_ok R hg x
  split
  · rename_i vs he
    rw [he] at hx
    simp only [VR] at hx
    obtain ⟨us, h1, h2⟩ := hx
    refine All.opt fun v hv => ?_
    rw [force_eq]
    rw [getL_eq] at hv
    obtain ⟨u, h3, h4⟩ := VRs_get h2 hv
    have h3' : us[i]? = some u := by simpa using h3
    exact All.ret (OpOK.pure R u w (by simp [execOp, ho, h1, Instr.extract, h3']) (SameW.refl w) h4)
  · exact All.fail

theorem getF_eq : ∀ {fs : List (Nat × TypeId)} {i : Nat} {x : Nat × TypeId}, getF fs i = some x → fs[i]? = some x
  | [], i, x, h => by simp [getF] at h
  | y :: ys, 0, x, h => by simpa [getF] using h
  | y :: ys, i + 1, x, h => by simpa [getF] using getF_eq (fs := ys) (by simpa [getF] using h)
theorem field_of {fields : Array Field} {fs : List (Nat × TypeId)} (h : fields.toList.map (fun f => (f.offset, f.type)) = fs) {i : Nat} {x : Nat × TypeId} (hx : getF fs i = some x) :
    ∃ f, fields[i]? = some f ∧ f.offset = x.1 ∧ f.type = x.2 := by
  have := getF_eq hx
  rw [← h, List.getElem?_map] at this
  cases hf : fields.toList[i]? with
  | none => rw [hf] at this; cases this
  | some f => rw [hf] at this; cases this; exact ⟨f, by simpa using hf, rfl, rfl⟩

theorem s_field {t : TypeId} {x : Operand} {f : Nat} (R : Rel E st g s a w) (hg : GlobOK C.gl st) (G : Good C) (ho : o.op = .field t x f) : Snd C E st g s a w o (evField C s t x f) := by
  unfold evField
  have hx := ev_ok R hg x
  split
  · rename_i fs cs hk he
    rw [he] at hx
    simp only [VR] at hx
    obtain ⟨us, h1, h2⟩ := hx
    obtain ⟨h3, _⟩ := (G.ti t).of (by rw [hk]; simp)
    rw [hk] at h3
    obtain ⟨fields, h3, h4, _⟩ := h3
    refine All.opt fun ft hft => ?_
    split
    · exact All.fail
    rename_i hk2
    refine All.bind (part1_fn _ _ _ _) fun v hv => ?_
    rw [force_eq]
    obtain ⟨fd, h5, h6, h7⟩ := field_of h4 hft
    obtain ⟨u, h8, h9⟩ := run_part (w := w) G (fun h => hk2 h) h2 hv
    refine All.ret (OpOK.pure R u w ?_ (SameW.refl w) h9)
    simp [execOp, ho, Instr.field, run_underlying h3, h5, h1, asAgg, h6, h7, h8]
  · exact All.fail

theorem s_fieldAddr {t : TypeId} {x : Operand} {f : Nat} (R : Rel E st g s a w) (hg : GlobOK C.gl st) (G : Good C) (ho : o.op = .fieldAddr t x f) : Snd C E st g s a w o (evFieldAddr C s t x f) := by
  unfold evFieldAddr
  have hx := ev_ok R hg x
  split
  · rename_i fs hk
    obtain ⟨h3, _⟩ := (G.ti t).of (by rw [hk]; simp)
    rw [hk] at h3
    obtain ⟨fields, h3, h4, _⟩ := h3
    refine All.opt fun ft hft => ?_
    split
    · exact All.fail
    rename_i hk2
    refine All.when fun hsz => ?_
    obtain ⟨fd, h5, h6, h7⟩ := field_of h4 hft
    have hsz' := Nat.le_of_ble_eq_true hsz
    have hs0 : ¬ (C.ti fd.type).size = 0 := by rw [h7]; omega
    have hrs := run_size w (G.ti fd.type) (by rw [h7]; exact fun h => hk2 h)
    have hr : ∀ ad : Addr, a.eval x = .pointer (some ad) → (execOp a.eval o).run C.P w = .ok (.value (.pointer (some (ad.add ft.1)))) w := fun ad had => by
      simp [execOp, ho, Instr.fieldAt, run_underlying h3, h5, had, Instr.sureAddr, fieldPlace, hrs, hs0, h6]
    split
    · rename_i i off he
      rw [he] at hx
      simp only [VR] at hx
      obtain ⟨hi, b, hb, h1⟩ := hx
      rw [forceN_eq]
      refine All.ret (OpOK.pure R _ w (hr _ h1) (SameW.refl w) ?_)
      simp only [VR]
      exact ⟨hi, b, hb, by rw [Addr.add_lit]⟩
    · rename_i i j off he
      rw [he] at hx
      simp only [VR] at hx
      obtain ⟨hi, b, hb, h1⟩ := hx
      rw [forceN_eq]
      refine All.ret (OpOK.pure R _ w (hr _ h1) (SameW.refl w) ?_)
      simp only [VR]
      exact ⟨hi, b, hb, by rw [Addr.add_lit, Nat.add_assoc]⟩
    · rename_i cs off he
      rw [he] at hx
      simp only [VR] at hx
      obtain ⟨b, of, vs, h1, h2, h8⟩ := hx
      rw [forceN_eq]
      refine All.ret (OpOK.pure R _ w (hr _ h1) (SameW.refl w) ?_)
      simp only [VR]
      exact ⟨b, of, vs, by rw [Addr.add_lit, Nat.add_assoc], h2, h8⟩
    · exact All.fail
  · exact All.fail
end
end Go.VG
