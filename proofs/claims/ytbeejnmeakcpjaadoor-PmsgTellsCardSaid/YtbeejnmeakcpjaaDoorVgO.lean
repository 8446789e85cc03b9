/-
  Calls: a summary that is true of some objects alone is true within a store.
-/
import Derived.Test.YtbeejnmeakcpjaaDoorVgN
set_option linter.unusedSimpArgs false
set_option linter.unusedVariables false
namespace Go.VG
open Go

theorem memN_iff {i : Nat} : ∀ {l : List Nat}, memN i l = true ↔ i ∈ l
  | [] => by simp [memN]
  | k :: ks => by
    simp only [memN, Bool.or_eq_true, List.mem_cons, memN_iff (l := ks)]
    constructor
    · rintro (h | h)
      · exact .inl (Nat.eq_of_beq_eq_true h)
      · exact .inr h
    · rintro (h | h)
      · subst h; exact .inl (Nat.beq_refl _)
      · exact .inr h
theorem memN_false {i : Nat} {l : List Nat} : memN i l = false ↔ i ∉ l := by
  rw [← memN_iff]; cases memN i l <;> simp

theorem idxOf_some {i : Nat} : ∀ {l : List Nat} {n j : Nat}, idxOf i l n = some j → n ≤ j ∧ l[j - n]? = some i
  | [], _, _, h => by simp [idxOf] at h
  | k :: ks, n, j, h => by
    simp only [idxOf] at h
    cases hk : Nat.beq k i with
    | true =>
      rw [hk] at h
      have := Nat.eq_of_beq_eq_true hk
      simp only [cond_true, Option.some.injEq] at h
      subst h; subst this
      simp
    | false =>
      rw [hk] at h
      obtain ⟨h1, h2⟩ := idxOf_some (l := ks) (n := n + 1) (j := j) h
      refine ⟨by omega, ?_⟩
      rw [show j - n = (j - (n + 1)) + 1 by omega]
      simpa using h2
theorem idxOf_none {i : Nat} : ∀ {l : List Nat} {n : Nat}, idxOf i l n = none → i ∉ l
  | [], _, _ => by simp
  | k :: ks, n, h => by
    simp only [idxOf] at h
    cases hk : Nat.beq k i with
    | true => rw [hk] at h; simp at h
    | false =>
      rw [hk] at h
      have h1 := idxOf_none (l := ks) (n := n + 1) h
      simp only [List.mem_cons, not_or]
      refine ⟨fun e => ?_, h1⟩
      subst e
      rw [show Nat.beq i i = true from Nat.beq_refl i] at hk
      cases hk
theorem nodupN_inj : ∀ {l : List Nat}, nodupN l = true → ∀ {i j x : Nat}, l[i]? = some x → l[j]? = some x → i = j
  | [], _, i, _, _, h, _ => by simp at h
  | k :: ks, hn, i, j, x, h1, h2 => by
    simp only [nodupN] at hn
    cases hm : memN k ks with
    | true => rw [hm] at hn; simp at hn
    | false =>
      rw [hm] at hn
      have hn : nodupN ks = true := hn
      have hk := memN_false.1 hm
      cases i with
      | zero => cases j with
        | zero => rfl
        | succ j => simp at h1 h2; subst h1; exact absurd (List.mem_of_getElem? h2) hk
      | succ i => cases j with
        | zero => simp at h1 h2; subst h2; exact absurd (List.mem_of_getElem? h1) hk
        | succ j => simp at h1 h2; rw [nodupN_inj hn h1 h2]
theorem idxOf_get {l : List Nat} (hn : nodupN l = true) {j i : Nat} (h : l[j]? = some i) : idxOf i l 0 = some j := by
  cases hi : idxOf i l 0 with
  | none => exact absurd (List.mem_of_getElem? h) (idxOf_none hi)
  | some k =>
    obtain ⟨_, h2⟩ := idxOf_some hi
    rw [nodupN_inj hn h h2]; simp

theorem backIdx_lt {n k : Nat} : ∀ {l : List Nat} {j : Nat}, j < l.length → backIdx l n k j = l[j]?
  | [], j, h => by simp at h
  | i :: th, 0, _ => by simp [backIdx]
  | i :: th, j + 1, h => by simp only [backIdx]; rw [backIdx_lt (by simpa using h)]; simp
theorem backIdx_ge {n k : Nat} : ∀ {l : List Nat} {j i : Nat}, l.length ≤ j → backIdx l n k j = some i → i = n + (j - l.length) ∧ j - l.length < k
  | [], j, i, _, h => by
    simp only [backIdx] at h
    cases hb : Nat.blt j k with
    | true => rw [hb] at h; simp only [cond_true, Option.some.injEq] at h; exact ⟨by simp [h.symm], by have := Nat.le_of_ble_eq_true hb; simp only [List.length_nil]; omega⟩
    | false => rw [hb] at h; cases h
  | _ :: th, 0, _, hl, _ => by simp at hl
  | _ :: th, j + 1, i, hl, h => by
    simp only [backIdx] at h
    have := backIdx_ge (l := th) (by simpa using hl) h
    simpa using this

section
variable {st : St} {g g' : Ghost}
mutual
theorem VR_ren {f : Nat → Option Nat} : ∀ {x : V} {n n' : Nat} {v : Value}, (∀ i j, f i = some j → i < n → j < n' ∧ g' j = g i) → VR st g x n v → VR st g' (x.ren f) n' v
  | .undef, _, _, _, _, _ => by simp [VR, V.ren]
  | .int .., _, _, _, _, h | .bool _, _, _, _, _, h | .str _, _, _, _, _, h | .nilptr, _, _, _, _, h | .nilIface, _, _, _, _, h | .nilFunc, _, _, _, _, h | .nilmap, _, _, _, _, h => by simpa [VR, V.ren] using h
  | .agg cs, n, n', v, hn, h | .tuple cs, n, n', v, hn, h => by
    simp only [VR, V.ren] at h ⊢
    obtain ⟨vs, rfl, h⟩ := h
    exact ⟨vs, rfl, VRs_ren hn h⟩
  | .list c sz l, n, n', v, hn, h => VR_map (x := .list c sz l) (fun _ _ _ h => h) (fun i hi => by simp [V.has] at hi) (by simpa only [V.ren] using h)
  | .box cs off, n, n', v, hn, h => VR_map (x := .box cs off) (fun _ _ _ h => h) (fun i hi => by simp [V.has] at hi) (by simpa only [V.ren] using h)
  | .ptr i o, n, n', v, hn, h => by
    simp only [V.ren]
    cases hf : f i with
    | none => simp [VR]
    | some j =>
      simp only [VR] at h ⊢
      obtain ⟨h1, h2⟩ := hn i j hf h.1
      exact ⟨h1, by rw [h2]; exact h.2⟩
  | .bptr i a o, n, n', v, hn, h => by
    simp only [V.ren]
    cases hf : f i with
    | none => simp [VR]
    | some j =>
      simp only [VR] at h ⊢
      obtain ⟨h1, h2⟩ := hn i j hf h.1
      exact ⟨h1, by rw [h2]; exact h.2⟩
  | .buf i, n, n', v, hn, h => by
    simp only [V.ren]
    cases hf : f i with
    | none => simp [VR]
    | some j =>
      simp only [VR] at h ⊢
      obtain ⟨h1, h2⟩ := hn i j hf h.1
      exact ⟨h1, by rw [h2]; exact h.2⟩
  | .map i, n, n', v, hn, h => by
    simp only [V.ren]
    cases hf : f i with
    | none => simp [VR]
    | some j =>
      simp only [VR] at h ⊢
      obtain ⟨h1, h2⟩ := hn i j hf h.1
      exact ⟨h1, by rw [h2]; exact h.2⟩
  | .iface t x, n, n', v, hn, h => by
    simp only [VR, V.ren] at h ⊢
    obtain ⟨u, rfl, h⟩ := h
    exact ⟨u, rfl, VR_ren hn h⟩
  | .func fn fs cs, n, n', v, hn, h => by
    simp only [VR, V.ren] at h ⊢
    obtain ⟨a, b, rfl, h1, h2⟩ := h
    exact ⟨a, b, rfl, VRs_ren hn h1, VRs_ren hn h2⟩
theorem VRs_ren {f : Nat → Option Nat} : ∀ {x : List V} {n n' : Nat} {v : List Value}, (∀ i j, f i = some j → i < n → j < n' ∧ g' j = g i) → VRs st g x n v → VRs st g' (V.renL f x) n' v
  | [], _, _, _, _, h => by simpa [VRs, V.renL] using h
  | c :: cs, n, n', v, hn, h => by
    simp only [VRs, V.renL] at h ⊢
    obtain ⟨u, us, rfl, h1, h2⟩ := h
    exact ⟨u, us, rfl, VR_ren hn h1, VRs_ren hn h2⟩
end

mutual
theorem ren_ren {f h : Nat → Option Nat} {th : List Nat} (hf : ∀ i, i ∈ th → ∃ j, f i = some j ∧ h j = some i) : ∀ {x : V}, x.within th = true → (x.ren f).ren h = x
  | .undef, _ | .int .., _ | .bool _, _ | .str _, _ | .nilptr, _ | .nilIface, _ | .nilFunc, _ | .nilmap, _ | .list .., _ | .box .., _ => by simp [V.ren]
  | .ptr i _, hw | .bptr i _ _, hw | .buf i, hw | .map i, hw => by
    obtain ⟨j, h1, h2⟩ := hf i (memN_iff.1 hw)
    simp [V.ren, h1, h2]
  | .agg cs, hw | .tuple cs, hw => by simp [V.ren, renL_ren hf (by simpa [V.within] using hw)]
  | .iface t x, hw => by simp [V.ren, ren_ren hf (by simpa [V.within] using hw)]
  | .func fn fs cs, hw => by
    simp only [V.within, Bool.and_eq_true] at hw
    simp [V.ren, renL_ren hf hw.1, renL_ren hf hw.2]
theorem renL_ren {f h : Nat → Option Nat} {th : List Nat} (hf : ∀ i, i ∈ th → ∃ j, f i = some j ∧ h j = some i) : ∀ {x : List V}, V.withinL th x = true → V.renL h (V.renL f x) = x
  | [], _ => by simp [V.renL]
  | c :: cs, hw => by
    simp only [V.withinL, Bool.and_eq_true] at hw
    simp [V.renL, ren_ren hf hw.1, renL_ren hf hw.2]
end
end

theorem ObjR.ren {E E' : Env} {st : St} {g g' : Ghost} {n n' : Nat} {w : World} {gi : Gh} {o : O} {f : Nat → Option Nat} (h : ObjR E st g n w gi o) (hf : ∀ i j, f i = some j → i < n → j < n' ∧ g' j = g i)
    (hG : ∀ b, gi.blk = some b → E'.G b) : ObjR E' st g' n' w gi (o.ren f) := by
  cases o with
  | dead => intro b hb; exact ⟨(h b hb).1, hG b hb⟩
  | cells cs =>
    obtain ⟨b, c, el, fr, h1, h2, h3, h4, h5, h6⟩ := h
    exact ⟨b, c, el, fr, h1, hG b h1, h3, VRs_ren hf h4, h5, h6⟩
  | buf sz pre l =>
    obtain ⟨h1, h2, h3, h4, h5, h6, h7⟩ := h
    refine ⟨h1, h2, h3, h4, h5, h6, ?_⟩
    rcases h7 with h7 | ⟨b, c, el, fr, k1, k2, k3, k4, k5, k6, k7, k8⟩
    · exact .inl h7
    · exact .inr ⟨b, c, el, fr, k1, k2, hG b k1, k4, k5, VRrow_map (fun _ _ _ h => h) (fun _ _ hk => hk) k6, k7, k8⟩
  | siter s p =>
    obtain ⟨h1, b, h2, h3, h4⟩ := h
    exact ⟨h1, b, h2, hG b h2, h4⟩
  | map ag sh es bs ck =>
    obtain ⟨b, arr, h1, h2, h3, h4⟩ := h
    exact ⟨b, arr, h1, hG b h1, h3, h4⟩
  | miter m bs ck l x =>
    obtain ⟨b, b', seen, h1, h2, h3, h4, h5⟩ := h
    exact ⟨b, b', seen, h1, hG b h1, h3, VR_ren hf h4, h5⟩

def O.isBuf : O → Bool
  | .buf _ _ _ => true
  | _ => false

theorem locals_get {sg : List O} {f : Nat → Option Nat} : ∀ {th : List Nat} {j : Nat}, (locals sg f th)[j]? = (th[j]?).map fun i => (getSg sg i).ren f
  | [], j => by simp [locals]
  | i :: is, 0 => by simp [locals]
  | i :: is, j + 1 => by simp only [locals, List.getElem?_cons_succ]; exact locals_get
theorem locals_length {sg : List O} {f : Nat → Option Nat} : ∀ {th : List Nat}, (locals sg f th).length = th.length
  | [] => rfl
  | i :: is => by simp [locals, locals_length (th := is)]
theorem aliveN_get {sg : List O} : ∀ {th : List Nat}, aliveN sg th = true → ∀ i, i ∈ th → ∃ o, sg[i]? = some o ∧ getSg sg i = o ∧ i < sg.length
  | [], _, i, h => by simp at h
  | k :: ks, ha, i, h => by
    have hk : getSg sg k ≠ .dead ∧ aliveN sg ks = true := by
      simp only [aliveN] at ha
      split at ha
      · cases ha
      · rename_i hne; exact ⟨fun e => hne e, ha⟩
    rcases List.mem_cons.1 h with rfl | h
    · obtain ⟨h1, h2⟩ := getSg_eq rfl hk.1
      exact ⟨_, h1, rfl, h2⟩
    · exact aliveN_get hk.2 i h
theorem bufsOf_mem {sg : List O} : ∀ {th : List Nat} {i : Nat}, i ∈ bufsOf sg th → i ∈ th
  | [], _, h => by simp [bufsOf] at h
  | k :: ks, i, h => by
    simp only [bufsOf] at h
    split at h
    · rcases List.mem_cons.1 h with rfl | h
      · simp
      · exact List.mem_cons_of_mem _ (bufsOf_mem h)
    · exact List.mem_cons_of_mem _ (bufsOf_mem h)
theorem bufsOf_buf {sg : List O} : ∀ {th : List Nat} {i : Nat}, i ∈ th → (getSg sg i).isBuf = true → i ∈ bufsOf sg th
  | [], _, h, _ => by simp at h
  | k :: ks, i, h, hb => by
    simp only [bufsOf]
    rcases List.mem_cons.1 h with rfl | h
    · split
      · simp
      · rename_i hn
        cases ho : getSg sg i <;> rw [ho] at hb <;> simp [O.isBuf] at hb
        exact absurd ho (hn _ _ _)
    · split
      · exact List.mem_cons_of_mem _ (bufsOf_buf h hb)
      · exact bufsOf_buf h hb
theorem isBuf_ren {o : O} {f : Nat → Option Nat} : (o.ren f).isBuf = o.isBuf := by cases o <;> rfl

theorem dropO_eq : ∀ (xs : List O) (n : Nat), dropO xs n = xs.drop n
  | xs, 0 => by simp [dropO]
  | [], n + 1 => by simp [dropO]
  | x :: xs, n + 1 => by simp [dropO, dropO_eq xs n]
theorem mapRen_eq (f : Nat → Option Nat) : ∀ xs : List O, mapRen f xs = xs.map (O.ren f)
  | [] => rfl
  | x :: xs => by simp [mapRen, mapRen_eq f xs]

theorem updSg_zip_other {f : Nat → Option Nat} : ∀ {th : List Nat} {os sg : List O} {i : Nat}, i ∉ th → (updSg sg (zipUp f th os))[i]? = sg[i]?
  | [], os, sg, i, _ => by simp [zipUp, updSg]
  | _ :: _, [], sg, i, _ => by simp [zipUp, updSg]
  | k :: ks, o :: os, sg, i, h => by
    simp only [List.mem_cons, not_or] at h
    simp only [zipUp, updSg]
    rw [updSg_zip_other h.2, setSg_eq, List.getElem?_set_ne (Ne.symm h.1)]
theorem updSg_zip {f : Nat → Option Nat} : ∀ {th : List Nat} {os sg : List O} {i j : Nat} {o : O}, nodupN th = true → th[j]? = some i → os[j]? = some o → i < sg.length → (updSg sg (zipUp f th os))[i]? = some (o.ren f)
  | [], _, _, _, _, _, _, h, _, _ => by simp at h
  | _ :: _, [], _, _, _, _, _, _, h, _ => by simp at h
  | k :: ks, p :: os, sg, i, j, o, hn, h1, h2, hl => by
    simp only [nodupN] at hn
    cases hm : memN k ks with
    | true => rw [hm] at hn; simp at hn
    | false =>
      rw [hm] at hn
      have hn : nodupN ks = true := hn
      have hk := memN_false.1 hm
      simp only [zipUp, updSg]
      cases j with
      | zero =>
        simp only [List.getElem?_cons_zero, Option.some.injEq] at h1 h2
        subst h1; subst h2
        rw [updSg_zip_other hk, setSg_eq, List.getElem?_set_self hl]
      | succ j =>
        simp only [List.getElem?_cons_succ] at h1 h2
        exact updSg_zip hn h1 h2 (by rw [setSg_eq]; simpa using hl)

/-- what is known of a function: of these arguments, in a store of these objects alone, it returns that -/
def FunOK (P : Program) (gl : Nat → Option (List V)) (f : FuncId) (args : List V) (sg : List O) (x : V) (r : Option (List O)) : Prop :=
  CallOK P f ∧ ∀ (E : Env) (st : St) (g : Ghost) (w : World) (vs : List Value), WRel E st g sg w → GlobOK gl st → VRs st g args sg.length vs →
    Calls P f vs.toArray w fun e w' => ∃ v st' g', e = .returned v ∧ WRel E st' g' (r.getD sg) w' ∧ VR st' g' x (r.getD sg).length v ∧ (∀ b o v, st b o = some v → st' b o = some v) ∧
      sg.length ≤ (r.getD sg).length ∧ ∀ i o, sg[i]? = some o → (r = none ∨ keepM (r.getD []) = true ∨ o.isBuf = false) → g' i = g i

structure GoodG (C : Ctx) : Prop extends Good C where
  gam : ∀ f args sg pre x r, C.Γ f args sg = some (pre, x, r) → pre → FunOK C.P C.gl f args sg x r

section
variable {C : Ctx} {E : Env} {st : St} {g : Ghost} {s : AS} {a : Act} {w : World} {o : Oper} {e : Ef}

theorem run_callFunc {P : Program} {f : FuncId} (h : CallOK P f) (vs : Array Value) (w : World) : (callFunc f vs).run P w = .ok (.enter f vs) w := by
  obtain ⟨fn, h1, h2, h3⟩ := h
  unfold callFunc
  simp only [Sem.run_bind, run_program, Result.andThen_ok, h1, h2, h3, Bool.false_eq_true, if_false, Sem.run_pure]

theorem WRel.local (R : WRel E st g s.sg w) {th : List Nat} (hn : nodupN th = true) (ha : aliveN s.sg th = true) :
    WRel ⟨fun b => w.heap.size ≤ b ∨ ∃ i ∈ th, (g i).blk = some b, w, st, []⟩ st (fun j => g (th.getD j 0)) (locals s.sg (fun i => idxOf i th 0) th) w where
  os := rfl
  tape := rfl
  output := rfl
  size := Nat.le_refl _
  gnew := fun b hb => .inl hb
  sub := fun _ _ _ h => h
  stG := fun _ _ _ h => .inl h
  stw := R.stw
  fr := fun _ _ => rfl
  ob := fun j o hj => by
    rw [locals_get] at hj
    cases hi : th[j]? with
    | none => rw [hi] at hj; cases hj
    | some i =>
      rw [hi] at hj
      simp only [Option.map_some, Option.some.injEq] at hj
      subst hj
      obtain ⟨o', h1, h2, h3⟩ := aliveN_get ha i (List.mem_of_getElem? hi)
      rw [h2]
      have hgj : th.getD j 0 = i := by simp [hi]
      simp only [hgj]
      refine (R.ob i o' h1).ren (fun k k' hk _ => ?_) (fun b hb => .inr ⟨i, List.mem_of_getElem? hi, hb⟩)
      obtain ⟨_, h4⟩ := idxOf_some hk
      simp only [Nat.sub_zero] at h4
      refine ⟨?_, ?_⟩
      · rw [locals_length]
        rcases Nat.lt_or_ge k' th.length with h' | h'
        · exact h'
        · simp [List.getElem?_eq_none h'] at h4
      · simp [h4]
  inj := fun i j b hi hj h1 h2 => by
    rw [locals_length] at hi hj
    have e1 : th[i]? = some th[i] := List.getElem?_eq_getElem hi
    have e2 : th[j]? = some th[j] := List.getElem?_eq_getElem hj
    have l1 := (aliveN_get ha _ (List.mem_of_getElem? e1)).choose_spec.2.2
    have l2 := (aliveN_get ha _ (List.mem_of_getElem? e2)).choose_spec.2.2
    simp only [List.getD_eq_getElem?_getD, e1, e2, Option.getD_some] at h1 h2
    have := R.inj _ _ b l1 l2 h1 h2
    exact nodupN_inj hn e1 (by rw [e2, this])

/-- back from a call, in the caller's store -/
theorem WRel.join (R : WRel E st g s.sg w) {th : List Nat} (hn : nodupN th = true) (ha : aliveN s.sg th = true) {st' : St} {g1 : Ghost} {sg1 : List O} {w' : World}
    (W : WRel ⟨fun b => w.heap.size ≤ b ∨ ∃ i ∈ th, (g i).blk = some b, w, st, []⟩ st' g1 sg1 w') (hm : ∀ b o v, st b o = some v → st' b o = some v) (hl : th.length ≤ sg1.length)
    {ks : List Nat} (hk : ∀ j i o, th[j]? = some i → s.sg[i]? = some o → memN i ks = false → g1 j = g i) :
    let g' : Ghost := fun i => match idxOf i th 0 with
      | some j => g1 j
      | none => if i < s.sg.length then g i else g1 (th.length + (i - s.sg.length))
    let bw := backIdx th s.sg.length (dropO sg1 th.length).length
    let sg' := updSg (s.sg.map (O.kill ks)) (zipUp bw th sg1) ++ mapRen bw (dropO sg1 th.length)
    WRel E st' g' sg' w' ∧ After E st g s.sg.length st' g' sg'.length ks ∧ ∀ i j, bw i = some j → i < sg1.length → j < sg'.length ∧ g' j = g1 i := by
  intro g' bw sg'
  have hlt : ∀ i, i ∈ th → i < s.sg.length := fun i hi => (aliveN_get ha i hi).choose_spec.2.2
  have hlen : sg'.length = s.sg.length + (sg1.length - th.length) := by
    simp only [sg', List.length_append, length_updSg, List.length_map, mapRen_eq, dropO_eq, List.length_drop]
  have hdl : (dropO sg1 th.length).length = sg1.length - th.length := by rw [dropO_eq, List.length_drop]
  -- which ghost each has
  have g_in : ∀ j i, th[j]? = some i → g' i = g1 j := fun j i h => by
    simp only [g', idxOf_get hn h]
  have g_out : ∀ i, i ∉ th → i < s.sg.length → g' i = g i := fun i h hi => by
    simp only [g']
    cases hx : idxOf i th 0 with
    | none => simp [hi]
    | some j => obtain ⟨_, h2⟩ := idxOf_some hx; exact absurd (List.mem_of_getElem? h2) h
  have g_new : ∀ k, g' (s.sg.length + k) = g1 (th.length + k) := fun k => by
    simp only [g']
    cases hx : idxOf (s.sg.length + k) th 0 with
    | none =>
      simp only
      rw [if_neg (by omega)]
      congr 1; omega
    | some j =>
      obtain ⟨_, h2⟩ := idxOf_some hx
      have := hlt _ (List.mem_of_getElem? h2); omega
  have hbw : ∀ i j, bw i = some j → i < sg1.length → j < sg'.length ∧ g' j = g1 i := fun i j h hi => by
    rw [hlen]
    rcases Nat.lt_or_ge i th.length with h' | h'
    · simp only [bw] at h
      rw [backIdx_lt h'] at h
      have := hlt j (List.mem_of_getElem? h)
      exact ⟨by omega, g_in i j h⟩
    · obtain ⟨h1, h2⟩ := backIdx_ge h' h
      rw [hdl] at h2
      subst h1
      refine ⟨by omega, ?_⟩
      rw [g_new]; congr 1; omega
  have hG : ∀ b, (w.heap.size ≤ b ∨ ∃ i ∈ th, (g i).blk = some b) → E.G b := fun b hb => by
    rcases hb with hb | ⟨i, hi, hb⟩
    · exact R.gnew b (Nat.le_trans R.size hb)
    · exact (R.blk_lt (hlt i hi) hb).2
  -- each object is the callee's, or one that it could not see
  have hcase : ∀ i, i < sg'.length → (∃ j, j < sg1.length ∧ g' i = g1 j ∧ bw j = some i ∧ ∀ o, sg'[i]? = some o → ∃ o₁, sg1[j]? = some o₁ ∧ o = o₁.ren bw) ∨
      (i < s.sg.length ∧ i ∉ th ∧ g' i = g i ∧ sg'[i]? = (s.sg[i]?).map (O.kill ks)) := fun i hi => by
    rw [hlen] at hi
    rcases Nat.lt_or_ge i s.sg.length with h' | h'
    · by_cases hm : i ∈ th
      · obtain ⟨j, hj, hji⟩ := List.getElem_of_mem hm
        have hj' : th[j]? = some i := by rw [List.getElem?_eq_getElem hj, hji]
        have hj1 : j < sg1.length := by omega
        have hs1 : sg1[j]? = some sg1[j] := List.getElem?_eq_getElem hj1
        refine .inl ⟨j, hj1, g_in j i hj', by simp only [bw]; rw [backIdx_lt hj]; exact hj', fun o ho => ⟨_, hs1, ?_⟩⟩
        simp only [sg'] at ho
        rw [List.getElem?_append_left (by simpa [length_updSg] using h'), updSg_zip hn hj' hs1 (by simpa using h')] at ho
        exact (Option.some.inj ho).symm
      · refine .inr ⟨h', hm, g_out i hm h', ?_⟩
        simp only [sg']
        rw [List.getElem?_append_left (by simpa [length_updSg] using h'), updSg_zip_other hm, List.getElem?_map]
    · obtain ⟨k, rfl⟩ : ∃ k, i = s.sg.length + k := ⟨i - s.sg.length, by omega⟩
      refine .inl ⟨th.length + k, by omega, g_new k, ?_, fun o ho => ?_⟩
      · simp only [bw]
        have : ∀ (l : List Nat) n m k, k < m → backIdx l n m (l.length + k) = some (n + k) := by
          intro l n m k hk
          induction l with
          | nil =>
            have hb : Nat.blt k m = true := Nat.ble_eq_true_of_le hk
            simp [backIdx, hb]
          | cons a l ih =>
            rw [show (a :: l).length + k = (l.length + k) + 1 by simp; omega]
            simpa [backIdx] using ih
        exact this _ _ _ _ (by omega)
      · simp only [sg'] at ho
        rw [List.getElem?_append_right (by simp [length_updSg])] at ho
        simp only [length_updSg, List.length_map, mapRen_eq, dropO_eq, List.getElem?_map, List.getElem?_drop] at ho
        rw [show s.sg.length + k - s.sg.length = k by omega] at ho
        cases hs : sg1[th.length + k]? with
        | none => rw [hs] at ho; cases ho
        | some o₁ => rw [hs] at ho; exact ⟨o₁, rfl, (Option.some.inj ho).symm⟩
  refine ⟨⟨W.os.trans R.os, W.tape.trans R.tape, W.output.trans R.output, Nat.le_trans R.size W.size, R.gnew, fun b o v h => hm _ _ _ (R.sub _ _ _ h), fun b o v h => ?_, W.stw, fun b hb => ?_, fun i o ho => ?_, fun i j b hi hj h1 h2 => ?_⟩, ⟨hm, fun i hi hmem => ?_, by omega⟩, hbw⟩
  · rcases W.stG b o v h with h1 | h1
    · exact R.stG _ _ _ h1
    · exact .inr (hG b h1)
  · rw [W.fr b (fun h => hb (hG b h))]
    exact R.fr b hb
  · have hi : i < sg'.length := by
      rcases Nat.lt_or_ge i sg'.length with h' | h'
      · exact h'
      · simp [List.getElem?_eq_none h'] at ho
    rcases hcase i hi with ⟨j, hj, hg', hbj, hoj⟩ | ⟨hil, him, hg', hoi⟩
    · obtain ⟨o₁, h1, rfl⟩ := hoj o ho
      rw [hg']
      exact (W.ob j o₁ h1).ren hbw (fun b hb => hG b (W.blk_lt hj hb).2)
    · rw [ho] at hoi
      cases hs : s.sg[i]? with
      | none => rw [hs] at hoi; cases hoi
      | some o₀ =>
        rw [hs] at hoi
        cases hoi
        rw [hg']
        have h0 := R.ob i o₀ hs
        have hnot : ∀ b, (g i).blk = some b → ¬ (w.heap.size ≤ b ∨ ∃ i ∈ th, (g i).blk = some b) := fun b hb hor => by
          rcases hor with h | ⟨k, hk, hkb⟩
          · have := (h0.blk_lt hb).1; omega
          · exact him (R.inj i k b hil (hlt k hk) hb hkb ▸ hk)
        refine (h0.kill (ks := ks)).keep (fun b hb => W.fr b (hnot b hb)) hm (fun b hb o' v hv => ?_) (fun k hk' hkn => ⟨by omega, ?_⟩)
        · rcases W.stG b o' v hv with h1 | h1
          · exact h1
          · exact absurd h1 (hnot b hb)
        · obtain ⟨hkm, _⟩ := O.has_kill hk'
          by_cases hkt : k ∈ th
          · obtain ⟨j, hj, hjk⟩ := List.getElem_of_mem hkt
            have hj' : th[j]? = some k := by rw [List.getElem?_eq_getElem hj, hjk]
            rw [g_in j k hj']
            obtain ⟨ok, hk1, hk2, _⟩ := aliveN_get ha k hkt
            exact hk j k ok hj' hk1 hkm
          · exact g_out k hkt hkn
  · rcases hcase i hi with ⟨i', hi', gi', bi, _⟩ | ⟨hil, him, gi', _⟩ <;> rcases hcase j hj with ⟨j', hj', gj', bj, _⟩ | ⟨hjl, hjm, gj', _⟩
    · rw [gi'] at h1; rw [gj'] at h2
      have := W.inj i' j' b hi' hj' h1 h2
      subst this
      rw [bi] at bj; exact Option.some.inj bj
    · rw [gi'] at h1; rw [gj'] at h2
      have hb := (W.blk_lt hi' h1).2
      rcases hb with hb | ⟨k, hk1, hk2⟩
      · have := (R.blk_lt hjl h2).1; omega
      · exact absurd (R.inj j k b hjl (hlt k hk1) h2 hk2 ▸ hk1) hjm
    · rw [gi'] at h1; rw [gj'] at h2
      have hb := (W.blk_lt hj' h2).2
      rcases hb with hb | ⟨k, hk1, hk2⟩
      · have := (R.blk_lt hil h1).1; omega
      · exact absurd (R.inj i k b hil (hlt k hk1) h1 hk2 ▸ hk1) him
    · rw [gi'] at h1; rw [gj'] at h2
      exact R.inj i j b hil hjl h1 h2
  · by_cases hit : i ∈ th
    · obtain ⟨j, hj, hji⟩ := List.getElem_of_mem hit
      have hj' : th[j]? = some i := by rw [List.getElem?_eq_getElem hj, hji]
      rw [g_in j i hj']
      obtain ⟨oi, hi1, hi2, _⟩ := aliveN_get ha i hit
      exact hk j i oi hj' hi1 hmem
    · exact g_out i hit hi
end
end Go.VG
