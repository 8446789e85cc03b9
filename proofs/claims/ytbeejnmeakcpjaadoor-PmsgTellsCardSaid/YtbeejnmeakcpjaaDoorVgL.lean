/-
  Each symbolic operation tells what the operation does: composite values, new slices, lengths.
-/
import Derived.Test.YtbeejnmeakcpjaaDoorVgK
import Derived.Laws.Tables
set_option linter.unusedSimpArgs false
set_option linter.unusedVariables false
namespace Go.VG
open Go

theorem foldl_over (off : Nat) : ∀ (vs : List Value) (k : Nat) (c : Array Value), (vs = [] ∨ off + k + vs.length ≤ c.size) →
    (vs.zipIdx k).foldl (fun cs (p : Value × Nat) => cs.setIfInBounds (off + p.2) p.1) c = (over c.toList (off + k) vs).toArray
  | [], k, c, _ => by simp [over]
  | v :: vs, k, c, h => by
    have h' : off + k + (vs.length + 1) ≤ c.size := by
      rcases h with h | h
      · cases h
      · simpa using h
    rw [List.zipIdx_cons, List.foldl_cons, foldl_over off vs (k + 1) _ (.inr (by simp; omega))]
    rw [Array.toList_setIfInBounds, ← Nat.add_assoc, over_cons (by simp; omega)]

theorem pure_isU {x : V} (h : x.pure = true) : x.isU = false := by cases x <;> first | rfl | (simp [V.pure] at h)

section
variable {C : Ctx} {E : Env} {st : St} {g : Ghost} {s : AS} {a : Act} {w : World} {o : Oper} {e : Ef}

theorem fill_ok {placeV : Nat → Option (Nat × Nat)} {place : Nat → Option (Nat × Nat)} (hp : ∀ i x, placeV i = some x → place i = some x) (R : Rel E st g s a w) (hg : GlobOK C.gl st) :
    ∀ (parts : List (Nat × Operand)) (zs : List V) (z : Array Value) (cs : List V), VRs st g zs s.sg.length z.toList → fillV placeV (evParts C s parts) zs = some cs →
      ∃ cells, Instr.fill place z (parts.map fun (i, x) => (i, a.eval x)) = some cells ∧ VRs st g cs s.sg.length cells.toList
  | [], zs, z, cs, hz, h => by
    simp only [evParts, fillV, Option.some.injEq] at h
    subst h
    exact ⟨z, rfl, hz⟩
  | (i, x) :: r, zs, z, cs, hz, h => by
    simp only [evParts, fillV] at h
    cases hpl : placeV i with
    | none => rw [hpl] at h; cases h
    | some q =>
      obtain ⟨off, size⟩ := q
      rw [hpl] at h
      simp only at h
      cases hb : (Nat.beq (s.ev C x).cells.length size && Nat.blt 0 size) with
      | false => rw [hb] at h; cases h
      | true =>
        cases hu : (s.ev C x).isU with
        | true => rw [hb, hu] at h; cases h
        | false =>
          rw [hb, hu] at h
          simp only at h
          cases hs : setL zs off (s.ev C x).cells with
          | none => rw [hs] at h; cases h
          | some zs' =>
            rw [hs] at h
            simp only at h
            obtain ⟨r1, r2⟩ := setL_eq hs
            subst r1
            have hv := VR_cells (ev_ok (C := C) R hg x) hu
            have hl := VRs_length hv
            have hzl := VRs_length hz
            simp only [Bool.and_eq_true] at hb
            obtain ⟨hb, hb0⟩ := hb
            have hb := Nat.eq_of_beq_eq_true hb
            have hb0 := Nat.le_of_ble_eq_true hb0
            have hin : (a.eval x).cells.toList = [] ∨ off + (a.eval x).cells.toList.length ≤ z.toList.length := by
              rcases r2 with r2 | r2
              · left; apply List.eq_nil_of_length_eq_zero; rw [← hl, r2]; rfl
              · right; omega
            have h2 := VRs_over (o := off) hz hv
            obtain ⟨cells, k1, k2⟩ := fill_ok hp R hg r _ (over z.toList off (a.eval x).cells.toList).toArray cs (by simpa using h2) h
            refine ⟨cells, ?_, k2⟩
            rw [List.map_cons]
            unfold Instr.fill
            rw [hp i _ hpl]
            simp only
            have hsz : (a.eval x).cells.size = size := by rw [← hb, hl]; simp
            by_cases h0 : (a.eval x).cells.toList = []
            · rw [h0] at hl; simp at hl; rw [hl] at hb; simp at hb; omega
            · have hin' : off + (a.eval x).cells.size ≤ z.size := by
                rcases hin with h | h
                · exact absurd h h0
                · simpa using h
              rw [if_neg (by simp [hsz]; omega)]
              have := foldl_over off (a.eval x).cells.toList 0 z (.inr (by simpa using hin'))
              rw [Nat.add_zero] at this
              rw [← k1]
              congr 1
              rw [← this]
              rw [← Array.foldl_toList, Array.toList_zipIdx]

theorem places_get {P : Program} : ∀ {fs : List Field} {places : List (Nat × Nat)}, fs.mapM (fun f => (P.info? f.type).map fun i => (f.offset, i.size)) = some places →
    ∀ {i : Nat} {f : Field}, fs[i]? = some f → ∃ info, P.info? f.type = some info ∧ places[i]? = some (f.offset, info.size)
  | [], places, h, i, f, hf => by simp at hf
  | f0 :: fs, places, h, i, f, hf => by
    simp only [List.mapM_cons, Option.bind_eq_bind, Option.pure_def] at h
    cases hi : P.info? f0.type with
    | none => simp [hi] at h
    | some info =>
      cases hr : fs.mapM (fun f => (P.info? f.type).map fun i => (f.offset, i.size)) with
      | none => simp [hi, hr] at h
      | some rest =>
        simp [hi, hr] at h
        subst h
        cases i with
        | zero => simp at hf; subst hf; exact ⟨info, hi, rfl⟩
        | succ i => simpa using places_get hr (by simpa using hf)

theorem s_build {t : TypeId} {parts : Array (Nat × Operand)} (R : Rel E st g s a w) (hg : GlobOK C.gl st) (G : Good C) (ho : o.op = .build t parts) : Snd C E st g s a w o (evBuild C s t parts) := by
  unfold evBuild
  have hparts : (parts.map fun (i, x) => (i, a.eval x)).toList = parts.toList.map fun (i, x) => (i, a.eval x) := by simp
  split
  · rename_i fs hk
    obtain ⟨h3, ⟨info, h4, h5, _, z, h6, h7⟩, _⟩ := (G.ti t).of (by rw [hk]; simp)
    rw [hk] at h3
    obtain ⟨fields, h3, h8, h9⟩ := h3
    obtain ⟨places, h9⟩ := Option.isSome_iff_exists.1 h9
    refine All.when fun hu => All.opt fun cs hcs => All.ret ?_
    obtain ⟨cells, k1, k2⟩ := fill_ok (place := fun i => places.toArray[i]?) (fun i x hx => by
      unfold placeOf at hx
      split at hx
      · rename_i off ft hf
        split at hx
        · cases hx
        · rename_i hk2
          cases hx
          obtain ⟨f, f1, f2, f3⟩ := field_of h8 hf
          obtain ⟨info', f4, f5⟩ := places_get h9 (i := i) (by simpa using f1)
          have f6 := cellsOf_of (G.ti ft) (fun h => hk2 h)
          simp only at f2 f3
          rw [f3] at f4
          simp only [Program.cellsOf, f4, Option.map_some, Option.getD_some] at f6
          simp [f5, f2, f6]
      · cases hx) R hg parts.toList _ z.cells cs (VR_cells (h7 st g _) (by simpa using hu)) hcs
    refine OpOK.pure R (.agg cells) w ?_ (SameW.refl w) (by simp only [VR]; exact ⟨_, rfl, k2⟩)
    have : C.P.built t (parts.map fun (i, x) => (i, a.eval x)).toList = some cells := by
      unfold Program.built
      rw [h4, h3, hparts]
      simp only [h6, h9]
      exact k1
    simp only [execOp, ho]
    rw [Sem.run_bind, Go.run_build w t _ cells this]; rfl
  · rename_i n e hk
    obtain ⟨h3, ⟨info, h4, h5, _, z, h6, h7⟩, _⟩ := (G.ti t).of (by rw [hk]; simp)
    rw [hk] at h3
    split
    · exact All.fail
    rename_i hk2
    obtain ⟨_, ⟨infoe, e4, e5, _⟩, _⟩ := (G.ti e).of (fun h => hk2 h)
    refine All.when fun hu => All.opt fun cs hcs => All.ret ?_
    obtain ⟨cells, k1, k2⟩ := fill_ok (place := fun i => some (i * infoe.size, infoe.size)) (fun i x hx => by rw [e5]; exact hx) R hg parts.toList _ z.cells cs (VR_cells (h7 st g _) (by simpa using hu)) hcs
    refine OpOK.pure R (.agg cells) w ?_ (SameW.refl w) (by simp only [VR]; exact ⟨_, rfl, k2⟩)
    have : C.P.built t (parts.map fun (i, x) => (i, a.eval x)).toList = some cells := by
      unfold Program.built
      rw [h4, h3, hparts]
      simp only [h6, e4]
      exact k1
    simp only [execOp, ho]
    rw [Sem.run_bind, Go.run_build w t _ cells this]; rfl
  · exact All.fail

/-! a new slice with its elements -/
theorem pick_ok : ∀ (ps : List (Nat × Operand)) (k sz : Nat) (l : List V), pickParts (evParts C s ps) k sz = some l →
    l.length = ps.length ∧ ∀ (i : Nat) (p : Nat × Operand), ps[i]? = some p → p.1 = k + i ∧ ∃ x, l[i]? = some x ∧ x = s.ev C p.2 ∧ x.cells.length = sz ∧ x.pure = true ∧ oneL x.cells = true
  | [], k, sz, l, h => by simp [evParts, pickParts] at h; subst h; simp
  | (i0, x) :: r, k, sz, l, h => by
    simp only [evParts, pickParts] at h
    cases h1 : Nat.beq i0 k with
    | false => rw [h1] at h; cases h
    | true =>
      cases h2 : Nat.beq (s.ev C x).cells.length sz with
      | false => rw [h1, h2] at h; cases h
      | true =>
        cases h3 : ((s.ev C x).pure && oneL (s.ev C x).cells) with
        | false => rw [h1, h2, h3] at h; cases h
        | true =>
          rw [h1, h2, h3] at h
          simp only at h
          cases h4 : pickParts (evParts C s r) (k + 1) sz with
          | none => rw [h4] at h; cases h
          | some l' =>
            rw [h4] at h
            cases h
            obtain ⟨k1, k2⟩ := pick_ok r (k + 1) sz l' h4
            simp only [Bool.and_eq_true] at h3
            refine ⟨by simp [k1], fun i p hp => ?_⟩
            cases i with
            | zero =>
              simp at hp; subst hp
              exact ⟨by rw [Nat.eq_of_beq_eq_true h1]; rfl, _, rfl, rfl, Nat.eq_of_beq_eq_true h2, h3.1, h3.2⟩
            | succ i =>
              obtain ⟨k3, y, k4, k5⟩ := k2 i p (by simpa using hp)
              exact ⟨by rw [k3]; omega, y, by simpa using k4, k5⟩

/-- cells that hold the parts of a slice one behind the other -/
theorem fill_row {sz : Nat} (h0 : 0 < sz) (R : Rel E st g s a w) (hg : GlobOK C.gl st) : ∀ (ps : List (Nat × Operand)) (k : Nat) (z : Array Value),
    (∀ (i : Nat) (p : Nat × Operand), ps[i]? = some p → p.1 = k + i ∧ (a.eval p.2).cells.size = sz) → (k + ps.length) * sz ≤ z.size →
    ∃ cells, Instr.fill (fun i => some (i * sz, sz)) z (ps.map fun (i, x) => (i, a.eval x)) = some cells ∧ cells.size = z.size ∧ (∀ j, j < k * sz → cells[j]? = z[j]?) ∧
      ∀ (i : Nat) (p : Nat × Operand), ps[i]? = some p → ∀ j, j < sz → cells[(k + i) * sz + j]? = (a.eval p.2).cells[j]?
  | [], k, z, _, _ => ⟨z, rfl, rfl, fun _ _ => rfl, fun i p hp => by simp at hp⟩
  | (i0, x) :: r, k, z, h, hz => by
    obtain ⟨h1, h2⟩ := h 0 _ rfl
    simp only [Nat.add_zero] at h1
    subst h1
    have hle : (i0 + 1) * sz ≤ z.size := Nat.le_trans (Nat.mul_le_mul_right _ (by simp)) hz
    rw [Nat.add_mul, Nat.one_mul] at hle
    have hin : (a.eval x).cells.toList = [] ∨ i0 * sz + (a.eval x).cells.toList.length ≤ z.toList.length := .inr (by simpa [h2] using hle)
    obtain ⟨cells, k1, k2, k3, k4⟩ := fill_row h0 R hg r (i0 + 1) (over z.toList (i0 * sz) (a.eval x).cells.toList).toArray (fun i p hp => by
        obtain ⟨q1, q2⟩ := h (i + 1) p (by simpa using hp)
        exact ⟨by rw [q1]; omega, q2⟩) (by
        simp only [List.size_toArray, over_length hin, Array.length_toList]
        simp only [List.length_cons] at hz
        rw [show i0 + 1 + r.length = i0 + (r.length + 1) by omega]; exact hz)
    have hget := over_get hin
    refine ⟨cells, ?_, ?_, ?_, ?_⟩
    · rw [List.map_cons]
      unfold Instr.fill
      simp only
      rw [if_neg (by simp [h2]; omega)]
      have := foldl_over (i0 * sz) (a.eval x).cells.toList 0 z (.inr (by simpa [h2] using hle))
      rw [Nat.add_zero] at this
      rw [← k1]
      congr 1
      rw [← this]
      rw [← Array.foldl_toList, Array.toList_zipIdx]
    · rw [k2]; simp only [List.size_toArray, over_length hin, Array.length_toList]
    · intro j hj
      rw [k3 j (by rw [Nat.add_mul]; omega), List.getElem?_toArray, hget, if_neg (by omega)]
      simp
    · intro i p hp j hj
      cases i with
      | zero =>
        simp at hp; subst hp
        simp only [Nat.add_zero]
        rw [k3 _ (by rw [Nat.add_mul, Nat.one_mul]; omega), List.getElem?_toArray, hget, if_pos (by simp [h2]; omega)]
        simp only [Nat.add_sub_cancel_left]
        simp
      | succ i =>
        have := k4 i p (by simpa using hp) j hj
        rw [show i0 + 1 + i = i0 + (i + 1) by omega] at this
        exact this

theorem buildSlice_run {t : TypeId} {len : Nat} {parts : Array (Nat × Operand)} (R : Rel E st g s a w) (hg : GlobOK C.gl st) (G : Good C) (ho : o.op = .buildSlice t len parts) :
    All (fun ef => ∃ x e cells, ef = pe x ∧ C.P.underlying t = some (.slice e) ∧ (execOp a.eval o).run C.P w = .ok (.value (.slice (some ⟨w.heap.size, 0, none⟩) len len)) (w.alloc (.cells cells e)) ∧
      VR (addSt st w.heap.size cells cells.size) g x s.sg.length (.slice (some ⟨w.heap.size, 0, none⟩) len len) ∧
      ∃ l, x = .list true (C.ti e).size l ∧ l.length = len ∧ 0 < (C.ti e).size ∧ cells.size = len * (C.ti e).size ∧ len ≤ maxLen ∧ VRrow st g l (C.ti e).size (fun k => cells[k]?) 0) (evBuildSlice C s t len parts) := by
  unfold evBuildSlice
  simp only [forceDsT_eq]
  split
  · rename_i e hk
    obtain ⟨h3, _⟩ := (G.ti t).of (by rw [hk]; simp)
    rw [hk] at h3
    split
    · exact All.fail
    rename_i hk2
    obtain ⟨_, ⟨infoe, e4, e5, _, z, e6, e7⟩, _⟩ := (G.ti e).of (fun h => hk2 h)
    refine All.when fun hw => All.opt fun l hl => ?_
    rw [forceN_eq]
    refine All.ret ?_
    simp only [Bool.and_eq_true] at hw
    obtain ⟨⟨hw1, hw2⟩, hw3⟩ := hw
    have hw1 := Nat.eq_of_beq_eq_true hw1
    have hw2 := Nat.le_of_ble_eq_true hw2
    have hw3 := Nat.le_of_ble_eq_true hw3
    obtain ⟨p1, p2⟩ := pick_ok parts.toList 0 (C.ti e).size l hl
    have hcell : ∀ (i : Nat) (p : Nat × Operand), parts.toList[i]? = some p → p.1 = 0 + i ∧ (a.eval p.2).cells.size = (C.ti e).size := fun i p hp => by
      obtain ⟨q1, x, q2, q3, q4, q5, q6⟩ := p2 i p hp
      refine ⟨q1, ?_⟩
      have hu : x.isU = false := pure_isU q5
      rw [q3] at q4 hu
      have := VRs_length (VR_cells (ev_ok (C := C) R hg p.2) hu)
      rw [← q4, this]; simp
    have hn0 : ∀ z0 : Array Value, ∃ z1 : Array Value, z1.size = len * (C.ti e).size ∧ (Array.range (len * (C.ti e).size)).map (fun i => z0[i % z0.size]!) = z1 := fun z0 => ⟨_, by simp, rfl⟩
    have hrun : ∃ cells : Array Value, (execOp a.eval o).run C.P w = .ok (.value (.slice (some ⟨w.heap.size, 0, none⟩) len len)) (w.alloc (.cells cells e)) ∧ cells.size = len * (C.ti e).size ∧
        ∀ (i : Nat) (p : Nat × Operand), parts.toList[i]? = some p → ∀ j, j < (C.ti e).size → cells[i * (C.ti e).size + j]? = (a.eval p.2).cells[j]? := by
      have hfin : ∀ z0 : Array Value, ∃ cells : Array Value, Instr.fill (fun i => some (i * (C.ti e).size, (C.ti e).size)) ((Array.range (len * (C.ti e).size)).map (fun i => z0[i % z0.size]!)) (parts.toList.map fun (i, x) => (i, a.eval x)) = some cells ∧ cells.size = len * (C.ti e).size ∧
          ∀ (i : Nat) (p : Nat × Operand), parts.toList[i]? = some p → ∀ j, j < (C.ti e).size → cells[i * (C.ti e).size + j]? = (a.eval p.2).cells[j]? := fun z0 => by
        obtain ⟨cells, k1, k2, _, k4⟩ := fill_row (by omega) R hg parts.toList 0 ((Array.range (len * (C.ti e).size)).map (fun i => z0[i % z0.size]!)) hcell (by simp [hw1])
        exact ⟨cells, k1, by rw [k2]; simp, fun i p hp j hj => by have := k4 i p hp j hj; rwa [Nat.zero_add] at this⟩
      have hparts : (parts.map fun (i, x) => (i, a.eval x)).toList = parts.toList.map fun (i, x) => (i, a.eval x) := by simp
      by_cases h0 : len * (C.ti e).size = 0
      · obtain ⟨cells, k1, k2, k3⟩ := hfin #[]
        refine ⟨cells, ?_, k2, k3⟩
        simp only [execOp, ho]
        rw [Sem.run_bind]
        unfold Instr.buildSlice
        simp only [Sem.run_bind, run_underlying h3, Result.andThen, run_size w (G.ti e) (fun h => hk2 h), hparts]
        rw [if_neg (by omega), if_pos h0]
        simp only [Sem.run_pure, Sem.run_bind, Result.andThen, k1, newRow, run_newObj_alloc]
      · obtain ⟨cells, k1, k2, k3⟩ := hfin z.cells
        refine ⟨cells, ?_, k2, k3⟩
        have hzr : (zeroValue e).run C.P w = .ok z w := by simp [zeroValue, typeInfo, e4, e6]
        simp only [execOp, ho]
        rw [Sem.run_bind]
        unfold Instr.buildSlice
        simp only [Sem.run_bind, run_underlying h3, Result.andThen, run_size w (G.ti e) (fun h => hk2 h), hparts]
        rw [if_neg (by omega), if_neg h0]
        simp only [Sem.run_pure, Sem.run_bind, Result.andThen, hzr, k1, newRow, run_newObj_alloc]
    obtain ⟨cells, hrun, hsz, hcells⟩ := hrun
    have hll : l.length = len := by rw [p1, hw1]
    have hmx : len ≤ maxLen := by simp only [maxLen]; have : len * 1 ≤ len * (C.ti e).size := Nat.mul_le_mul_left _ hw2; omega
    refine ⟨_, e, cells, rfl, h3, hrun, ?_, l, rfl, hll, hw2, hsz, hmx, ?_⟩
    rotate_left
    · rw [VRrow_iff]
      intro i x hx
      have hi : i < parts.toList.length := by
        rw [← p1]
        rcases Nat.lt_or_ge i l.length with h' | h'
        · exact h'
        · simp [List.getElem?_eq_none h'] at hx
      obtain ⟨q1, x', q2, q3, q4, q5, q6⟩ := p2 i _ (List.getElem?_eq_getElem hi)
      rw [hx] at q2; cases q2
      have hv := ev_ok (C := C) R hg (parts.toList[i]).2
      rw [← q3] at hv
      have hu : x.isU = false := pure_isU q5
      have hvc := VR_cells hv hu
      refine ⟨a.eval (parts.toList[i]).2, VR_map (fun _ _ _ h => h) (fun j hj _ => by rw [pure_has q5 j] at hj; cases hj) hv, (hcell i _ (List.getElem?_eq_getElem hi)).2, oneL_of hvc q6, fun j hj => ?_⟩
      rw [← hcells i _ (List.getElem?_eq_getElem hi) j hj, Nat.zero_add]
    simp only [VR, pe]
    refine ⟨_, _, by rw [hll], by omega, by omega, fun _ => hll.symm, .inr ⟨w.heap.size, 0, rfl, hw2, ?_⟩⟩
    rw [VRrow_iff]
    intro i x hx
    have hi : i < parts.toList.length := by
      rw [← p1]
      rcases Nat.lt_or_ge i l.length with h' | h'
      · exact h'
      · simp [List.getElem?_eq_none h'] at hx
    obtain ⟨q1, x', q2, q3, q4, q5, q6⟩ := p2 i _ (List.getElem?_eq_getElem hi)
    rw [hx] at q2; cases q2
    have hv := ev_ok (C := C) R hg (parts.toList[i]).2
    rw [← q3] at hv
    have hu : x.isU = false := pure_isU q5
    have hvc := VR_cells hv hu
    refine ⟨a.eval (parts.toList[i]).2, VR_map (addSt_mono R.wr.st_new) (fun j hj _ => by rw [pure_has q5 j] at hj; cases hj) hv, (hcell i _ (List.getElem?_eq_getElem hi)).2, oneL_of hvc q6, fun j hj => ?_⟩
    rw [← hcells i _ (List.getElem?_eq_getElem hi) j hj]
    simp only [addSt, if_true, Nat.zero_add]
    rw [if_pos]
    rw [hsz, hw1]
    have : (i + 1) * (C.ti e).size ≤ parts.toList.length * (C.ti e).size := Nat.mul_le_mul_right _ hi
    rw [Nat.add_mul, Nat.one_mul] at this
    omega
  · exact All.fail
theorem s_buildSlice {t : TypeId} {len : Nat} {parts : Array (Nat × Operand)} (R : Rel E st g s a w) (hg : GlobOK C.gl st) (G : Good C) (ho : o.op = .buildSlice t len parts) : Snd C E st g s a w o (evBuildSlice C s t len parts) :=  fun ef he => by
  obtain ⟨x, e, cells, rfl, h3, hrun, hv, _⟩ := buildSlice_run R hg G ho ef he
  exact OpOK.val _ _ _ g hrun ⟨addSt_mono R.wr.st_new, fun _ _ _ => rfl, by rw [app_pe]; exact Nat.le_refl _⟩ (by rw [app_pe]; exact R.wr.allocSt cells e (0, 0) cells.size) (by rw [app_pe]; exact hv)

end
end Go.VG
