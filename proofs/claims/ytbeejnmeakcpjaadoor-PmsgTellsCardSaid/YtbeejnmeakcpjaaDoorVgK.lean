/-
  Each symbolic operation tells what the operation does: stores; walks over texts.
-/
import Derived.Test.YtbeejnmeakcpjaaDoorVgJ
set_option linter.unusedSimpArgs false
set_option linter.unusedVariables false
namespace Go.VG
open Go

/-- a block laid anew -/
def putB (w : World) (b : Nat) (o : Obj) : World := { w with heap := w.heap.setIfInBounds b o }
theorem putB_same {w : World} {b : Nat} {o o' : Obj} (h : w.heap[b]? = some o) : (putB w b o').heap[b]? = some o' := by
  have := block_lt h
  simp [putB, this]
theorem putB_other {w : World} {b b' : Nat} {o : Obj} (h : b' ≠ b) : (putB w b o).heap[b']? = w.heap[b']? := by
  simp [putB, Ne.symm h]
theorem putB_size {w : World} {b : Nat} {o : Obj} : (putB w b o).heap.size = w.heap.size := by simp [putB]
theorem putB_putB {w : World} {b : Nat} {o o' : Obj} : putB (putB w b o) b o' = putB w b o' := by
  simp [putB]
theorem putB_id {w : World} {b : Nat} {o : Obj} (h : w.heap[b]? = some o) : putB w b o = w := by
  have hlt := block_lt h
  simp only [putB]
  have : w.heap.setIfInBounds b o = w.heap := by
    apply Array.ext
    · simp
    · intro i h1 h2
      rw [Array.getElem?_eq_getElem hlt] at h
      by_cases e : b = i
      · subst e; simpa using (Option.some.inj h).symm
      · rw [Array.getElem_setIfInBounds_ne _ e]
  rw [this]

theorem setCell_putB {w : World} {b off : Nat} {c : Array Value} {el : TypeId} {fr : Nat × Nat} (h : w.heap[b]? = some (.cells c el fr)) (v : Value) :
    w.setCell ⟨b, off, none⟩ v = putB w b (.cells (c.setIfInBounds off v) el fr) := by
  have hlt := block_lt h
  simp only [World.setCell, putB]
  congr 1
  apply Array.ext
  · simp
  · intro i h1 h2
    by_cases e : b = i
    · subst e
      rw [Array.getElem?_eq_getElem hlt] at h
      simp [Array.getElem_modify, Option.some.inj h]
    · rw [Array.getElem_setIfInBounds_ne _ e, Array.getElem_modify, if_neg e]

theorem over_cons {c : List Value} {o : Nat} {v : Value} {vs : List Value} (h : o < c.length) : over (c.set o v) (o + 1) vs = over c o (v :: vs) := by
  unfold over
  have h1 : (c.set o v).take (o + 1) = c.take o ++ [v] := by
    rw [List.take_succ_eq_append_getElem (by simpa using h)]
    rw [List.take_set_of_le (Nat.le_refl _)]
    simp
  have h2 : (c.set o v).drop (o + 1 + vs.length) = c.drop (o + (v :: vs).length) := by
    rw [List.drop_set_of_lt (by omega)]
    congr 1; simp; omega
  rw [h1, h2]
  simp

theorem over_get {α : Type} {xs ys : List α} {o : Nat} (h : ys = [] ∨ o + ys.length ≤ xs.length) (k : Nat) : (over xs o ys)[k]? = if o ≤ k ∧ k < o + ys.length then ys[k - o]? else xs[k]? := by
  unfold over
  rcases h with rfl | h
  · rw [if_neg (by simp only [List.length_nil]; omega)]; simp
  have h1 : (xs.take o).length = o := by simp; omega
  rcases Nat.lt_or_ge k o with hk | hk
  · rw [if_neg (by omega), List.append_assoc, List.getElem?_append_left (by omega), List.getElem?_take, if_pos hk]
  · rcases Nat.lt_or_ge k (o + ys.length) with hk2 | hk2
    · rw [if_pos ⟨hk, hk2⟩, List.append_assoc, List.getElem?_append_right (by omega), List.getElem?_append_left (by omega), h1]
    · rw [if_neg (by omega), List.getElem?_append_right (by simp; omega), List.getElem?_drop]
      congr 1
      simp only [List.length_append, h1]; omega
theorem over_mem {α : Type} {xs ys : List α} {o : Nat} {v : α} (h : v ∈ over xs o ys) : v ∈ xs ∨ v ∈ ys := by
  unfold over at h
  rcases List.mem_append.1 h with h | h
  · rcases List.mem_append.1 h with h | h
    · exact .inl (List.mem_of_mem_take h)
    · exact .inr h
  · exact .inl (List.mem_of_mem_drop h)

theorem run_storeCells_blk {P : Program} {b o : Nat} {el : TypeId} {fr : Nat × Nat} : ∀ (vs : List Value) (i : Nat) (c : Array Value) (w : World), w.heap[b]? = some (.cells c el fr) → ffree c fr → (vs = [] ∨ o + i + vs.length ≤ c.size) →
    (∀ v ∈ vs, v.oneCell' = true) → (storeCells ⟨b, o, none⟩ vs i).run P w = .ok () (putB w b (.cells (over c.toList (o + i) vs).toArray el fr))
  | [], i, c, w, h, _, _, _ => by
    have : over c.toList (o + i) [] = c.toList := by simp [over]
    rw [this, Array.toArray_toList, putB_id h]
    rfl
  | v :: vs, i, c, w, h, hf, hl, h1 => by
    have hl' : o + i + (vs.length + 1) ≤ c.size := by
      rcases hl with hl | hl
      · cases hl
      · simpa using hl
    have hst : (store ((⟨b, o, none⟩ : Addr).add i) v).run P w = .ok () (putB w b (.cells (c.setIfInBounds (o + i) v) el fr)) := by
      rw [Addr.add_lit, run_store P w _ v _ (h1 v (by simp)), cell?_of h]
      have hlt : o + i < c.size := by omega
      rw [Array.getElem?_eq_getElem hlt]
      simp only
      rw [frozen?_of h hf hlt, setCell_putB h]
      simp
    have h' : (putB w b (.cells (c.setIfInBounds (o + i) v) el fr)).heap[b]? = some (.cells (c.setIfInBounds (o + i) v) el fr) := putB_same h
    have ih := run_storeCells_blk (P := P) (o := o) vs (i + 1) (c.setIfInBounds (o + i) v) (putB w b (.cells (c.setIfInBounds (o + i) v) el fr)) h' ⟨hf.1, fun k hk => hf.2 k (by simpa using hk)⟩ (.inr (by simp; omega)) (fun u hu => h1 u (by simp [hu]))
    unfold storeCells
    rw [Sem.run_bind, hst]
    simp only [Result.andThen]
    rw [ih, putB_putB]
    congr 2
    rw [Array.toList_setIfInBounds, ← Nat.add_assoc, over_cons (by simp; omega)]

/-- the world behind a change of one block that an object owns -/
theorem Chg.putB {E : Env} {st : St} {w : World} {b : Nat} {o : Obj} (hG : E.G b) (B : Nat → Prop) (hB : ∀ b', B b' ↔ b' = b)
    (hold : ∀ k v, st b k = some v → (putB w b o).cell? ⟨b, k, none⟩ = some v) : Chg E st st w (putB w b o) B where
  os := rfl
  tape := rfl
  output := rfl
  size := by rw [putB_size]; exact Nat.le_refl _
  keep := fun b' _ hn => putB_other (fun e => hn ((hB b').2 e))
  own := fun b' h => by rw [(hB b').1 h]; exact hG
  mono := fun _ _ _ h => h
  newst := fun _ _ _ h => .inl h
  oldst := fun b' k v h hv => by rw [(hB b').1 h] at hv ⊢; exact hold k v hv

section
variable {C : Ctx} {E : Env} {st : St} {g : Ghost} {s : AS} {a : Act} {w : World} {o : Oper} {e : Ef}

theorem oneL_of {xs : List V} {n : Nat} {vs : List Value} (h : VRs st g xs n vs) (ho : oneL xs = true) : ∀ v ∈ vs, v.oneCell' = true := by
  induction xs generalizing vs with
  | nil => simp only [VRs] at h; subst h; simp
  | cons x xs ih =>
    simp only [VRs] at h
    obtain ⟨u, us, rfl, h1, h2⟩ := h
    simp only [oneL, Bool.and_eq_true] at ho
    intro v hv
    cases hv with
    | head => exact one_of h1 ho.1
    | tail _ hv => exact ih h2 ho.2 v hv

theorem pureL_VRs {xs : List V} {n n' : Nat} {vs : List Value} (h : VRs st g xs n vs) (hp : V.pureL xs = true) : VRs st g xs n' vs :=
  VRs_map (fun _ _ _ h => h) (fun i hi _ => by rw [pureL_has hp i] at hi; cases hi) h
theorem pure_VR {x : V} {n n' : Nat} {v : Value} (h : VR st g x n v) (hp : x.pure = true) : VR st g x n' v :=
  VR_map (fun _ _ _ h => h) (fun i hi _ => by rw [pure_has hp i] at hi; cases hi) h
theorem pure_cells {x : V} (hp : x.pure = true) : V.pureL x.cells = true := by
  cases x <;> simp only [V.pure] at hp <;> first
    | exact hp
    | (simp [V.cells, V.pureL, V.pure, hp]; done)
    | (simp only [V.cells, V.pureL, V.pure, hp, Bool.and_true]; exact hp)
    | simp_all [V.cells, V.pureL, V.pure]

theorem s_store {t : TypeId} {x y : Operand} (R : Rel E st g s a w) (hg : GlobOK C.gl st) (G : Good C) (ho : o.op = .store t x y) : Snd C E st g s a w o (evStore C s t x y) := by
  unfold evStore
  simp only [idxT_eq]
  split
  · exact All.fail
  rename_i hk
  have hk : (C.ti t).k ≠ .other := fun h => hk h
  have hx := ev_ok (C := C) R hg x
  have hy := ev_ok (C := C) R hg y
  rw [force_eq]
  refine All.when fun hw => ?_
  simp only [Bool.and_eq_true, Bool.not_eq_true'] at hw
  obtain ⟨⟨hsz, hu⟩, h1⟩ := hw
  have hsz := Nat.eq_of_beq_eq_true hsz
  have hc := VR_cells hy hu
  have hsz' : (a.eval y).cells.size = (C.ti t).size := by rw [← hsz, VRs_length hc]; simp
  have hone := oneL_of hc h1
  have hrun : ∀ b off, a.eval x = .pointer (some ⟨b, off, none⟩) → ∀ c el fr, w.heap[b]? = some (.cells c el fr) → ffree c fr → ((a.eval y).cells.toList = [] ∨ off + (a.eval y).cells.toList.length ≤ c.size) →
      (execOp a.eval o).run C.P w = .ok .skip (putB w b (.cells (over c.toList off (a.eval y).cells.toList).toArray el fr)) := fun b off hb c el fr hbl hf hlen => by
    have := run_storeCells_blk (P := C.P) (b := b) (o := off) (a.eval y).cells.toList 0 c w hbl hf (by simpa using hlen) hone
    rw [Nat.add_zero] at this
    simp [execOp, ho, Instr.storeAt, hb, Instr.sureAddr, storeVar, hsz', run_size w (G.ti t) hk, this]
  generalize (a.eval y).cells.toList = ys at hc hone hrun
  split
  · rename_i i off he
    rw [he] at hx
    simp only [VR] at hx
    obtain ⟨hi, b, hb, hx⟩ := hx
    split
    · rename_i cs hs
      obtain ⟨hs1, _⟩ := getSg_eq hs (by simp)
      obtain ⟨b', c, el, fr, k1, k2, k3, k4, k5, k6⟩ := cells_look R.wr hs1
      rw [hb] at k1; cases k1
      refine All.opt fun cs' hcs' => All.ret ?_
      obtain ⟨r1, r2⟩ := setL_eq hcs'
      subst r1
      have hcl := VRs_length k4
      have hyl := VRs_length hc
      have hlen : ys = [] ∨ off + ys.length ≤ c.size := by
        rcases r2 with r2 | r2
        · left; apply List.eq_nil_of_length_eq_zero; rw [← hyl, r2]; rfl
        · right; rw [← hyl]; simp only [Array.length_toList] at hcl; omega
      refine OpOK.turn R hi undef _ (g i) (.inr ⟨hrun b off hx c el fr k3 k5 hlen, rfl⟩)
        (Chg.putB k2 _ (fun b' => by rw [hb]; simp [eq_comm]) (fun k v hv => by rw [k6 k] at hv; cases hv)) (.inl rfl) (fun b hb => .inl hb) ?_ (by simp [VR])
      have hug : ∀ j, upd g i (g i) j = g j := fun j => by by_cases e : j = i <;> simp [upd, e]
      refine ⟨b, _, el, fr, hb, k2, putB_same k3, ?_, ?_, k6⟩
      · exact VRs_map (fun _ _ _ h => h) (fun j _ hj => ⟨hj, hug j⟩) (VRs_over k4 hc)
      · refine ⟨k5.1, fun k hk => ?_⟩
        refine k5.2 k ?_
        have := over_length (xs := c.toList) (by simpa using hlen)
        simp only [List.size_toArray, this, Array.length_toList] at hk
        exact hk
    · exact All.fail
  · rename_i i idx off he
    rw [he] at hx
    simp only [VR] at hx
    obtain ⟨hi, b, hb, hx⟩ := hx
    split
    · rename_i sz pre l hs
      obtain ⟨hs1, _⟩ := getSg_eq hs (by simp)
      obtain ⟨q1, q2, q3, q4, q5, q6, q7⟩ := R.wr.ob i _ hs1
      refine All.opt fun z hz => ?_
      split
      · rename_i cs hzz
        refine All.when fun hp => All.opt fun cs' hcs' => All.req fun hpre => All.ret ?_
        obtain ⟨r1, r2⟩ := setL_eq hcs'
        subst r1
        rcases q7 with ⟨_, q7⟩ | ⟨b', c, el, fr, k1, k2, k3, k4, k5, k6, k7, k8⟩
        · rw [hb] at q7; cases q7
        rw [hb] at k1; cases k1
        obtain ⟨u, u1, u2, u3, u4⟩ := VRrow_iff.1 k6 idx _ hz
        simp only [VR] at u1
        obtain ⟨us, rfl, u1⟩ := u1
        simp only [Value.cells] at u2 u3 u4
        have hidx : idx < l.length := by
          rcases Nat.lt_or_ge idx l.length with h' | h'
          · exact h'
          · simp [List.getElem?_eq_none h'] at hz
        have hyl := VRs_length hc
        have hul := VRs_length u1
        have hin : (idx + 1) * sz ≤ c.size := by
          rw [k5]; exact Nat.mul_le_mul_right _ (by omega)
        rw [Nat.add_mul, Nat.one_mul] at hin
        have hlen2 : ys = [] ∨ off + ys.length ≤ us.toList.length := by
          rcases r2 with r2 | r2
          · left; apply List.eq_nil_of_length_eq_zero; rw [← hyl, r2]; rfl
          · right; omega
        have hul2 : us.toList.length = sz := by simpa using u2
        have hlen : ys = [] ∨ (idx * sz + off) + ys.length ≤ c.size := by
          rcases hlen2 with h | h
          · exact .inl h
          · right; omega
        have hlen' : ys = [] ∨ idx * sz + off + ys.length ≤ c.toList.length := by simpa using hlen
        have hcell := over_get (xs := c.toList) (ys := ys) (o := idx * sz + off) hlen'
        have hcell2 := over_get (xs := us.toList) (ys := ys) (o := off) hlen2
        have hug : ∀ j, upd g i (g i) j = g j := fun j => by by_cases e : j = i <;> simp [upd, e]
        have hugf : upd g i (g i) = g := funext hug
        have hoff : ys.length = 0 ∨ off + ys.length ≤ sz := by
          rcases hlen2 with h | h
          · left; rw [h]; rfl
          · right; omega
        rw [q2] at hx
        refine OpOK.turn R hi undef _ (g i) (.inr ⟨hrun b _ hx c el fr k4 k7 hlen, rfl⟩)
          (Chg.putB k3 _ (fun b' => by rw [hb]; simp [eq_comm]) (fun k v hv => ?_)) (.inl rfl) (fun b hb => .inl hb) ?_ (by simp [VR])
        · have h9 := k8 k v hv
          have h10 := R.wr.stw _ _ _ hv
          rw [cell?_of k4] at h10
          rw [cell?_of (putB_same k4), List.getElem?_toArray, hcell, if_neg, ← h10]
          · simp
          · have : pre * sz ≤ idx * sz := Nat.mul_le_mul_right _ hpre
            omega
        · rw [hugf]
          refine ⟨q1, q2, by simpa using q3, by simpa using q4, by simpa using q5, by simpa using q6, .inr ⟨b, _, el, fr, hb, k2, k3, putB_same k4, ?_, ?_, ?_, k8⟩⟩
          · simp only [List.size_toArray, over_length hlen', Array.length_toList]; exact k5
          · rw [VRrow_iff]
            intro j z' hz'
            rw [List.getElem?_set] at hz'
            by_cases e : idx = j
            · subst e
              rw [if_pos rfl, if_pos hidx] at hz'
              cases hz'
              refine ⟨.agg (over us.toList off ys).toArray, ?_, ?_, ?_, fun k hk => ?_⟩
              · simp only [VR]
                exact ⟨_, rfl, VRs_over u1 (pureL_VRs hc (pure_cells hp))⟩
              · simp only [Value.cells, List.size_toArray, over_length hlen2]; exact hul2
              · intro v hv
                simp only [Value.cells] at hv
                rcases over_mem hv with h | h
                · exact u3 v h
                · exact hone v h
              · simp only [Value.cells]
                rw [List.getElem?_toArray, List.getElem?_toArray, Nat.zero_add, hcell, hcell2]
                have h5 := u4 k hk
                rw [Nat.zero_add] at h5
                by_cases hin2 : off ≤ k ∧ k < off + ys.length
                · rw [if_pos hin2, if_pos (by omega)]
                  congr 1; omega
                · rw [if_neg hin2, if_neg (by omega)]
                  simpa using h5
            · rw [if_neg e] at hz'
              obtain ⟨v1, v2, v3, v4, v5⟩ := VRrow_iff.1 k6 j z' hz'
              refine ⟨v1, v2, v3, v4, fun k hk => ?_⟩
              rw [← v5 k hk, List.getElem?_toArray, hcell, if_neg]
              · simp
              · rcases Nat.lt_or_ge j idx with h | h
                · have : (j + 1) * sz ≤ idx * sz := Nat.mul_le_mul_right _ h
                  rw [Nat.add_mul, Nat.one_mul] at this
                  omega
                · have : (idx + 1) * sz ≤ j * sz := Nat.mul_le_mul_right _ (by omega)
                  rw [Nat.add_mul, Nat.one_mul] at this
                  omega
          · refine ⟨k7.1, fun k hk => ?_⟩
            refine k7.2 k ?_
            simp only [List.size_toArray, over_length (xs := c.toList) hlen', Array.length_toList] at hk
            exact hk
      · exact All.fail
    · exact All.fail
  · exact All.fail
end
end Go.VG
