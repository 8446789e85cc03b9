/-
  What data are, type by type; what is known of a function where its arguments are what they have to be.
-/
import Derived.Test.YtbeejnmeakcpjaaDoorVgZ
set_option linter.unusedSimpArgs false
set_option linter.unusedVariables false
namespace Go.VG
open Go
section
variable {H : Type} {ti : TypeId → TI} {f : Nat} {t : TypeId} {d : DataW H} {xs : List V}
theorem cellsD_int {k : IntKind} (hk : (ti t).k = .int k) (h : cellsD ti f t d = some xs) : ∃ k' n, xs = [.int k' n] := by
  cases f with
  | zero => simp [cellsD] at h
  | succ f =>
    unfold cellsD at h
    rw [hk] at h
    split at h <;> simp_all
    exact ⟨_, _, h.symm⟩
theorem cellsD_intK {k : IntKind} (hk : (ti t).k = .int k) (h : cellsD ti f t d = some xs) : ∃ n, xs = [.int k n] := by
  cases f with
  | zero => simp [cellsD] at h
  | succ f =>
    unfold cellsD at h
    rw [hk] at h
    split at h <;> simp_all
    exact ⟨_, h.symm⟩
theorem cellsD_bool (hk : (ti t).k = .bool) (h : cellsD ti f t d = some xs) : ∃ b, xs = [.bool b] := by
  cases f with
  | zero => simp [cellsD] at h
  | succ f =>
    unfold cellsD at h
    rw [hk] at h
    split at h
    all_goals first
      | (cases h; exact ⟨_, rfl⟩)
      | (simp_all; done)
theorem cellsD_str (hk : (ti t).k = .string) (h : cellsD ti f t d = some xs) : ∃ s, xs = [.str s] := by
  cases f with
  | zero => simp [cellsD] at h
  | succ f =>
    unfold cellsD at h
    rw [hk] at h
    split at h <;> simp_all
    exact ⟨_, h.symm⟩
theorem cellsD_slice {e : TypeId} (hk : (ti t).k = .slice e) (h : cellsD ti f t d = some xs) : xs = [.list true (ti e).size []] ∨ ∃ f' ds l, f = f' + 1 ∧ (ds : List (DataW H)).mapM (fun x => (cellsD ti f' e x).bind (asV (ti e).k.isAgg)) = some l ∧ xs = [.list false (ti e).size l] := by
  cases f with
  | zero => simp [cellsD] at h
  | succ f =>
    unfold cellsD at h
    rw [hk] at h
    split at h <;> simp_all
    · rename_i h1
      obtain ⟨l, h3, h4⟩ := h
      exact .inr ⟨_, l, h3, h4.symm⟩
theorem cellsD_struct {fs : List (Nat × TypeId)} (hk : (ti t).k = .struct fs) (h : cellsD ti f t d = some xs) : ∃ f' parts xss, f = f' + 1 ∧ (parts : List (DataW H)).length = fs.length ∧ (fs.zip parts).mapM (fun p => cellsD ti f' p.1.2 p.2) = some xss ∧ xs = xss.flatten := by
  cases f with
  | zero => simp [cellsD] at h
  | succ f =>
    unfold cellsD at h
    rw [hk] at h
    cases d <;> simp only at h <;> try (cases h; done)
    rename_i parts
    cases hb : Nat.beq fs.length parts.length with
    | false => rw [hb] at h; cases h
    | true =>
      rw [hb] at h
      simp only [cond_true, Option.map_eq_some_iff] at h
      obtain ⟨xss, h2, h3⟩ := h
      exact ⟨f, parts, xss, rfl, (Nat.eq_of_beq_eq_true hb).symm, h2, h3.symm⟩
theorem mapM_two {α β : Type} {g : α → Option β} {x : α} {l : List α} {r : List β} (h : (x :: l).mapM g = some r) : ∃ y ys, g x = some y ∧ l.mapM g = some ys ∧ r = y :: ys := by
  rw [List.mapM_cons] at h
  cases hx : g x with
  | none => rw [hx] at h; simp at h
  | some y =>
    rw [hx] at h
    cases hl : l.mapM g with
    | none => rw [hl] at h; simp at h
    | some ys =>
      rw [hl] at h
      simp at h
      exact ⟨y, ys, rfl, rfl, h.symm⟩
/-- a list of what is each a thing is a list of things -/
theorem list_of {α β : Type} {g : α → Option V} {enc : β → V} {sz : Nat} : ∀ {ds : List α} {l : List V}, ds.mapM g = some l → (∀ d x, g d = some x → ∃ b, Wk x (enc b)) → ∃ bs : List β, Wk (.list false sz l) (.list false sz (bs.map enc)) ∧ bs.length = ds.length
  | [], l, h, _ => by
    simp at h; subst h
    exact ⟨[], Wk.refl _, rfl⟩
  | d :: ds, l, h, hd => by
    obtain ⟨y, ys, h1, h2, rfl⟩ := mapM_two h
    obtain ⟨b, hb⟩ := hd _ _ h1
    obtain ⟨bs, hbs, hl⟩ := list_of (sz := sz) h2 hd
    have hlen : ys.length = bs.length := by rw [hl]; exact mapM_some_length h2
    refine ⟨b :: bs, ?_, by simp [hl]⟩
    intro st gg n v k
    simp only [VR] at k
    obtain ⟨base, cap, rfl, k1, k2, _, k3⟩ := k
    rcases k3 with k3 | ⟨bb, o, k4, k5, k6⟩
    · cases k3
    · have k7 : VR st gg (.list false sz ys) n (.slice (some ⟨bb, o + sz, none⟩) ys.length ys.length) := by
        simp only [VR]
        simp only [VRrow] at k6
        refine ⟨_, _, rfl, Nat.le_refl _, by simp at k2; omega, by simp, ?_⟩
        cases ys with
        | nil => exact .inl rfl
        | cons _ _ => exact .inr ⟨bb, o + sz, rfl, k5, k6.2⟩
      have k8 := hbs st gg n _ k7
      simp only [VR] at k8 ⊢
      refine ⟨base, cap, by simp [hlen], by simpa [hlen] using k1, by simpa [hlen] using k2, by simp, .inr ⟨bb, o, k4, k5, ?_⟩⟩
      simp only [VRrow, List.map_cons] at k6 ⊢
      obtain ⟨⟨u, q1, q2⟩, _⟩ := k6
      refine ⟨⟨u, hb _ _ _ _ q1, q2⟩, ?_⟩
      obtain ⟨base', cap', e1, _, _, _, e2⟩ := k8
      rcases e2 with e2 | ⟨b2, o2, e3, _, e4⟩
      · rw [e2]; simp [VRrow]
      · simp only [Value.slice.injEq] at e1
        obtain ⟨e1, _, _⟩ := e1
        rw [e3] at e1
        cases e1
        exact e4
theorem cellsD_strD (hk : (ti t).k = .string) (h : cellsD ti f t d = some xs) : ∃ s, xs = [.str s] ∧ d = .lit (.string s) := by
  cases f with
  | zero => simp [cellsD] at h
  | succ f =>
    unfold cellsD at h
    rw [hk] at h
    split at h <;> simp_all
theorem cellsD_sliceD {e : TypeId} (hk : (ti t).k = .slice e) (h : cellsD ti f t d = some xs) : xs = [.list true (ti e).size []] ∨ ∃ f' ds sp l, f = f' + 1 ∧ d = .slice ds sp ∧ (ds : List (DataW H)).mapM (fun x => (cellsD ti f' e x).bind (asV (ti e).k.isAgg)) = some l ∧ xs = [.list false (ti e).size l] := by
  cases f with
  | zero => simp [cellsD] at h
  | succ f =>
    unfold cellsD at h
    rw [hk] at h
    cases d <;> simp only at h <;> try (cases h; done)
    · cases h; exact .inl rfl
    · rename_i elems sp
      simp only [Option.map_eq_some_iff] at h
      obtain ⟨l, h3, h4⟩ := h
      exact .inr ⟨f, elems, sp, l, rfl, rfl, h3, h4.symm⟩
theorem cellsD_structD {fs : List (Nat × TypeId)} (hk : (ti t).k = .struct fs) (h : cellsD ti f t d = some xs) : ∃ f' parts xss, f = f' + 1 ∧ d = .agg parts ∧ (parts : List (DataW H)).length = fs.length ∧ (fs.zip parts).mapM (fun p => cellsD ti f' p.1.2 p.2) = some xss ∧ xs = xss.flatten := by
  cases f with
  | zero => simp [cellsD] at h
  | succ f =>
    unfold cellsD at h
    rw [hk] at h
    cases d <;> simp only at h <;> try (cases h; done)
    rename_i parts
    cases hb : Nat.beq fs.length parts.length with
    | false => rw [hb] at h; cases h
    | true =>
      rw [hb] at h
      simp only [cond_true, Option.map_eq_some_iff] at h
      obtain ⟨xss, h2, h3⟩ := h
      exact ⟨f, parts, xss, rfl, rfl, (Nat.eq_of_beq_eq_true hb).symm, h2, h3.symm⟩
/-- the same, with what is known of each -/
theorem list_ofQ {α β : Type} {g : α → Option V} {enc : β → V} {sz : Nat} {Q : α → β → Prop} : ∀ {ds : List α} {l : List V}, ds.mapM g = some l → (∀ d ∈ ds, ∀ x, g d = some x → ∃ b, Wk x (enc b) ∧ Q d b) →
    ∃ bs : List β, Wk (.list false sz l) (.list false sz (bs.map enc)) ∧ bs.length = ds.length ∧ ∀ b ∈ bs, ∃ d ∈ ds, Q d b
  | [], l, h, _ => by
    simp at h; subst h
    exact ⟨[], Wk.refl _, rfl, by simp⟩
  | d :: ds, l, h, hd => by
    obtain ⟨y, ys, h1, h2, rfl⟩ := mapM_two h
    obtain ⟨b, hb, hq⟩ := hd d (by simp) _ h1
    obtain ⟨bs, hbs, hl, hqs⟩ := list_ofQ (sz := sz) h2 fun e he => hd e (by simp [he])
    have hlen : ys.length = bs.length := by rw [hl]; exact mapM_some_length h2
    refine ⟨b :: bs, ?_, by simp [hl], fun c hc => ?_⟩
    · intro st gg n v k
      simp only [VR] at k
      obtain ⟨base, cap, rfl, k1, k2, _, k3⟩ := k
      rcases k3 with k3 | ⟨bb, o, k4, k5, k6⟩
      · cases k3
      · have k7 : VR st gg (.list false sz ys) n (.slice (some ⟨bb, o + sz, none⟩) ys.length ys.length) := by
          simp only [VR]
          simp only [VRrow] at k6
          refine ⟨_, _, rfl, Nat.le_refl _, by simp at k2; omega, by simp, ?_⟩
          cases ys with
          | nil => exact .inl rfl
          | cons _ _ => exact .inr ⟨bb, o + sz, rfl, k5, k6.2⟩
        have k8 := hbs st gg n _ k7
        simp only [VR] at k8 ⊢
        refine ⟨base, cap, by simp [hlen], by simpa [hlen] using k1, by simpa [hlen] using k2, by simp, .inr ⟨bb, o, k4, k5, ?_⟩⟩
        simp only [VRrow, List.map_cons] at k6 ⊢
        obtain ⟨⟨u, q1, q2⟩, _⟩ := k6
        refine ⟨⟨u, hb _ _ _ _ q1, q2⟩, ?_⟩
        obtain ⟨base', cap', e1, _, _, _, e2⟩ := k8
        rcases e2 with e2 | ⟨b2, o2, e3, _, e4⟩
        · rw [e2]; simp [VRrow]
        · simp only [Value.slice.injEq] at e1
          obtain ⟨e1, _, _⟩ := e1
          rw [e3] at e1
          cases e1
          exact e4
    · rcases List.mem_cons.1 hc with rfl | hc
      · exact ⟨d, by simp, hq⟩
      · obtain ⟨e, he, hqe⟩ := hqs c hc
        exact ⟨e, by simp [he], hqe⟩
theorem AreD_one {t : TypeId} {ds : List (DataW H)} {xs : List V} (h : AreD ti [t] ds xs) : ∃ d x, ds = [d] ∧ xs = [x] ∧ IsD ti t d x := by
  match ds, xs, h with
  | [d], [x], h => exact ⟨d, x, rfl, rfl, h.1⟩
  | [], [], h => exact h.elim
  | [], _ :: _, h => exact h.elim
  | [_], [], h => exact h.elim
  | [_], _ :: _ :: _, h => exact h.2.elim
  | _ :: _ :: _, [], h => exact h.elim
  | _ :: _ :: _, _ :: _, h => exact absurd h.2 (by simp [AreD])
theorem AreD_cons {t : TypeId} {ts : List TypeId} {ds : List (DataW H)} {xs : List V} (h : AreD ti (t :: ts) ds xs) : ∃ d x ds' xs', ds = d :: ds' ∧ xs = x :: xs' ∧ IsD ti t d x ∧ AreD ti ts ds' xs' := by
  match ds, xs, h with
  | d :: ds, x :: xs, h => exact ⟨d, x, ds, xs, rfl, rfl, h.1, h.2⟩
  | [], [], h => exact h.elim
  | [], _ :: _, h => exact h.elim
  | _ :: _, [], h => exact h.elim
theorem AreD_nil {ds : List (DataW H)} {xs : List V} (h : AreD ti [] ds xs) : ds = [] ∧ xs = [] := by
  match ds, xs, h with
  | [], [], _ => exact ⟨rfl, rfl⟩
  | [], _ :: _, h => exact h.elim
  | _ :: _, [], h => exact h.elim
  | _ :: _, _ :: _, h => exact h.elim
theorem isD_strD (hk : (ti t).k = .string) {x : V} (h : IsD ti t d x) : ∃ s, x = .str s ∧ d = .lit (.string s) := by
  obtain ⟨f, h⟩ := h
  simp only [Option.bind_eq_some_iff] at h
  obtain ⟨cs, h1, h2⟩ := h
  obtain ⟨s, rfl, rfl⟩ := cellsD_strD hk h1
  rw [hk] at h2
  have h2 : some (V.str s) = some x := h2
  cases h2
  exact ⟨s, rfl, rfl⟩
theorem laidMetH_nil {P : Program} {W : World} : laidMetH P [] W := ⟨[], rfl, by simp, by simp⟩
end
theorem FunOK.of_wf {P : Program} {gl : Nat → Option (List V)} {f : FuncId} {xs : List V} {σ : List O} {x : V} {r : Option (List O)} (hc : CallOK P f) (h : V.wfL xs → FunOK P gl f xs σ x r) : FunOK P gl f xs σ x r :=
  ⟨hc, fun E st g w vs W hg hv => (h (VRs_wf hv)).2 E st g w vs W hg hv⟩
end Go.VG
