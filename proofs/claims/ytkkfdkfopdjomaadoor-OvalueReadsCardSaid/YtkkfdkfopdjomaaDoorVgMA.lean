/-
  Each symbolic operation tells what the operation does: maps.
-/
import Derived.Test.YtkkfdkfopdjomaaDoorVgK
import Derived.MapKept
import Derived.Maps.RangeRun
import Derived.DeepKeys
import Derived.DeepKeys4
import Derived.StringKeys
set_option linter.unusedSimpArgs false
set_option linter.unusedVariables false
namespace Go.VG
open Go

theorem keq_eq {k k' : IntKind} (h : keq k k' = true) : k = k' := by cases k <;> cases k' <;> first | rfl | cases h
theorem scEq_eq {a b : Sc} (h : scEq a b = true) : a = b := by
  cases a <;> cases b <;> first
    | rfl
    | (cases h; done)
    | (simp only [scEq] at h; rw [keq_eq h])
theorem shEq_eq : ∀ {a b : List Sc}, shEq a b = true → a = b
  | [], [], _ => rfl
  | x :: xs, y :: ys, h => by
    simp only [shEq, Bool.and_eq_true] at h
    rw [scEq_eq h.1, shEq_eq h.2]
  | [], _ :: _, h => by cases h
  | _ :: _, [], h => by cases h
theorem beqB_eq {a b : Bool} (h : beqB a b = true) : a = b := by cases a <;> cases b <;> first | rfl | cases h
/-! keys -/
theorem VR_1 {st : St} {g : Ghost} {n : Nat} {k : Sc} {x : V} {v : Value} (hf : fits1 k x = true) (h : VR st g x n v) : v = val1 x ∧ ok1 x := by
  cases k <;> cases x <;> first
    | (cases hf; done)
    | (simp only [VR] at h; first | exact ⟨h, trivial⟩ | exact ⟨h.1, h.2⟩)
theorem VRs_K {st : St} {g : Ghost} {n : Nat} : ∀ {sh : List Sc} {cs : List V} {vs : List Value}, fitsL sh cs = true → VRs st g cs n vs → vs = cs.map val1 ∧ ∀ c ∈ cs, ok1 c
  | _, [], vs, _, h => by simp only [VRs] at h; subst h; exact ⟨rfl, by simp⟩
  | [], _ :: _, _, hf, _ => by cases hf
  | k :: ks, c :: cs, vs, hf, h => by
    simp only [VRs] at h
    obtain ⟨u, us, rfl, h1, h2⟩ := h
    simp only [fitsL, Bool.and_eq_true] at hf
    obtain ⟨rfl, o1⟩ := VR_1 hf.1 h1
    obtain ⟨rfl, o2⟩ := VRs_K hf.2 h2
    refine ⟨rfl, fun d hd => ?_⟩
    rcases List.mem_cons.1 hd with rfl | hd
    · exact o1
    · exact o2 d hd
theorem fits_one {sh : List Sc} {x : V} (h : fitsL sh [x] = true) : ∃ k, sh = [k] ∧ fits1 k x = true := by
  match sh, h with
  | [k], h => simp only [fitsL, Bool.and_true] at h; exact ⟨k, rfl, h⟩
  | [], h => cases h
  | _ :: _ :: _, h => simp [fitsL] at h
theorem fitsK_cases {ag : Bool} {sh : List Sc} {x : V} (h : fitsK ag sh x = true) : (∃ cs, x = .agg cs ∧ ag = true ∧ fitsL sh cs = true) ∨ (∃ k, ag = false ∧ sh = [k] ∧ fits1 k x = true ∧ valK x = val1 x ∧ (okK x ↔ ok1 x)) := by
  cases x with
  | agg cs =>
    left
    cases ag with
    | true => exact ⟨cs, rfl, rfl, h⟩
    | false => cases h
  | _ =>
    right
    cases ag with
    | true => cases h
    | false =>
      obtain ⟨k, h1, h2⟩ := fits_one (show fitsL sh [_] = true from h)
      exact ⟨k, rfl, h1, h2, rfl, Iff.rfl⟩
theorem VR_K {st : St} {g : Ghost} {n : Nat} {ag : Bool} {sh : List Sc} {x : V} {v : Value} (hf : fitsK ag sh x = true) (h : VR st g x n v) : v = valK x ∧ okK x := by
  rcases fitsK_cases hf with ⟨cs, rfl, _, h1⟩ | ⟨k, _, _, h1, h2, h3⟩
  · simp only [VR] at h
    obtain ⟨vs, rfl, h⟩ := h
    obtain ⟨h2, h3⟩ := VRs_K h1 h
    refine ⟨?_, h3⟩
    show Value.agg vs = .agg (cs.map val1).toArray
    rw [← h2]
  · obtain ⟨rfl, h5⟩ := VR_1 h1 h
    exact ⟨h2.symm, h3.2 h5⟩
theorem ba_inj {a b : List UInt8} (h : (⟨a.toArray⟩ : ByteArray) = ⟨b.toArray⟩) : a = b := by
  have := congrArg (fun x : ByteArray => x.data.toList) h
  simpa using this
theorem val1_inj {k : Sc} {x y : V} (hx : fits1 k x = true) (hy : fits1 k y = true) : val1 x = val1 y ↔ keq1 x y = true := by
  cases k <;> cases x <;> simp only [fits1, Bool.false_eq_true] at hx <;> cases y <;> simp only [fits1, Bool.false_eq_true] at hy
  · simp [val1, keq1]
  · have hx := keq_eq hx
    have hy := keq_eq hy
    subst hx; subst hy
    simp [val1, keq1]
  · simp only [val1, keq1, beq_iff_eq]
    constructor
    · intro h; injection h with h; exact ba_inj h
    · intro h; rw [h]
theorem vals_inj : ∀ {sh : List Sc} {cs ds : List V}, fitsL sh cs = true → fitsL sh ds = true → (cs.map val1 = ds.map val1 ↔ keqs cs ds = true)
  | _, [], [], _, _ => by simp [keqs]
  | [], _ :: _, _, h, _ => by cases h
  | [], _, _ :: _, _, h => by cases h
  | _ :: _, [], _, h, _ => by cases h
  | _ :: _, _, [], _, h => by cases h
  | k :: ks, c :: cs, d :: ds, h1, h2 => by
    simp only [fitsL, Bool.and_eq_true] at h1 h2
    simp only [List.map_cons, List.cons.injEq, keqs, Bool.and_eq_true, val1_inj h1.1 h2.1, vals_inj h1.2 h2.2]
theorem key_inj {ag : Bool} {sh : List Sc} {x y : V} (hx : fitsK ag sh x = true) (hy : fitsK ag sh y = true) : valK x = valK y ↔ keyEq x y = true := by
  rcases fitsK_cases hx with ⟨cs, rfl, h0, h1⟩ | ⟨k, h0, e1, h1, h2, _⟩
  · rcases fitsK_cases hy with ⟨ds, rfl, _, k1⟩ | ⟨_, k0, _⟩
    · simp only [valK, keyEq, Value.agg.injEq]
      rw [← vals_inj h1 k1]
      constructor
      · intro h; simpa using congrArg Array.toList h
      · intro h; rw [h]
    · rw [h0] at k0; cases k0
  · rcases fitsK_cases hy with ⟨_, _, k0, _⟩ | ⟨k', _, e2, k1, k2, _⟩
    · rw [h0] at k0; cases k0
    · rw [e1] at e2
      cases e2
      rw [h2, k2, val1_inj h1 k1]
      cases x <;> first
        | (cases k <;> cases h1; done)
        | (cases y <;> first
            | (cases k <;> cases k1; done)
            | exact Iff.rfl)
/-! entries -/
theorem ent_len {ag : Bool} {sh : List Sc} : ∀ {es : List (V × Int)} {bs : List Nat} {l : List MapEntry}, EntR ag sh es bs l → es.length = l.length ∧ bs.length = l.length
  | [], [], [], _ => ⟨rfl, rfl⟩
  | (x, q) :: es, s :: bs, e :: l, h => by
    simp only [EntR] at h
    have := ent_len h.2
    simp [this.1, this.2]
  | [], [], _ :: _, h | [], _ :: _, [], h | [], _ :: _, _ :: _, h | _ :: _, [], [], h | _ :: _, [], _ :: _, h | _ :: _, _ :: _, [], h => by simp [EntR] at h
abbrev Ent1 (ag : Bool) (sh : List Sc) (x : V) (q : Int) (s : Nat) (e : MapEntry) : Prop :=
  fitsK ag sh x = true ∧ okK x ∧ e.key = valK x ∧ e.val = .int .i64 q ∧ (IntKind.i64.min ≤ q ∧ q ≤ IntKind.i64.max) ∧ e.born = s
theorem ent_iff {ag : Bool} {sh : List Sc} : ∀ {es : List (V × Int)} {bs : List Nat} {l : List MapEntry}, EntR ag sh es bs l ↔ es.length = l.length ∧ bs.length = l.length ∧
    ∀ (j : Nat) (x : V) (q : Int) (s : Nat) (e : MapEntry), es[j]? = some (x, q) → bs[j]? = some s → l[j]? = some e → Ent1 ag sh x q s e
  | [], [], [] => by simp [EntR]
  | (x, q) :: es, s :: bs, e :: l => by
    simp only [EntR, ent_iff (es := es), List.length_cons]
    constructor
    · rintro ⟨h1, h2, h3, h4⟩
      refine ⟨by omega, by omega, fun j x' q' s' e' a b c => ?_⟩
      cases j with
      | zero => simp at a b c; obtain ⟨rfl, rfl⟩ := a; subst b; subst c; exact h1
      | succ j => exact h4 j x' q' s' e' (by simpa using a) (by simpa using b) (by simpa using c)
    · rintro ⟨h2, h3, h4⟩
      exact ⟨h4 0 x q s e rfl rfl rfl, by omega, by omega, fun j x' q' s' e' a b c => h4 (j + 1) x' q' s' e' (by simpa using a) (by simpa using b) (by simpa using c)⟩
  | [], [], _ :: _ | [], _ :: _, [] | [], _ :: _, _ :: _ | _ :: _, [], [] | _ :: _, [], _ :: _ | _ :: _, _ :: _, [] => by simp [EntR]
theorem ent_get {ag : Bool} {sh : List Sc} {es : List (V × Int)} {bs : List Nat} {l : List MapEntry} (h : EntR ag sh es bs l) {j : Nat} {x : V} {q : Int} (hj : es[j]? = some (x, q)) :
    ∃ s e, bs[j]? = some s ∧ l[j]? = some e ∧ Ent1 ag sh x q s e := by
  obtain ⟨h1, h2, h3⟩ := ent_iff.1 h
  obtain ⟨hlt, _⟩ := List.getElem?_eq_some_iff.1 hj
  have a : bs[j]? = some (bs[j]'(by omega)) := List.getElem?_eq_getElem (by omega)
  have b : l[j]? = some (l[j]'(by omega)) := List.getElem?_eq_getElem (by omega)
  exact ⟨_, _, a, b, h3 j x q _ _ hj a b⟩
theorem ent_at {ag : Bool} {sh : List Sc} {es : List (V × Int)} {bs : List Nat} {l : List MapEntry} (h : EntR ag sh es bs l) {j : Nat} {e : MapEntry} (hj : l[j]? = some e) :
    ∃ x q s, es[j]? = some (x, q) ∧ bs[j]? = some s ∧ Ent1 ag sh x q s e := by
  obtain ⟨h1, h2, h3⟩ := ent_iff.1 h
  obtain ⟨hlt, _⟩ := List.getElem?_eq_some_iff.1 hj
  have a : bs[j]? = some (bs[j]'(by omega)) := List.getElem?_eq_getElem (by omega)
  have b : es[j]? = some (es[j]'(by omega)) := List.getElem?_eq_getElem (by omega)
  exact ⟨_, _, _, b, a, h3 j _ _ _ _ b a hj⟩
theorem fnd_some : ∀ {es : List (V × Int)} {x : V} {j : Nat} {q : Int}, fndM es x = some (j, q) → ∃ y, es[j]? = some (y, q) ∧ keyEq y x = true
  | [], _, _, _, h => by simp [fndM] at h
  | (y, q') :: es, x, j, q, h => by
    simp only [fndM] at h
    cases hk : keyEq y x with
    | true => rw [hk] at h; simp at h; obtain ⟨rfl, rfl⟩ := h; exact ⟨y, rfl, hk⟩
    | false =>
      rw [hk] at h
      simp only [cond_false] at h
      split at h
      · rename_i j' q2 hf
        simp at h
        obtain ⟨rfl, rfl⟩ := h
        obtain ⟨z, h1, h2⟩ := fnd_some hf
        exact ⟨z, by simpa using h1, h2⟩
      · cases h
theorem fnd_none : ∀ {es : List (V × Int)} {x : V}, fndM es x = none → ∀ e ∈ es, keyEq e.1 x = false
  | [], _, _ => by simp
  | (y, q') :: es, x, h => by
    simp only [fndM] at h
    cases hk : keyEq y x with
    | true => rw [hk] at h; simp at h
    | false =>
      rw [hk] at h
      simp only [cond_false] at h
      split at h
      · cases h
      · rename_i hf
        intro e he
        rcases List.mem_cons.1 he with rfl | he
        · exact hk
        · exact fnd_none hf e he
theorem setM_get : ∀ (es : List (V × Int)) (j : Nat) (q : Int) (i : Nat), (setM es j q)[i]? = if i = j then (es[i]?).map (fun e => (e.1, q)) else es[i]?
  | [], j, q, i => by cases j <;> simp [setM]
  | (y, q0) :: es, 0, q, i => by cases i <;> simp [setM]
  | e :: es, j + 1, q, i => by
    cases i with
    | zero => simp [setM]
    | succ i => simp [setM, setM_get es j q i]
theorem setM_len : ∀ (es : List (V × Int)) (j : Nat) (q : Int), (setM es j q).length = es.length
  | [], j, q => by cases j <;> rfl
  | (y, q0) :: es, 0, q => rfl
  | e :: es, j + 1, q => by simp [setM, setM_len es j q]
theorem setM_keys : ∀ (es : List (V × Int)) (j : Nat) (q : Int), ((setM es j q).map fun e => valK e.1) = es.map fun e => valK e.1
  | [], j, q => by cases j <;> rfl
  | (y, q0) :: es, 0, q => rfl
  | e :: es, j + 1, q => by simp [setM, setM_keys es j q]
theorem ent_set {ag : Bool} {sh : List Sc} {es : List (V × Int)} {bs : List Nat} {l : List MapEntry} (h : EntR ag sh es bs l) (j : Nat) {q : Int} (hq : IntKind.i64.min ≤ q ∧ q ≤ IntKind.i64.max) {f : MapEntry → MapEntry}
    (hf : ∀ e, l[j]? = some e → (f e).key = e.key ∧ (f e).val = .int .i64 q ∧ (f e).born = e.born) : EntR ag sh (setM es j q) bs (l.modify j f) := by
  obtain ⟨h1, h2, h3⟩ := ent_iff.1 h
  refine ent_iff.2 ⟨by rw [setM_len, List.length_modify]; exact h1, by rw [List.length_modify]; exact h2, fun i x q' s e a b c => ?_⟩
  rw [setM_get] at a
  rw [List.getElem?_modify] at c
  by_cases hij : i = j
  · subst hij
    rw [if_pos rfl] at a
    cases he : es[i]? with
    | none => rw [he] at a; cases a
    | some p =>
      cases hl : l[i]? with
      | none => rw [hl] at c; cases c
      | some e0 =>
        rw [he] at a; rw [hl] at c
        simp at a c
        obtain ⟨rfl, rfl⟩ := a
        subst c
        obtain ⟨r1, r2, r3, r4, r5, r6⟩ := h3 i _ _ _ _ he b hl
        obtain ⟨f1, f2, f3⟩ := hf e0 hl
        exact ⟨r1, r2, f1.trans r3, f2, hq, f3.trans r6⟩
  · rw [if_neg hij] at a
    have hji : ¬ j = i := fun q => hij q.symm
    simp [hji] at c
    exact h3 i x q' s e a b c
theorem ent_push {ag : Bool} {sh : List Sc} {es : List (V × Int)} {bs : List Nat} {l : List MapEntry} (h : EntR ag sh es bs l) {x : V} {q : Int} {s : Nat} {e : MapEntry} (he : Ent1 ag sh x q s e) :
    EntR ag sh (es ++ [(x, q)]) (bs ++ [s]) (l ++ [e]) := by
  obtain ⟨h1, h2, h3⟩ := ent_iff.1 h
  refine ent_iff.2 ⟨by simp [h1], by simp [h2], fun i x' q' s' e' a b c => ?_⟩
  by_cases hi : i < l.length
  · rw [List.getElem?_append_left (by omega)] at a b c
    exact h3 i _ _ _ _ a b c
  · rw [List.getElem?_append_right (by omega)] at a b c
    have e1 : i - es.length = i - l.length := by omega
    have e2 : i - bs.length = i - l.length := by omega
    rw [e1] at a; rw [e2] at b
    cases hk : i - l.length with
    | zero => rw [hk] at a b c; simp at a b c; obtain ⟨rfl, rfl⟩ := a; subst b; subst c; exact he
    | succ m => rw [hk] at a; simp at a
theorem ent_erase {ag : Bool} {sh : List Sc} {es : List (V × Int)} {bs : List Nat} {l : List MapEntry} (h : EntR ag sh es bs l) (j : Nat) : EntR ag sh (es.eraseIdx j) (bs.eraseIdx j) (l.eraseIdx j) := by
  obtain ⟨h1, h2, h3⟩ := ent_iff.1 h
  refine ent_iff.2 ⟨by simp only [List.length_eraseIdx]; rw [h1], by simp only [List.length_eraseIdx]; rw [h2], fun i x q s e a b c => ?_⟩
  rw [List.getElem?_eraseIdx] at a b c
  split at a
  · rename_i hij
    rw [if_pos hij] at b c
    exact h3 _ _ _ _ _ a b c
  · rename_i hij
    rw [if_neg hij] at b c
    exact h3 _ _ _ _ _ a b c
theorem stamp_push {bs : List Nat} {ck : Nat} (h : StampOK bs ck) : StampOK (bs ++ [ck]) (ck + 1) := by
  refine ⟨List.nodup_append.2 ⟨h.1, by simp, fun a ha b hb e => ?_⟩, fun s hs => ?_⟩
  · simp at hb; subst hb; have := h.2 a ha; omega
  · rcases List.mem_append.1 hs with hs | hs
    · have := h.2 s hs; omega
    · simp at hs; omega
theorem nodup_push {es : List (V × Int)} {x : V} {q : Int} (h : (es.map fun e => valK e.1).Nodup) (hx : ∀ e ∈ es, valK e.1 ≠ valK x) : ((es ++ [(x, q)]).map fun e => valK e.1).Nodup := by
  rw [List.map_append]
  refine List.nodup_append.2 ⟨h, by simp, fun a ha b hb e => ?_⟩
  simp at hb
  obtain ⟨p, hp, rfl⟩ := List.mem_map.1 ha
  exact hx p hp (e.trans hb)
/-! the look for a key -/
section
variable {P : Program} {k : TypeId} {ag : Bool} {sh : List Sc} {es : List (V × Int)} {bs : List Nat} {arr : Array MapEntry}
theorem run_find (K : KeyOK P k sh) (ha : ag = aggOf P k) (h : EntR ag sh es bs arr.toList) (hn : (es.map fun e => valK e.1).Nodup) {x : V} (fx : fitsK ag sh x = true) (ox : okK x) (w : World) :
    (fndM es x = none ∧ (Instr.findKey k (valK x) arr.toList).run P w = .ok none w ∧ ∀ e ∈ es, valK e.1 ≠ valK x) ∨
    (∃ j q e s, fndM es x = some (j, q) ∧ (Instr.findKey k (valK x) arr.toList).run P w = .ok (some (j, .int .i64 q)) w ∧ arr[j]? = some e ∧ bs[j]? = some s ∧ e.key = valK x ∧ e.val = .int .i64 q ∧ e.born = s ∧
      (IntKind.i64.min ≤ q ∧ q ≤ IntKind.i64.max)) := by
  subst ha
  obtain ⟨lx, hx⟩ := K.2 x fx ox
  have hall : ∀ e ∈ arr.toList, ∃ l, keyOf P k e.key = some l := fun e he => by
    obtain ⟨j, hj⟩ := List.getElem?_of_mem he
    obtain ⟨y, q, s, _, _, r1, r2, r3, _⟩ := ent_at h hj
    rw [r3]
    exact K.2 y r1 r2
  rcases K.1.find w hx arr.toList hall with ⟨h1, h2⟩ | ⟨j, e, h1, h2, h3⟩
  · left
    have hno : ∀ e ∈ es, valK e.1 ≠ valK x := fun p hp q => by
      obtain ⟨j, hj⟩ := List.getElem?_of_mem hp
      obtain ⟨s, e, _, c, _, _, r3, _⟩ := ent_get h (x := p.1) (q := p.2) hj
      exact h2 e (List.mem_of_getElem? c) (r3.trans q)
    refine ⟨?_, h1, hno⟩
    cases hf : fndM es x with
    | none => rfl
    | some p =>
      obtain ⟨y, hy, hk⟩ := fnd_some (show fndM es x = some (p.1, p.2) from hf)
      obtain ⟨_, _, _, _, r1, _⟩ := ent_get h hy
      exact absurd ((key_inj r1 fx).2 hk) (hno _ (List.mem_of_getElem? hy))
  · right
    obtain ⟨y, q, s, a, b, r1, r2, r3, r4, r5, r6⟩ := ent_at h h2
    have hyx : valK y = valK x := r3.symm.trans h3
    have hf : fndM es x = some (j, q) := by
      cases hf : fndM es x with
      | none =>
        have := fnd_none hf _ (List.mem_of_getElem? a)
        rw [(key_inj r1 fx).1 hyx] at this
        cases this
      | some p =>
        obtain ⟨z, hz, hk⟩ := fnd_some (show fndM es x = some (p.1, p.2) from hf)
        obtain ⟨_, _, _, _, z1, _⟩ := ent_get h hz
        have hzx := (key_inj z1 fx).2 hk
        obtain ⟨l1, e1⟩ := List.getElem?_eq_some_iff.1 a
        obtain ⟨l2, e2⟩ := List.getElem?_eq_some_iff.1 hz
        have hij : p.1 = j := by
          refine (List.getElem_inj (h₀ := by simpa using l2) (h₁ := by simpa using l1) hn).1 ?_
          simp only [List.getElem_map, e1, e2]
          exact hzx.trans hyx.symm
        have : p.2 = q := by
          rw [hij, a] at hz
          injection hz with e3
          injection e3 with _ e4
          exact e4.symm
        rw [← hij, ← this]
    exact ⟨j, q, e, s, hf, by rw [h1, r4], by simpa using h2, b, h3, r4, r6, r5⟩
end
section
variable {C : Ctx} {E : Env} {st : St} {g : Ghost} {s : AS} {a : Act} {w : World} {o : Oper} {e : Ef}
/-- a map that an operation meets -/
structure MapAt (C : Ctx) (E : Env) (g : Ghost) (s : AS) (w : World) (t : TypeId) (mv : Value) (i : Nat) (ag : Bool) (sh : List Sc) (es : List (V × Int)) (bs : List Nat) (ck : Nat) (k e : TypeId) (b : Nat) (arr : Array MapEntry) : Prop where
  und : C.P.underlying t = some (.map k e)
  zero : ∀ w : World, (zeroValue e).run C.P w = .ok (.int .i64 0) w
  key : KeyOK C.P k sh
  agg : ag = aggOf C.P k
  lt : i < s.sg.length
  sg : s.sg[i]? = some (.map ag sh es bs ck)
  blk : (g i).blk = some b
  own : E.G b
  mv : mv = .map (some b)
  hp : w.heap[b]? = some (.map arr ck)
  ent : EntR ag sh es bs arr.toList
  stamp : StampOK bs ck
  nodup : (es.map fun e => valK e.1).Nodup
theorem mapIn_ok (G : Good C) {t : TypeId} {ag : Bool} {sh : List Sc} (h : mapIn C t = some (ag, sh)) :
    ∃ k e, C.P.underlying t = some (.map k e) ∧ (∀ w : World, (zeroValue e).run C.P w = .ok (.int .i64 0) w) ∧ KeyOK C.P k sh ∧ ag = aggOf C.P k := by
  unfold mapIn at h
  split at h
  · rename_i k e hk
    have h3 := (G.ti t).of (by rw [hk]; simp)
    rw [hk] at h3
    split at h
    · cases h
    · cases h
    · rename_i he hno hne
      split at h
      · rename_i hz
        cases h
        refine ⟨k, e, h3.1, fun w => ?_, h3.2.2 (fun q => hne q), ?_⟩
        · obtain ⟨z, h1, h2⟩ := run_zero (P := C.P) (i := C.ti e) w (G.ti e) (by rw [he]; simp)
          have := h2 (fun _ _ => none) (fun _ => ⟨none, none, 0, 0, 0⟩) 0
          rw [hz] at this
          simp only [VR] at this
          rw [h1, this.1]
          rfl
        · have hk2 := ((G.ti k).of hno).1
          unfold aggOf
          cases hkk : (C.ti k).k with
          | bool | int _ | string | slice _ | ptr _ | map _ _ => rw [hkk] at hk2; simp only [TK.ok] at hk2; rw [hk2]; rfl
          | array _ _ => rw [hkk] at hk2; simp only [TK.ok] at hk2; rw [hk2]; rfl
          | struct _ => rw [hkk] at hk2; simp only [TK.ok] at hk2; obtain ⟨_, hk2, _⟩ := hk2; rw [hk2]; rfl
          | iface => rw [hkk] at hk2; simp only [TK.ok] at hk2; obtain ⟨_, hk2⟩ := hk2; rw [hk2]; rfl
          | func => rw [hkk] at hk2; simp only [TK.ok] at hk2; obtain ⟨_, _, _, hk2⟩ := hk2; rw [hk2]; rfl
          | other => exact absurd hkk hno
      · cases h
    · cases h
  · cases h
theorem onMap_all {p : Ef → Prop} {t : TypeId} {m : V} {mv : Value} {F : Nat → Bool → List Sc → List (V × Int) → List Nat → Nat → Tr Ef} (R : Rel E st g s a w) (G : Good C) (hm : VR st g m s.sg.length mv)
    (h : ∀ i ag sh es bs ck k e b arr, m = .map i → MapAt C E g s w t mv i ag sh es bs ck k e b arr → All p (F i ag sh es bs ck)) : All p (onMap C s t m F) := by
  unfold onMap
  refine All.opt fun q hq => ?_
  obtain ⟨k, e, h1, h2, h3, h4⟩ := mapIn_ok G hq
  split
  · rename_i i
    simp only [VR] at hm
    obtain ⟨hil, b, hb, rfl⟩ := hm
    split
    · rename_i ag sh es bs ck hs
      obtain ⟨hs1, _⟩ := getSg_eq hs (by simp)
      obtain ⟨b', arr, q1, q2, q3, q4, q5, q6⟩ := R.wr.ob i _ hs1
      rw [hb] at q1; cases q1
      refine All.when fun hw => ?_
      simp only [Bool.and_eq_true] at hw
      have e1 := beqB_eq hw.1
      have e2 := shEq_eq hw.2
      exact h i ag sh es bs ck k e b arr rfl ⟨h1, h2, by rw [e2]; exact h3, e1.trans h4, hil, hs1, hb, q2, rfl, q3, q4, q5, q6⟩
    · exact All.fail
  · exact All.fail
theorem upd_id (g : Ghost) (i : Nat) : upd g i (g i) = g := by funext j; by_cases e : j = i <;> simp [upd, e]
/-- a map is turned -/
theorem OpOK.mapTurn {t k e0 : TypeId} {mv : Value} {i ck ck' : Nat} {ag : Bool} {sh : List Sc} {es es' : List (V × Int)} {bs bs' : List Nat} {b : Nat} {arr arr' : Array MapEntry} {x : V} {rd : List Nat} (R : Rel E st g s a w)
    (M : MapAt C E g s w t mv i ag sh es bs ck k e0 b arr) (v : Value)
    (hr : (execOp a.eval o).run C.P w = .ok (.value v) (putB w b (.map arr' ck')) ∨ ((execOp a.eval o).run C.P w = .ok .skip (putB w b (.map arr' ck')) ∧ v = undef))
    (h1 : EntR ag sh es' bs' arr'.toList) (h2 : StampOK bs' ck') (h3 : (es'.map fun e => valK e.1).Nodup) (hv : VR st g x s.sg.length v) :
    OpOK C E st g s a w o ⟨x, [], [(i, .map ag sh es' bs' ck')], [], rd⟩ := by
  refine OpOK.turn R M.lt v (putB w b (.map arr' ck')) (g i) hr (Chg.putB M.own _ (fun b'' => by rw [M.blk]; simp [eq_comm]) (fun k v hv => ?_)) (.inl rfl) (fun b hb => .inl hb) ?_ (by rw [upd_id]; exact hv)
  · have := R.wr.stw _ _ _ hv
    simp only [World.cell?, M.hp] at this
    cases this
  · exact ⟨b, arr', M.blk, M.own, putB_same M.hp, h1, h2, h3⟩
theorem int_in {q : Int} (h : IntKind.i64.min ≤ q ∧ q ≤ IntKind.i64.max) {n : Nat} : VR st g (.int .i64 q) n (.int .i64 q) := VR_int h
theorem nat_in {n m : Nat} (h : n ≤ 9223372036854775807) : VR st g (.int .i64 (n : Int)) m (goInt n) := by
  refine VR_int ⟨?_, ?_⟩
  · simp [IntKind.min, IntKind.signed, IntKind.bits]
  · rw [IntKind.max_i64]; omega
theorem zero_in : IntKind.i64.min ≤ (0 : Int) ∧ (0 : Int) ≤ IntKind.i64.max := by decide
theorem s_makeMap {t : TypeId} (R : Rel E st g s a w) (G : Good C) (ho : o.op = .makeMap t none) : Snd C E st g s a w o (evMakeMap C s t) := by
  unfold evMakeMap
  refine All.opt fun q hq => ?_
  rw [forceN_eq]
  refine All.ret (OpOK.new R (.map (some w.heap.size)) w (SameW.refl w) ⟨some w.heap.size, none, 0, 0, 0⟩ (.map #[] 0) ?_ (by simp) ?_ ?_)
  · simp [execOp, ho, Instr.makeMap, newObj, Sem.run, Result.andThen]
  · exact ⟨w.heap.size, #[], rfl, R.wr.gnew _ R.wr.size, heap_alloc_new, by simp [EntR], ⟨List.nodup_nil, by simp⟩, List.nodup_nil⟩
  · simp only [VR, upd_same]
    exact ⟨by omega, w.heap.size, rfl, rfl⟩
theorem s_lookup {t : TypeId} {m x : Operand} {ok : Bool} (R : Rel E st g s a w) (hg : GlobOK C.gl st) (G : Good C) (ho : o.op = .lookup t m x ok) : Snd C E st g s a w o (evLookup C s t m x ok) := by
  unfold evLookup
  refine onMap_all R G (ev_ok (C := C) R hg m) fun i ag sh es bs ck k e b arr he M => ?_
  rw [force_eq]
  refine All.when fun fx => ?_
  obtain ⟨hx, ox⟩ := VR_K fx (ev_ok (C := C) R hg x)
  obtain ⟨lx, hlx⟩ := M.key.2 _ (by rw [← M.agg]; exact fx) ox
  have hck := M.key.1.check w arr.isEmpty hlx
  have hcommon : ∀ r : Option (Nat × Value), (Instr.findKey k (valK (s.ev C x)) arr.toList).run C.P w = .ok r w → (Instr.lookup t (a.eval m) (a.eval x) ok).run C.P w =
      (match r with
        | some (_, v) => .ok (if ok then .tuple #[v, .bool true] else v) w
        | none => .ok (if ok then .tuple #[.int .i64 0, .bool false] else .int .i64 0) w) := fun r hr => by
    rw [M.mv, hx]
    unfold Instr.lookup
    simp only [Sem.run_bind, run_underlying M.und, Result.andThen_ok, Sem.run_pure, MapKept.run_getObj_map M.hp, hck, hr]
    cases r with
    | none => simp [M.zero]
    | some p => simp
  rcases run_find M.key M.agg M.ent M.nodup fx ox w with ⟨f1, f2, _⟩ | ⟨j, q, e1, s1, f1, f2, _, _, _, _, _, f8⟩
  · have hL := hcommon _ f2
    split
    · refine All.optB (fun y hy => by rw [f1] at hy; cases hy) (fun _ => All.ret (OpOK.pure R _ w (by simp only [execOp, ho, Sem.run_bind, hL, Result.andThen_ok]; rfl) (SameW.refl w) ?_))
      simp only [VR]
      exact ⟨_, rfl, VRs_cons (int_in zero_in) (VRs_cons VR_bool VRs_nil)⟩
    · refine All.ret (OpOK.pure R _ w (by simp only [execOp, ho, Sem.run_bind, hL, Result.andThen_ok]; rfl) (SameW.refl w) ?_)
      unfold getM
      rw [f1]
      exact int_in zero_in
  · have hL := hcommon _ f2
    split
    · refine All.optB (fun y hy => ?_) (fun hy => by rw [f1] at hy; cases hy)
      rw [f1] at hy; cases hy
      refine All.ret (OpOK.pure R _ w (by simp only [execOp, ho, Sem.run_bind, hL, Result.andThen_ok]; rfl) (SameW.refl w) ?_)
      simp only [VR]
      exact ⟨_, rfl, VRs_cons (int_in f8) (VRs_cons VR_bool VRs_nil)⟩
    · refine All.ret (OpOK.pure R _ w (by simp only [execOp, ho, Sem.run_bind, hL, Result.andThen_ok]; rfl) (SameW.refl w) ?_)
      unfold getM
      rw [f1]
      exact int_in f8
theorem same_mod {arr : Array MapEntry} {j : Nat} {e : MapEntry} {kv : Value} (h : arr[j]? = some e) (hk : e.key = kv) : arr.modify j (fun e => { e with key := kv }) = arr := by
  apply Array.ext'
  rw [Array.toList_modify]
  apply List.ext_getElem?
  intro i
  rw [List.getElem?_modify]
  by_cases hi : j = i
  · subst hi
    have h' : arr.toList[j]? = some e := by simpa using h
    rw [h']
    subst hk
    simp
  · simp [hi]
theorem s_mapUpdate {t : TypeId} {m x y : Operand} (R : Rel E st g s a w) (hg : GlobOK C.gl st) (G : Good C) (ho : o.op = .mapUpdate t m x y) : Snd C E st g s a w o (evMapUpdate C s t m x y) := by
  unfold evMapUpdate
  refine onMap_all R G (ev_ok (C := C) R hg m) fun i ag sh es bs ck k e b arr he M => ?_
  rw [force_eq]
  refine All.when fun fx => ?_
  obtain ⟨hx, ox⟩ := VR_K fx (ev_ok (C := C) R hg x)
  obtain ⟨lx, hlx⟩ := M.key.2 _ (by rw [← M.agg]; exact fx) ox
  have hck := M.key.1.check w false hlx
  have hst := M.key.1.stays w hlx
  have hy := ev_ok (C := C) R hg y
  split
  · rename_i q hq
    rw [hq] at hy
    simp only [VR] at hy
    rcases run_find M.key M.agg M.ent M.nodup fx ox w with ⟨f1, f2, f3⟩ | ⟨j, q0, e1, s1, f1, f2, f3, f4, f5, f6, f7, f8⟩
    · refine All.optB (fun y hy => by rw [f1] at hy; cases hy) (fun _ => All.ret ?_)
      refine OpOK.mapTurn R M undef (arr' := arr.push ⟨valK (s.ev C x), .int .i64 q, ck⟩) (.inr ⟨?_, rfl⟩) ?_ (stamp_push M.stamp) (nodup_push M.nodup f3) (by simp [VR])
      · simp [execOp, ho, Instr.mapUpdate, run_underlying M.und, M.mv, hx, hy.1, MapKept.run_getObj_map M.hp, hck, f2, MapKept.run_setObj_map _ M.hp, Result.andThen, putB]
      · rw [Array.toList_push]
        exact ent_push M.ent ⟨fx, ox, rfl, rfl, hy.2, rfl⟩
    · refine All.optB (fun y hy => ?_) (fun hy => by rw [f1] at hy; cases hy)
      rw [f1] at hy; cases hy
      refine All.ret ?_
      refine OpOK.mapTurn R M undef (arr' := arr.modify j fun e => { e with key := valK (s.ev C x), val := .int .i64 q }) (.inr ⟨?_, rfl⟩) ?_ M.stamp (by rw [setM_keys]; exact M.nodup) (by simp [VR])
      · simp [execOp, ho, Instr.mapUpdate, run_underlying M.und, M.mv, hx, hy.1, MapKept.run_getObj_map M.hp, hck, f2, f3, f5, hst, MapKept.run_setObj_map _ M.hp, Result.andThen, putB]
      · rw [Array.toList_modify]
        refine ent_set M.ent j hy.2 fun e' he' => ?_
        have : arr.toList[j]? = some e1 := by simpa using f3
        rw [this] at he'; cases he'
        exact ⟨f5.symm, rfl, rfl⟩
  · exact All.fail
theorem s_mapEntry {t : TypeId} {m x : Operand} (R : Rel E st g s a w) (hg : GlobOK C.gl st) (G : Good C) (ho : o.op = .mapEntry t m x) : Snd C E st g s a w o (evMapEntry C s t m x) := by
  unfold evMapEntry
  refine onMap_all R G (ev_ok (C := C) R hg m) fun i ag sh es bs ck k e b arr he M => ?_
  rw [force_eq]
  refine All.when fun fx => All.req fun hb => ?_
  obtain ⟨hx, ox⟩ := VR_K fx (ev_ok (C := C) R hg x)
  obtain ⟨lx, hlx⟩ := M.key.2 _ (by rw [← M.agg]; exact fx) ox
  have hck := M.key.1.check w false hlx
  have hst := M.key.1.stays w hlx
  rcases run_find M.key M.agg M.ent M.nodup fx ox w with ⟨f1, f2, f3⟩ | ⟨j, q0, e1, s1, f1, f2, f3, f4, f5, f6, f7, f8⟩
  · refine All.optB (fun y hy => by rw [f1] at hy; cases hy) (fun _ => All.ret ?_)
    refine OpOK.mapTurn R M (.tuple #[.int .i64 0, goInt ck]) (arr' := arr.push ⟨valK (s.ev C x), .int .i64 0, ck⟩) (.inl ?_) ?_ (stamp_push M.stamp) (nodup_push M.nodup f3) ?_
    · simp [execOp, ho, Instr.mapEntry, run_underlying M.und, M.mv, hx, M.zero, MapKept.run_getObj_map M.hp, hck, f2, MapKept.run_setObj_map _ M.hp, Result.andThen, putB]
    · rw [Array.toList_push]
      exact ent_push M.ent ⟨fx, ox, rfl, rfl, zero_in, rfl⟩
    · simp only [VR]
      exact ⟨_, rfl, VRs_cons (int_in zero_in) (VRs_cons (nat_in hb) VRs_nil)⟩
  · refine All.optB (fun y hy => ?_) (fun hy => by rw [f1] at hy; cases hy)
    rw [f1] at hy; cases hy
    refine All.ret ?_
    have hgd : bs.getD j 0 = e1.born := by rw [List.getD_eq_getElem?_getD, f4, f7]; rfl
    refine OpOK.mapTurn R M (.tuple #[.int .i64 q0, goInt e1.born]) (arr' := arr) (.inl ?_) M.ent M.stamp M.nodup ?_
    · simp [execOp, ho, Instr.mapEntry, run_underlying M.und, M.mv, hx, MapKept.run_getObj_map M.hp, hck, f2, f3, f5, hst, same_mod f3 f5, MapKept.run_setObj_map _ M.hp, Result.andThen, putB]
    · simp only [VR]
      rw [hgd]
      have := M.stamp.2 s1 (List.mem_of_getElem? f4)
      exact ⟨_, rfl, VRs_cons (int_in f8) (VRs_cons (nat_in (by rw [f7]; omega)) VRs_nil)⟩
theorem s_entryStore {t : TypeId} {m b0 y : Operand} (R : Rel E st g s a w) (hg : GlobOK C.gl st) (G : Good C) (ho : o.op = .entryStore t m b0 y) : Snd C E st g s a w o (evEntryStore C s t m b0 y) := by
  unfold evEntryStore
  refine onMap_all R G (ev_ok (C := C) R hg m) fun i ag sh es bs ck k e b arr he M => ?_
  have h1 := ev_ok (C := C) R hg b0
  have h2 := ev_ok (C := C) R hg y
  split
  · rename_i z q e1 e2
    rw [e1] at h1
    rw [e2] at h2
    simp only [VR] at h1 h2
    refine All.ex fun j => All.req fun hj => All.ret ?_
    obtain ⟨hl1, hl2⟩ := ent_len M.ent
    obtain ⟨hjl, hjb⟩ := List.getElem?_eq_some_iff.1 hj.2
    have hz : z = ((z.toNat : Nat) : Int) := by omega
    obtain ⟨en, hen⟩ : ∃ en, arr.toList[j]? = some en := ⟨_, List.getElem?_eq_getElem (by omega)⟩
    obtain ⟨x', q', s', a1, a2, a3⟩ := ent_at M.ent hen
    have hborn : en.born = z.toNat := by
      rw [hj.2] at a2
      cases a2
      exact a3.2.2.2.2.2
    have hbs : arr.toList.map (·.born) = bs := by
      apply List.ext_getElem?
      intro i
      rw [List.getElem?_map]
      cases hi : arr.toList[i]? with
      | none =>
        have : bs[i]? = none := by rw [List.getElem?_eq_none_iff] at hi ⊢; omega
        rw [this]; rfl
      | some e' =>
        obtain ⟨_, _, _, _, c2, c3⟩ := ent_at M.ent hi
        rw [c2]
        simp [c3.2.2.2.2.2]
    have hidx : arr.findIdx? (fun e => ((e.born : Nat) : Int) == z) = some j := by
      rw [WideElems.findIdx_arr, hz, ← hborn]
      exact WideElems.findIdx_born (by rw [hbs]; exact M.stamp.1) hen
    refine OpOK.mapTurn R M undef (arr' := arr.modify j fun e => { e with val := .int .i64 q }) (.inr ⟨?_, rfl⟩) ?_ M.stamp (by rw [setM_keys]; exact M.nodup) (by simp [VR])
    · simp [execOp, ho, Instr.entryStore, M.mv, h1.1, h2.1, asInt, asIntOf, hidx, MapKept.run_getObj_map M.hp, MapKept.run_setObj_map _ M.hp, Result.andThen, putB]
    · rw [Array.toList_modify]
      exact ent_set M.ent j h2.2 fun e' _ => ⟨rfl, rfl, rfl⟩
  · exact All.fail
theorem erase_list (arr : Array MapEntry) (j : Nat) : (arr.eraseIdxIfInBounds j).toList = arr.toList.eraseIdx j := by
  unfold Array.eraseIdxIfInBounds
  split
  · simp
  · rename_i h
    rw [List.eraseIdx_of_length_le (by simpa using h)]
theorem delete_all {t : TypeId} {m x : V} {mv xv : Value} {ats : Array TypeId} {ty : TypeId} (R : Rel E st g s a w) (G : Good C) (hm : VR st g m s.sg.length mv) (hxv : VR st g x s.sg.length xv) (hts : ats[0]? = some t)
    (hr : ∀ w', (Builtin.delete_ ats ty #[mv, xv]).run C.P w = .ok (.tuple #[]) w' → (execOp a.eval o).run C.P w = .ok (.value (.tuple #[])) w') : Snd C E st g s a w o (evDelete C s t m x) := by
  unfold evDelete
  refine onMap_all R G hm fun i ag sh es bs ck k e b arr he M => ?_
  rw [force_eq]
  refine All.when fun fx => ?_
  obtain ⟨hx, ox⟩ := VR_K fx hxv
  obtain ⟨lx, hlx⟩ := M.key.2 _ (by rw [← M.agg]; exact fx) ox
  have hck := M.key.1.check w arr.isEmpty hlx
  rcases run_find M.key M.agg M.ent M.nodup fx ox w with ⟨f1, f2, f3⟩ | ⟨j, q0, e1, s1, f1, f2, f3, f4, f5, f6, f7, f8⟩
  · refine All.optB (fun y hy => by rw [f1] at hy; cases hy) (fun _ => All.ret ?_)
    refine OpOK.mapTurn R M (.tuple #[]) (arr' := arr) (.inl (hr _ ?_)) M.ent M.stamp M.nodup (by simp [VR, VRs])
    simp [Builtin.delete_, hts, run_underlying M.und, M.mv, hx, MapKept.run_getObj_map M.hp, hck, f2, MapKept.run_setObj_map _ M.hp, Result.andThen, putB]
  · refine All.optB (fun y hy => ?_) (fun hy => by rw [f1] at hy; cases hy)
    rw [f1] at hy; cases hy
    refine All.ret ?_
    refine OpOK.mapTurn R M (.tuple #[]) (arr' := arr.eraseIdxIfInBounds j) (.inl (hr _ ?_)) ?_ ?_ ?_ (by simp [VR, VRs])
    · simp [Builtin.delete_, hts, run_underlying M.und, M.mv, hx, MapKept.run_getObj_map M.hp, hck, f2, MapKept.run_setObj_map _ M.hp, Result.andThen, putB]
    · rw [erase_list]
      exact ent_erase M.ent j
    · exact ⟨M.stamp.1.sublist (List.eraseIdx_sublist _ _), fun s hs => M.stamp.2 s ((List.eraseIdx_sublist _ _).subset hs)⟩
    · exact M.nodup.sublist ((List.eraseIdx_sublist _ _).map _)
theorem left_nil (bs : List Nat) : leftIx bs #[] = List.range bs.length := by
  unfold leftIx
  rw [List.filter_eq_self]
  intro j _
  simp
theorem s_iterM {t : TypeId} {x : Operand} (R : Rel E st g s a w) (hg : GlobOK C.gl st) (G : Good C) (ho : o.op = .range t x) : Snd C E st g s a w o (evIterM C s t (s.ev C x)) := by
  unfold evIterM
  refine onMap_all R G (ev_ok (C := C) R hg x) fun i ag sh es bs ck k e b arr he M => ?_
  rw [forceN_eq]
  refine All.ret (OpOK.new R (.pointer (some ⟨w.heap.size, 0, none⟩)) w (SameW.refl w) ⟨some w.heap.size, none, 0, 0, 0⟩ (.mapIter (some b) ck #[] ck) ?_ (by simp) ?_ ?_)
  · simp [execOp, ho, Instr.range, run_underlying M.und, M.mv, MapKept.run_getObj_map M.hp, Result.andThen, newObj, Sem.run]
  · refine ⟨w.heap.size, b, #[], rfl, R.wr.gnew _ R.wr.size, heap_alloc_new, ?_, (left_nil bs).symm, .inl ⟨rfl, Nat.le_refl _⟩⟩
    simp only [VR]
    refine ⟨by have := M.lt; omega, b, ?_, rfl⟩
    rw [upd_other (Nat.ne_of_lt M.lt)]
    exact M.blk
  · simp only [VR, upd_same]
    exact ⟨by omega, w.heap.size, rfl, rfl⟩
theorem Chg.after {st' : St} {w1 w2 : World} {B : Nat → Prop} (c : Chg E st st' w w1 B) (h : SameW w1 w2) : Chg E st st' w w2 B where
  os := h.os.trans c.os
  tape := h.tape.trans c.tape
  output := h.output.trans c.output
  size := by rw [h.heap]; exact c.size
  keep := fun b hb hB => by rw [h.heap]; exact c.keep b hb hB
  own := c.own
  mono := c.mono
  newst := fun b o v hv => by rw [cell?_congr (w := w1) (w' := w2) (by rw [h.heap])]; exact c.newst b o v hv
  oldst := fun b o v hB hv => by rw [cell?_congr (w := w1) (w' := w2) (by rw [h.heap])]; exact c.oldst b o v hB hv
theorem ents_born {ag : Bool} {sh : List Sc} {es : List (V × Int)} {bs : List Nat} {l : List MapEntry} (h : EntR ag sh es bs l) : l.map (·.born) = bs := by
  obtain ⟨hl1, hl2⟩ := ent_len h
  apply List.ext_getElem?
  intro i
  rw [List.getElem?_map]
  cases hi : l[i]? with
  | none =>
    have : bs[i]? = none := by rw [List.getElem?_eq_none_iff] at hi ⊢; omega
    rw [this]; rfl
  | some e' =>
    obtain ⟨_, _, _, _, c2, c3⟩ := ent_at h hi
    rw [c2]
    simp [c3.2.2.2.2.2]
/-- an iterator, and its map -/
theorem iter_at (R : Rel E st g s a w) {k i ck ck' : Nat} {ag : Bool} {sh : List Sc} {es : List (V × Int)} {bs bs' left : List Nat} {last : Nat} (hk : getSg s.sg k = .miter (.map i) bs ck left last) (hi : getSg s.sg i = .map ag sh es bs' ck') :
    ∃ b b' seen arr, k < s.sg.length ∧ (g k).blk = some b ∧ E.G b ∧ w.heap[b]? = some (.mapIter (some b') ck seen ck) ∧ (g i).blk = some b' ∧ i < s.sg.length ∧ w.heap[b']? = some (.map arr ck') ∧ EntR ag sh es bs' arr.toList ∧ StampOK bs' ck' ∧
      left = leftIx bs seen ∧ ((seen = #[] ∧ bs.length ≤ last) ∨ (seen.back? = some (bs.getD last 0) ∧ last < bs.length)) := by
  obtain ⟨hs1, hkl⟩ := getSg_eq hk (by simp)
  obtain ⟨hs2, hil⟩ := getSg_eq hi (by simp)
  obtain ⟨b, b', seen, h1, h2, h3, h4, h5, h6⟩ := R.wr.ob k _ hs1
  obtain ⟨b2, arr, q1, q2, q3, q4, q5, q6⟩ := R.wr.ob i _ hs2
  simp only [VR] at h4
  obtain ⟨_, b3, h7, h8⟩ := h4
  rw [q1] at h7; cases h7
  injection h8 with h8
  injection h8 with h8
  subst h8
  exact ⟨b, b', seen, arr, hkl, h1, h2, h3, q1, hil, q3, q4, q5, h5, h6⟩
theorem s_entry {x : Operand} (R : Rel E st g s a w) (hg : GlobOK C.gl st) (ho : o.op = .entry x) : Snd C E st g s a w o (evEntry C s x) := by
  unfold evEntry
  have hx := ev_ok (C := C) R hg x
  split
  · rename_i k he
    rw [he] at hx
    simp only [VR] at hx
    obtain ⟨hkl, b, hb, hx⟩ := hx
    split
    · rename_i i bs ck left last hs
      split
      · rename_i ag sh es bs' ck' hs2
        obtain ⟨b1, b', seen, arr, _, h1, h2, h3, h4, h5, h6, h7, h8, h9, h10⟩ := iter_at R hs hs2
        rw [hb] at h1; cases h1
        refine All.req fun hq => ?_
        obtain ⟨rfl, rfl⟩ := hq
        rw [idxT_eq]
        refine All.opt fun p hp => All.ret ?_
        obtain ⟨s1, e1, c1, c2, c3⟩ := ent_get h7 (x := p.1) (q := p.2) hp
        obtain ⟨hl1, hl2⟩ := ent_len h7
        obtain ⟨hlt, _⟩ := List.getElem?_eq_some_iff.1 c1
        rcases h10 with ⟨_, h10⟩ | ⟨h10, _⟩
        · omega
        · have hs1 : bs'.getD last 0 = s1 := by rw [List.getD_eq_getElem?_getD, c1]; rfl
          rw [hs1] at h10
          have hpop : seen = seen.pop.push s1 := by
            apply Array.ext'
            rw [Array.toList_push, Array.toList_pop]
            have hl : seen.toList.getLast? = some s1 := by rw [Array.getLast?_toList]; exact h10
            obtain ⟨ys, hys⟩ := List.getLast?_eq_some_iff.1 hl
            rw [hys]; simp
          have hs1e : s1 = e1.born := c3.2.2.2.2.2.symm
          have hrun := run_entry_at (P := C.P) w b b' ck' seen.pop arr ck' e1 (by rw [← hs1e, ← hpop]; exact h3) h6 (List.mem_of_getElem? c2) (by rw [ents_born h7]; exact h8.1)
          refine OpOK.pure R (.tuple #[e1.key, e1.val]) w ?_ (SameW.refl w) ?_
          · simp only [execOp, ho, hx, Sem.run_bind, hrun, Result.andThen_ok]; rfl
          · simp only [VR]
            refine ⟨_, rfl, VRs_cons (by simp [VR]) (VRs_cons ?_ VRs_nil)⟩
            rw [c3.2.2.2.1]
            exact int_in c3.2.2.2.2.1
      · exact All.fail
    · exact All.fail
  · exact All.fail
theorem left_push {bs : List Nat} {seen : Array Nat} {j : Nat} (hn : bs.Nodup) (hj : j < bs.length) : leftIx bs (seen.push (bs.getD j 0)) = (leftIx bs seen).erase j := by
  have hnd : (leftIx bs seen).Nodup := List.Nodup.sublist List.filter_sublist List.nodup_range
  rw [hnd.erase_eq_filter]
  unfold leftIx
  rw [List.filter_filter]
  refine List.filter_congr fun i hi => ?_
  have hi := List.mem_range.1 hi
  have hij : (bs.getD i 0 = bs.getD j 0) ↔ i = j := by
    rw [List.getD_eq_getElem?_getD, List.getD_eq_getElem?_getD, List.getElem?_eq_getElem hi, List.getElem?_eq_getElem hj]
    exact List.getElem_inj hn
  simp only [Array.toList_push, List.contains_append]
  by_cases e : i = j
  · subst e; simp
  · have : ¬ bs.getD i 0 = bs.getD j 0 := fun q => e (hij.1 q)
    have h2 : (i != j) = true := by simpa using e
    simp [h2, e]
    intro _
    simpa using this
/-- the next of a map's entries -/
theorem s_nextM {x : Operand} (R : Rel E st g s a w) (hg : GlobOK C.gl st) (ho : o.op = .next x false) {K : Ef → AS → Prop} (h : nextM C s x o.dst K) : ∃ e, K e (s.app o.dst e) ∧ OpOK C E st g s a w o e := by
  unfold nextM at h
  have hx := ev_ok (C := C) R hg x
  split at h
  · rename_i k he
    rw [he] at hx
    simp only [VR] at hx
    obtain ⟨hkl, b, hb, hx⟩ := hx
    split at h
    · rename_i i bs ck left last hs
      split at h
      · rename_i ag sh es bs' ck' hs2
        obtain ⟨b1, b', seen, arr, _, h1, h2, h3, h4, h5, h6, h7, h8, h9, h10⟩ := iter_at R hs hs2
        rw [hb] at h1; cases h1
        obtain ⟨⟨rfl, rfl⟩, k1, k2⟩ := h
        simp only [appK_eq] at k1 k2
        have hborn := ents_born h7
        have hold : ∀ y ∈ arr.toList, y.born < ck' := fun y hy => h8.2 _ (by rw [← hborn]; exact List.mem_map.2 ⟨y, hy, rfl⟩)
        obtain ⟨hl1, hl2⟩ := ent_len h7
        rcases run_next_at (P := C.P) w o.type b b' ck' ck' seen arr ck' h3 h6 hold (Nat.le_refl _) with ⟨n1, n2⟩ | ⟨en, n1, w1, n2, n3⟩
        · have hl : left = [] := by
            rw [h9]
            unfold leftIx
            rw [List.filter_eq_nil_iff]
            intro j hj
            have hj := List.mem_range.1 hj
            obtain ⟨en, hen⟩ : ∃ en, arr.toList[j]? = some en := ⟨_, List.getElem?_eq_getElem (by omega)⟩
            have hbj : bs'.getD j 0 = en.born := by
              rw [← hborn, List.getD_eq_getElem?_getD, List.getElem?_map, hen]; rfl
            rw [hbj]
            intro q
            have hmem : en ∈ (Go.leftOf arr seen).toList := by
              unfold Go.leftOf
              simp only [Array.mem_toList_iff, Array.mem_filter]
              refine ⟨by simpa using List.mem_of_getElem? hen, ?_⟩
              simpa using q
            rw [Array.eq_empty_of_size_eq_zero n1] at hmem
            simp at hmem
          refine ⟨_, k1 hl, OpOK.pure R (.tuple #[.bool false]) w ?_ (SameW.refl w) ?_⟩
          · simp only [execOp, ho, hx, Sem.run_bind, n2, Result.andThen_ok]; rfl
          · simp only [VR]; exact ⟨_, rfl, VRs_cons VR_bool VRs_nil⟩
        · unfold Go.leftOf at n1
          simp only [Array.mem_toList_iff, Array.mem_filter] at n1
          obtain ⟨m1, m2⟩ := n1
          obtain ⟨j, hj⟩ := List.getElem?_of_mem (show en ∈ arr.toList by simpa using m1)
          obtain ⟨hjl, _⟩ := List.getElem?_eq_some_iff.1 hj
          have hbj : bs'.getD j 0 = en.born := by
            rw [← hborn, List.getD_eq_getElem?_getD, List.getElem?_map, hj]; rfl
          have hjm : j ∈ left := by
            rw [h9]
            unfold leftIx
            refine List.mem_filter.2 ⟨List.mem_range.2 (by omega), ?_⟩
            rw [hbj]
            simpa using m2
          refine ⟨_, k2 j hjm, ?_⟩
          have hw1 : SameW (putB w b (.mapIter (some b') ck' (seen.push en.born) ck')) (Go.ChangeMaps.setBlock w1 b (.mapIter (some b') ck' (seen.push en.born) ck')) := by
            rcases n2 with rfl | rfl <;> exact ⟨rfl, rfl, rfl, rfl⟩
          refine OpOK.turn R hkl (.tuple #[.bool true, en.key, en.val]) _ (g k) (.inl ?_) ((Chg.putB h2 _ (fun b'' => by rw [hb]; simp [eq_comm]) (fun k v hv => ?_)).after hw1) (.inl rfl) (fun b hb => .inl hb) ?_ ?_
          · simp only [execOp, ho, hx, Sem.run_bind, n3, Result.andThen_ok]; rfl
          · have := R.wr.stw _ _ _ hv
            simp only [World.cell?, h3] at this
            cases this
          · rw [upd_id]
            refine ObjR.same ?_ hw1
            refine ⟨b, b', seen.push en.born, hb, h2, putB_same h3, ?_, ?_, .inr ⟨?_, by omega⟩⟩
            · simp only [VR]; exact ⟨h5, b', h4, rfl⟩
            · rw [← hbj, left_push h8.1 (by omega), h9]
            · rw [Array.back?_push, hbj]
          · simp only [VR]
            exact ⟨_, rfl, VRs_cons VR_bool (VRs_cons (by simp [VR]) (VRs_cons (by simp [VR]) VRs_nil))⟩
      · exact h.elim
    · exact h.elim
  · exact h.elim
end
end Go.VG
namespace Go.VG
open Go
/-- the scalars of a type, one behind the other -/
def shFields (f : TypeId → Option (List Sc)) : List Field → Nat → Option (List Sc)
  | [], _ => some []
  | x :: xs, off => match Nat.beq x.offset off, f x.type with
    | true, some sh => match shFields f xs (off + sh.length) with
      | some r => some (sh ++ r)
      | none => none
    | _, _ => none
def shapeOf (P : Program) : Nat → TypeId → Option (List Sc)
  | 0, _ => none
  | d + 1, t => match P.underlying t with
    | some .bool => cond (Nat.beq 1 (P.cellsOf t)) (some [.kB]) none
    | some (.int q) => cond (Nat.beq 1 (P.cellsOf t)) (some [.kI q]) none
    | some .string => cond (Nat.beq 1 (P.cellsOf t)) (some [.kS]) none
    | some (.struct fs) => match fs.all (·.name != "_"), shFields (shapeOf P d) fs.toList 0 with
      | true, some sh => match Nat.beq sh.length (P.cellsOf t) with
        | true => some sh
        | false => none
      | _, _ => none
    | _ => none
def litV : V → Lit
  | .int k n => .int k n
  | .bool b => .bool b
  | .str s => .string s
  | _ => .bool false
theorem fitsL_len : ∀ {sh : List Sc} {cs : List V}, fitsL sh cs = true → sh.length = cs.length
  | [], [], _ => rfl
  | k :: ks, x :: xs, h => by
    simp only [fitsL, Bool.and_eq_true] at h
    simp [fitsL_len h.2]
  | [], _ :: _, h => by cases h
  | _ :: _, [], h => by cases h
theorem fitsL_app : ∀ {s1 s2 : List Sc} {cs : List V}, fitsL (s1 ++ s2) cs = true → fitsL s1 (cs.take s1.length) = true ∧ fitsL s2 (cs.drop s1.length) = true
  | [], _, cs, h => ⟨by cases cs <;> rfl, by simpa using h⟩
  | k :: ks, s2, [], h => by simp [fitsL] at h
  | k :: ks, s2, x :: xs, h => by
    simp only [List.cons_append, fitsL, Bool.and_eq_true] at h
    obtain ⟨a, b⟩ := fitsL_app h.2
    exact ⟨by simp [fitsL, h.1, a], by simpa using b⟩
variable {P : Program}
theorem keq_t {k k' : IntKind} (h : keq k k' = true) : k = k' := by cases k <;> cases k' <;> first | rfl | cases h
theorem wf_lit {k : IntKind} {n : Int} (h : k.min ≤ n ∧ n ≤ k.max) : (Lit.int k n).wf = true := by
  simp only [Lit.wf, Bool.and_eq_true, decide_eq_true_eq]; exact h
theorem fields_lits (D : Nat) (f : TypeId → Option (List Sc)) (hf : ∀ t sh, f t = some sh → sh.length = P.cellsOf t ∧ ∀ (st : St) (g : Ghost) (n : Nat) (cs : List V) (vs : List Value), fitsL sh cs = true → VRs st g cs n vs → P.keyLits D t vs = some (cs.map litV)) :
    ∀ (fs : List Field) (off : Nat) (sh : List Sc), shFields f fs off = some sh → ∀ (st : St) (g : Ghost) (n : Nat) (cs : List V) (vs : List Value), fitsL sh (cs.drop off) = true → VRs st g cs n vs → off ≤ cs.length →
    ∃ xs, fs.mapM (fun f => P.keyLits D f.type ((vs.drop f.offset).take (P.cellsOf f.type))) = some xs ∧ xs.flatten = (cs.drop off).map litV
  | [], off, sh, h, st, g, n, cs, vs, hfit, hv, ho => by
    simp only [shFields] at h
    cases h
    have := fitsL_len hfit
    simp at this
    refine ⟨[], by simp, ?_⟩
    rw [List.drop_eq_nil_of_le (by omega)]; rfl
  | x :: xs, off, sh, h, st, g, n, cs, vs, hfit, hv, ho => by
    simp only [shFields] at h
    split at h
    · rename_i s1 e1 e2
      split at h
      · rename_i r e3
        cases h
        have e1 := Nat.eq_of_beq_eq_true e1
        obtain ⟨q1, q2⟩ := hf _ _ e2
        obtain ⟨f1, f2⟩ := fitsL_app hfit
        have hl := fitsL_len hfit
        rw [List.length_append, List.length_drop] at hl
        have hv1 : VRs st g ((cs.drop off).take s1.length) n ((vs.drop off).take s1.length) := VRs_take (VRs_drop hv)
        have k1 := q2 st g n _ _ f1 hv1
        have f2' : fitsL r (cs.drop (off + s1.length)) = true := by rw [← List.drop_drop]; exact f2
        obtain ⟨ys, y1, y2⟩ := fields_lits D f hf xs (off + s1.length) r e3 st g n cs vs f2' hv (by omega)
        refine ⟨((cs.drop off).take s1.length).map litV :: ys, ?_, ?_⟩
        · rw [List.mapM_cons, e1, ← q1, k1, y1]; rfl
        · rw [List.flatten_cons, y2, ← List.map_append, ← List.drop_drop, List.take_append_drop]
      · cases h
    · cases h
theorem cond_some {b : Bool} {α : Type} {x y : α} (h : cond b (some x) none = some y) : b = true ∧ x = y := by cases b <;> simp_all
theorem shape_lits : ∀ (d : Nat) (t : TypeId) (sh : List Sc), shapeOf P d t = some sh → sh.length = P.cellsOf t ∧ ∀ (st : St) (g : Ghost) (n : Nat) (cs : List V) (vs : List Value), fitsL sh cs = true → VRs st g cs n vs → P.keyLits d t vs = some (cs.map litV)
  | 0, _, _, h => by simp [shapeOf] at h
  | d + 1, t, sh, h => by
    have one : ∀ {k : Sc} {cs : List V}, fitsL [k] cs = true → ∃ x, cs = [x] ∧ fits1 k x = true := fun {k cs} hf => by
      match cs, hf with
      | [x], hf => simp only [fitsL, Bool.and_true] at hf; exact ⟨x, rfl, hf⟩
      | [], hf => cases hf
      | x :: y :: r, hf => simp [fitsL] at hf
    have onev : ∀ {st : St} {g : Ghost} {n : Nat} {x : V} {vs : List Value}, VRs st g [x] n vs → ∃ v, vs = [v] ∧ VR st g x n v := fun {st g n x vs} hv => by
      simp only [VRs] at hv
      obtain ⟨u, us, rfl, h1, rfl⟩ := hv
      exact ⟨u, rfl, h1⟩
    simp only [shapeOf] at h
    split at h
    · rename_i hu
      obtain ⟨hb, rfl⟩ := cond_some h
      refine ⟨Nat.eq_of_beq_eq_true hb, fun st g n cs vs hf hv => ?_⟩
      obtain ⟨x, rfl, hx⟩ := one hf
      obtain ⟨v, rfl, hw⟩ := onev hv
      clear hv hf
      cases x <;> try (cases hx; done)
      simp only [VR] at hw
      subst hw
      simp [Program.keyLits, hu, litV]
    · rename_i q hu
      obtain ⟨hb, rfl⟩ := cond_some h
      refine ⟨Nat.eq_of_beq_eq_true hb, fun st g n cs vs hf hv => ?_⟩
      obtain ⟨x, rfl, hx⟩ := one hf
      obtain ⟨v, rfl, hw⟩ := onev hv
      clear hv hf
      cases x <;> try (cases hx; done)
      have hx := keq_t hx
      subst hx
      simp only [VR] at hw
      obtain ⟨rfl, hw⟩ := hw
      simp [Program.keyLits, hu, litV, wf_lit hw]
    · rename_i hu
      obtain ⟨hb, rfl⟩ := cond_some h
      refine ⟨Nat.eq_of_beq_eq_true hb, fun st g n cs vs hf hv => ?_⟩
      obtain ⟨x, rfl, hx⟩ := one hf
      obtain ⟨v, rfl, hw⟩ := onev hv
      clear hv hf
      cases x <;> try (cases hx; done)
      simp only [VR] at hw
      obtain ⟨rfl, hw⟩ := hw
      rename_i s
      have hsz : (⟨s.toArray⟩ : ByteArray).size = s.length := by show s.toArray.size = _; simp
      simp [Program.keyLits, hu, litV, hsz, hw]
    · rename_i fs hu
      split at h
      · rename_i sh' ha hsf
        split at h
        · rename_i hb
          cases h
          refine ⟨Nat.eq_of_beq_eq_true hb, fun st g n cs vs hf hv => ?_⟩
          obtain ⟨xs, x1, x2⟩ := fields_lits d (shapeOf P d) (fun t sh h => shape_lits d t sh h) fs.toList 0 sh hsf st g n cs vs (by simpa using hf) hv (Nat.zero_le _)
          have hlen : vs.length = P.cellsOf t := by rw [← VRs_length hv, ← fitsL_len hf]; exact Nat.eq_of_beq_eq_true hb
          unfold Program.keyLits
          simp only [hu]
          rw [if_pos ⟨hlen, ha⟩, x1]
          simp [x2]
        · cases h
      · cases h
    · cases h
theorem eqs_lits : ∀ {sh : List Sc} {cs ds : List V} {r : Bool}, sh ≠ [] → fitsL sh cs = true → fitsL sh ds = true → eqs cs ds = some r → (r = true ↔ cs.map litV = ds.map litV) := by
  have e1 : ∀ {k : Sc} {x y : V} {r : Bool}, fits1 k x = true → fits1 k y = true → eq1 x y = some r → (r = true ↔ litV x = litV y) := fun {k x y r} hx hy h => by
    cases k <;> cases x <;> simp only [fits1, Bool.false_eq_true] at hx <;> cases y <;> simp only [fits1, Bool.false_eq_true] at hy
    · simp only [eq1, Option.some.injEq] at h; subst h; simp [litV]
    · have hx := keq_t hx
      have hy := keq_t hy
      subst hx; subst hy
      simp only [eq1] at h
      obtain ⟨_, rfl⟩ := cond_some h
      simp [litV]
    · simp only [eq1, Option.some.injEq] at h; subst h; simp [litV]
  intro sh
  induction sh with
  | nil => intro cs ds r h; exact absurd rfl h
  | cons k ks ih =>
    intro cs ds r _ hc hd h
    match cs, ds, hc, hd with
    | [], _, hc, _ => cases hc
    | _ :: _, [], _, hd => cases hd
    | x :: xs, y :: ys, hc, hd =>
      simp only [fitsL, Bool.and_eq_true] at hc hd
      by_cases hk : ks = []
      · subst hk
        have l1 := fitsL_len hc.2
        have l2 := fitsL_len hd.2
        obtain rfl : xs = [] := List.eq_nil_of_length_eq_zero l1.symm
        obtain rfl : ys = [] := List.eq_nil_of_length_eq_zero l2.symm
        simp only [eqs] at h
        rw [e1 hc.1 hd.1 h]; simp
      · have hxs : xs ≠ [] := fun e => hk (by subst e; exact List.eq_nil_of_length_eq_zero (fitsL_len hc.2))
        have h : (match eq1 x y, eqs xs ys with
          | some a, some b => some (a && b)
          | _, _ => none) = some r := by
          cases xs with
          | nil => exact absurd rfl hxs
          | cons x2 xr =>
            cases ys with
            | nil => have := fitsL_len hd.2; have := fitsL_len hc.2; simp_all
            | cons y2 yr => exact h
        split at h
        · rename_i a b ha hb
          cases h
          rw [Bool.and_eq_true, e1 hc.1 hd.1 ha, ih hk hc.2 hd.2 hb]; simp
        · cases h
theorem feq_of {t : TypeId} {sh : List Sc} (hne : sh ≠ []) (h1 : shapeOf P 8 t = some sh) (h2 : P.keyTypeAt 8 t = true) (h3 : P.eqGuardType P.depth t = false) (h4 : (match P.underlying t with | some (.struct _) => true | _ => false) = true) : FeqOK P t sh := by
  intro st g n cs ds r a b w hc hd he hl ha hb
  obtain ⟨q1, q2⟩ := shape_lits 8 t sh h1
  have k1 := q2 st g n cs _ hc ha
  have k2 := q2 st g n ds _ hd hb
  have fm : ∀ (x : Array Value), x.toList.length = P.cellsOf t → (Value.agg x).formed P t = true := fun x hx => by
    split at h4
    · rename_i fs hu; simp at hx; simp [Value.formed, hu, hx]
    · cases h4
  obtain ⟨r', e1, e2⟩ := run_equalIn_deep (P := P) 9992 8 t h2 w 8 8 (.agg a) (.agg b) _ _ (fm a (by rw [← VRs_length ha, ← fitsL_len hc]; exact q1)) (fm b (by rw [← VRs_length hb, ← fitsL_len hd]; exact q1)) k1 k2
  have e3 := eqs_lits hne hc hd he
  have : r' = r := by
    cases r <;> cases r' <;> simp_all
  subst this
  exact ⟨e1, h3⟩
/-! keys of maps -/
theorem VRs_vals {st : St} {g : Ghost} {n : Nat} : ∀ {sh : List Sc} {cs : List V}, fitsL sh cs = true → (∀ c ∈ cs, ok1 c) → VRs st g cs n (cs.map val1)
  | _, [], _, _ => VRs_nil
  | [], _ :: _, h, _ => by cases h
  | k :: ks, c :: cs, h, ho => by
    simp only [fitsL, Bool.and_eq_true] at h
    refine VRs_cons ?_ (VRs_vals h.2 fun d hd => ho d (List.mem_cons_of_mem _ hd))
    have h1 := ho c (List.mem_cons_self ..)
    have h0 := h.1
    cases k <;> cases c <;> simp only [fits1, Bool.false_eq_true] at h0
    · simp [VR, val1]
    · simp only [VR, val1]; exact ⟨trivial, h1⟩
    · simp only [VR, val1]; exact ⟨trivial, h1⟩
theorem key_str {P : Program} {k : TypeId} (h : P.underlying k = some .string) : KeyOK P k [.kS] := by
  refine ⟨WideMaps.string_law h, fun x hx ho => ?_⟩
  have ha : aggOf P k = false := by unfold aggOf; rw [h]
  rw [ha] at hx
  rcases fitsK_cases hx with ⟨_, _, h0, _⟩ | ⟨k', _, e, h1, h2, h3⟩
  · cases h0
  · cases e
    cases x <;> simp only [fits1, Bool.false_eq_true] at h1
    rename_i s
    have hl : s.length ≤ maxLen := h3.1 ho
    rw [h2]
    exact ⟨_, WideMaps.keyOf_string_mk h (s := ⟨s.toArray⟩) (by show s.toArray.size ≤ _; simpa using hl)⟩
theorem key_struct {P : Program} {k : TypeId} {sh : List Sc} (h1 : shapeOf P (P.types.size + 1) k = some sh) (m : Nat) (hm : m + 1 ≤ 10000) (hk : P.keyTypeAt m k = true) (ht : P.tiled m k = true) (hkt : P.keyType k = true)
    (h4 : (match P.underlying k with | some (.struct _) => true | _ => false) = true) : KeyOK P k sh := by
  have hw : (match P.underlying k with | some (.array _ _) | some (.struct _) => true | _ => false) = true := by
    split at h4
    · rename_i fs hu; rw [hu]
    · cases h4
  refine ⟨deep_law hm hk ht hw, fun x hx ho => ?_⟩
  have ha : aggOf P k = true := by
    unfold aggOf
    split at h4
    · rename_i fs hu; rw [hu]
    · cases h4
  rw [ha] at hx
  rcases fitsK_cases hx with ⟨cs, rfl, _, hf⟩ | ⟨_, h0, _⟩
  · obtain ⟨q1, q2⟩ := shape_lits _ k sh h1
    have hv := VRs_vals (st := fun _ _ => none) (g := fun _ => ⟨none, none, 0, 0, 0⟩) (n := 0) hf ho
    have k1 := q2 _ _ _ cs _ hf hv
    have fm : (valK (.agg cs)).formed P k = true := by
      have hl : cs.length = P.cellsOf k := by rw [← fitsL_len hf]; exact q1
      split at h4
      · rename_i fs hu; simp [valK, Value.formed, hu, hl]
      · cases h4
    have hc : (valK (.agg cs)).cells.toList = cs.map val1 := by simp [valK, Value.cells]
    refine ⟨.string (keyBytes (cs.map litV)), ?_⟩
    unfold keyOf
    split at h4
    · rename_i fs hu
      rw [hu]
      simp only [hkt, fm, Bool.and_self, if_true, hc, k1]
      rfl
    · cases h4
  · cases h0
end Go.VG
namespace Go.VG
open Go

section
variable {C : Ctx} {E : Env} {st : St} {g : Ghost} {s : AS} {a : Act} {w : World} {o : Oper} {e : Ef}

theorem len_in {n m : Nat} (h : n ≤ maxLen) : VR st g (.int .i64 (n : Int)) m (goInt n) := by
  refine VR_int ⟨?_, ?_⟩
  · simp [IntKind.min, IntKind.signed, IntKind.bits]
  · rw [IntKind.max_i64]; unfold maxLen at h; omega

theorem s_copy {t t2 e : TypeId} {x y : Operand} {i : Nat} {l : List V} {sz : Nat} {ys : List V} {rd : List Nat} {args : Array Operand} (R : Rel E st g s a w) (hg : GlobOK C.gl st) (G : Good C) (hargs : args.toList = [x, y])
    (ho : o.op = .call { callee := .builtin .copy, args := args, argTypes := #[t, t2] }) (hk : (C.ti t).k = .slice e) (hk2 : (C.ti e).k ≠ .other) (hx0 : s.ev C x = .buf i) (hs : getSg s.sg i = .buf (C.ti e).size 0 l)
    (hy : Elems E st g w (a.eval y) sz ys) (hsz : szOk sz (C.ti e).size ys = true) :
    OpOK C E st g s a w o ⟨.int .i64 (min ys.length l.length : Nat), [], [(i, .buf (C.ti e).size 0 (ys.take l.length ++ l.drop ys.length))], [], i :: rd⟩ := by
  have hx := ev_ok (C := C) R hg x
  rw [hx0] at hx
  simp only [VR] at hx
  obtain ⟨hil, hx⟩ := hx
  obtain ⟨hs1, _⟩ := getSg_eq hs (by simp)
  obtain ⟨q1, q2, q3, q4, q5, q6, q7⟩ := R.wr.ob i _ hs1
  have ht : C.P.underlying t = some (.slice e) := by
    have h3 := ((G.ti t).of (by rw [hk]; simp)).1
    rw [hk] at h3; exact h3
  obtain ⟨cs, c1, c2, c3, c4⟩ := hy.cells hsz q1
  have hargs' : args = #[x, y] := by cases args; simp_all
  subst hargs'
  have hn : min ys.length l.length ≤ ys.length := Nat.min_le_left _ _
  have hn2 : min ys.length l.length ≤ l.length := Nat.min_le_right _ _
  have hnm : min ys.length l.length ≤ maxLen := Nat.le_trans hn2 q4
  have hl1 : (ys.take l.length ++ l.drop ys.length).length = l.length := by simp; omega
  have hc := (c4 C.P w rfl).1
  have hc2 := (c4 C.P w rfl).2 _ hn
  have hmin : Nat.min ys.length l.length = min ys.length l.length := rfl
  generalize hN : min ys.length l.length = N at *
  have hV : VR st (upd g i (g i)) (.int .i64 (N : Nat)) s.sg.length (goInt N) := len_in hnm
  rcases q7 with ⟨q7, q8⟩ | ⟨b', c, el, fr, k1, k2, k3, k4, k5, k6, k7, k8⟩
  · have hl0 : l = [] := List.eq_nil_of_length_eq_zero (by omega)
    subst hl0
    have hN0 : N = 0 := by simp only [List.length_nil] at hn2; omega
    subst hN0
    have hr : (Builtin.copy_ #[t, t2] o.type #[a.eval x, a.eval y]).run C.P w = .ok (goInt 0) w := by
      unfold Builtin.copy_
      simp only [List.getElem?_toArray, List.getElem?_cons_zero, List.getElem?_cons_succ, run_underlying ht, Sem.run_bind, Sem.run_pure, Result.andThen_ok, hx, hc, q5, run_size w (G.ti e) hk2, hmin, hc2]
      cases (g i).base <;> simp only [Nat.zero_mul, List.take_zero] <;> rfl
    refine OpOK.turn R hil _ w (g i) (.inl (by simp only [execOp, ho, resolve, invoke, builtin]; simp [hr])) ⟨rfl, rfl, rfl, Nat.le_refl _, fun _ _ _ => rfl, fun b hb => (R.wr.blk_lt hil hb).2, fun _ _ _ h => h, fun _ _ _ h => .inl h, fun b o v _ h => R.wr.stw _ _ _ h⟩
      (.inl rfl) (fun b hb => .inl hb) ?_ hV
    exact ⟨q1, q2, by simp, by simp, by simpa using q5, by simp, .inl ⟨q7, q8⟩⟩
  · have hin : N * (C.ti e).size ≤ l.length * (C.ti e).size := Nat.mul_le_mul_right _ hn2
    have hin2 : l.length * (C.ti e).size ≤ c.size := by rw [k5]; exact Nat.mul_le_mul_right _ q6
    have hin3 : N * (C.ti e).size ≤ cs.length := by rw [c1]; exact Nat.mul_le_mul_right _ hn
    have htl : (cs.take (N * (C.ti e).size)).length = N * (C.ti e).size := by simp; omega
    have hlen : cs.take (N * (C.ti e).size) = [] ∨ 0 + (cs.take (N * (C.ti e).size)).length ≤ c.toList.length := by right; rw [htl]; simp; omega
    have hst := run_storeCells_blk (P := C.P) (b := b') (o := 0) (cs.take (N * (C.ti e).size)) 0 c w k4 k7 (by simpa using hlen) (fun v hv => c2 v (List.mem_of_mem_take hv))
    rw [Nat.add_zero] at hst
    have hcell := over_get (xs := c.toList) (ys := cs.take (N * (C.ti e).size)) (o := 0) hlen
    have hr : (Builtin.copy_ #[t, t2] o.type #[a.eval x, a.eval y]).run C.P w = .ok (goInt N) (putB w b' (.cells (over c.toList 0 (cs.take (N * (C.ti e).size))).toArray el fr)) := by
      unfold Builtin.copy_
      simp only [List.getElem?_toArray, List.getElem?_cons_zero, List.getElem?_cons_succ, run_underlying ht, Sem.run_bind, Sem.run_pure, Result.andThen_ok, hx, hc, q5, run_size w (G.ti e) hk2, hmin, hc2, k2, hst]
    have hug : upd g i (g i) = g := by funext j; by_cases e : j = i <;> simp [upd, e]
    refine OpOK.turn R hil _ _ (g i) (.inl (by simp only [execOp, ho, resolve, invoke, builtin]; simp [hr]; rfl)) (Chg.putB k3 _ (fun b'' => by rw [k1]; simp [eq_comm]) (fun k v hv => ?_))
      (.inl rfl) (fun b hb => .inl hb) ?_ hV
    · have h9 := k8 k v hv
      omega
    · rw [hug]
      refine ⟨q1, q2, by simp, by rw [hl1]; exact q4, by rw [hl1]; exact q5, by rw [hl1]; exact q6, .inr ⟨b', _, el, fr, k1, k2, k3, putB_same k4, ?_, ?_, ?_, k8⟩⟩
      · simp only [List.size_toArray, over_length hlen, Array.length_toList]; exact k5
      · have hrow1 := c3 (fun k => cs[k]?) 0 (fun k u hu => by rw [Nat.zero_add]; exact hu)
        rw [VRrow_iff] at hrow1 k6 ⊢
        intro j z hz
        have hmul : j < N → j * (C.ti e).size + (C.ti e).size ≤ N * (C.ti e).size := fun h => by
          have := Nat.mul_le_mul_right (C.ti e).size (show j + 1 ≤ N by omega)
          rw [Nat.add_mul, Nat.one_mul] at this; exact this
        rcases Nat.lt_or_ge j N with hj | hj
        · rw [List.getElem?_append_left (by simp; omega), List.getElem?_take, if_pos (by omega)] at hz
          obtain ⟨u, u1, u2, u3, u4⟩ := hrow1 j z hz
          refine ⟨u, u1, u2, u3, fun k hk => ?_⟩
          have := hmul hj
          rw [List.getElem?_toArray, hcell, if_pos (by rw [htl]; omega), List.getElem?_take, if_pos (by omega), ← u4 k hk]
          congr 1
        · have hz' : l[j]? = some z := by
            rw [List.getElem?_append_right (by simp; omega), List.getElem?_drop] at hz
            rcases Nat.lt_or_ge l.length ys.length with hll | hll
            · rw [List.getElem?_eq_none (by omega)] at hz; cases hz
            · rw [← hz, List.length_take]; congr 1; omega
          obtain ⟨u, u1, u2, u3, u4⟩ := k6 j z hz'
          refine ⟨u, u1, u2, u3, fun k hk => ?_⟩
          have : N * (C.ti e).size ≤ j * (C.ti e).size := Nat.mul_le_mul_right _ hj
          have h5 := u4 k hk
          rw [List.getElem?_toArray, hcell, if_neg (by rw [htl]; omega), ← h5]
          simp
      · refine ⟨k7.1, fun k hk => ?_⟩
        refine k7.2 k ?_
        simp only [List.size_toArray, over_length hlen, Array.length_toList] at hk
        exact hk

theorem evs_two {x y : V} {l : List Operand} (h : s.evs C l = [x, y]) : ∃ p q, l = [p, q] ∧ x = s.ev C p ∧ y = s.ev C q := by
  match l, h with
  | [p, q], h => simp only [AS.evs, List.cons.injEq, and_true] at h; exact ⟨p, q, rfl, h.1.symm, h.2.symm⟩
  | [], h => simp [AS.evs] at h
  | [_], h => simp [AS.evs] at h
  | _ :: _ :: _ :: _, h => simp [AS.evs] at h
theorem evs_one {x : V} {l : List Operand} (h : s.evs C l = [x]) : ∃ p, l = [p] ∧ x = s.ev C p := by
  match l, h with
  | [p], h => simp only [AS.evs, List.cons.injEq, and_true] at h; exact ⟨p, rfl, h.symm⟩
  | [], h => simp [AS.evs] at h
  | _ :: _ :: _, h => simp [AS.evs] at h

theorem s_builtin {b : Builtin} {args : Array Operand} {ts : Array TypeId} (R : Rel E st g s a w) (hg : GlobOK C.gl st) (G : Good C) (ho : o.op = .call { callee := .builtin b, args := args, argTypes := ts }) :
    Snd C E st g s a w o (evBuiltin C s b ts.toList (s.evs C args.toList)) := by
  generalize hts : ts.toList = tl
  generalize hxs : s.evs C args.toList = xs
  have hts' : ts = tl.toArray := by rw [← hts]
  subst hts'
  have hbi : ∀ v : Value, (builtin b tl.toArray o.type (args.map fun | .const _ => true | _ => false) (args.toList.map a.eval).toArray).run C.P w = .ok (.value v) w → (execOp a.eval o).run C.P w = .ok (.value v) w := fun v h => by
    have he : args.map a.eval = (args.toList.map a.eval).toArray := by cases args; simp
    simp only [execOp, ho, resolve, invoke, Sem.run_bind, Sem.run_pure, Result.andThen_ok, he]
    exact h
  unfold evBuiltin
  split
  · -- len
    rename_i t x
    obtain ⟨p, hp, rfl⟩ := evs_one hxs
    have hx := ev_ok (C := C) R hg p
    rw [hp] at hbi
    split
    · rename_i n e hk
      have h3 := ((G.ti t).of (by rw [hk]; simp)).1
      rw [hk] at h3
      refine All.when fun hn => All.ret (OpOK.pure R (goInt n) w (hbi _ ?_) (SameW.refl w) (len_in (Nat.le_trans (Nat.le_of_ble_eq_true hn) lim_maxLen)))
      simp [builtin, Builtin.len_, run_underlying h3]
    · rename_i hk
      have h3 := ((G.ti t).of (by rw [hk]; simp)).1
      rw [hk] at h3
      split
      · rename_i p' he
        rw [he] at hx
        simp only [VR] at hx
        refine All.ret (OpOK.pure R (goInt p'.length) w (hbi _ ?_) (SameW.refl w) (len_in hx.2))
        have hpsz : (⟨p'.toArray⟩ : ByteArray).size = p'.length := by show p'.toArray.size = _; simp
        simp [builtin, Builtin.len_, run_underlying h3, hx.1, hpsz]
      · exact All.fail
    · rename_i e hk
      have h3 := ((G.ti t).of (by rw [hk]; simp)).1
      rw [hk] at h3
      split
      · rename_i c z l he
        rw [he] at hx
        simp only [VR] at hx
        obtain ⟨base, cap, hx, h1, h2, _⟩ := hx
        refine All.ret (OpOK.pure R (goInt l.length) w (hbi _ ?_) (SameW.refl w) (len_in h2))
        simp [builtin, Builtin.len_, run_underlying h3, hx]
      · rename_i i he
        rw [he] at hx
        simp only [VR] at hx
        split
        · rename_i sz pre l hs
          obtain ⟨hs1, _⟩ := getSg_eq hs (by simp)
          obtain ⟨q1, q2, q3, q4, q5, q6, q7⟩ := R.wr.ob i _ hs1
          refine All.ret (OpOK.pure R (goInt l.length) w (hbi _ ?_) (SameW.refl w) (len_in q4))
          simp [builtin, Builtin.len_, run_underlying h3, hx, q5]
        · exact All.fail
      · exact All.fail
    · exact All.fail
  · -- append
    rename_i t t2 x y
    obtain ⟨p, q, hp, rfl, rfl⟩ := evs_two hxs
    split
    · exact All.fail
    · exact All.fail
    · rename_i e hk hk2 hk3
      split
      · exact All.fail
      · rename_i hk4
        refine All.when fun hw => ?_
        simp only [Bool.and_eq_true, Bool.not_eq_true'] at hw
        obtain ⟨⟨⟨hw1, hw2⟩, hw3⟩, hw4⟩ := hw
        refine All.bind (elems_fn _ _) fun r hr => ?_
        have hr := elems_in (C := C) (x := q) R hg r (hr _ rfl)
        obtain ⟨sz, ys, rd⟩ := r
        refine All.when fun hsz => ?_
        have h3 := ((G.ti t).of (by rw [hk]; simp)).1
        rw [hk] at h3
        exact s_appendZ R hg G hp ho h3 (notInt G (fun k h => hk2 k h) (fun h => hk3 h)) (fun h => hk4 h) (Nat.le_of_ble_eq_true hw1) (Nat.le_of_ble_eq_true hw2) hr.1 hsz hw3 (Nat.eq_of_beq_eq_true hw4)
    · exact All.fail
  · -- copy
    rename_i t t2 x y
    obtain ⟨p, q, hp, rfl, rfl⟩ := evs_two hxs
    split
    · rename_i e i hk he
      split
      · exact All.fail
      · rename_i hk4
        split
        · rename_i sz0 l hs
          refine All.bind (elems_fn _ _) fun r hr => ?_
          have hr := elems_in (C := C) (x := q) R hg r (hr _ rfl)
          obtain ⟨sz, ys, rd⟩ := r
          refine All.when fun hw => All.ret ?_
          simp only [Bool.and_eq_true] at hw
          have h1 := Nat.eq_of_beq_eq_true hw.1.2
          subst h1
          exact s_copy R hg G hp ho hk (fun h => hk4 h) he hs hr.1 hw.1.1
        · exact All.fail
    · exact All.fail
  · -- delete
    rename_i t tl' m x
    obtain ⟨p, q, hp, rfl, rfl⟩ := evs_two hxs
    rw [hp] at hbi
    refine delete_all (ats := (t :: tl').toArray) (ty := o.type) R G (ev_ok (C := C) R hg p) (ev_ok (C := C) R hg q) (by simp) fun w' hw' => ?_
    have := ho
    simp only [execOp, ho, resolve, invoke, Sem.run_bind, Sem.run_pure, Result.andThen_ok]
    have he : args.map a.eval = #[a.eval p, a.eval q] := by
      have : args = #[p, q] := by apply Array.ext'; simpa using hp
      rw [this]; simp
    rw [he]
    simp only [builtin, Sem.run_bind, hw', Result.andThen_ok]
    rfl
  · rename_i k x k' y
    obtain ⟨p, q, hp, hx, hy⟩ := evs_two hxs
    have h1 := ev_ok (C := C) R hg p
    have h2 := ev_ok (C := C) R hg q
    rw [← hx] at h1; rw [← hy] at h2
    simp only [VR] at h1 h2
    refine All.when fun hk => All.ret ?_
    have hk := keq_iff.1 hk
    subst hk
    rw [hp] at hbi
    refine OpOK.pure R (.int k (if y > x then y else x)) w (hbi _ ?_) (SameW.refl w) (VR_int (by split <;> simp [h1, h2]))
    simp [builtin, Builtin.max_, Builtin.max2, h1.1, h2.1]
  · rename_i k x k' y
    obtain ⟨p, q, hp, hx, hy⟩ := evs_two hxs
    have h1 := ev_ok (C := C) R hg p
    have h2 := ev_ok (C := C) R hg q
    rw [← hx] at h1; rw [← hy] at h2
    simp only [VR] at h1 h2
    refine All.when fun hk => All.ret ?_
    have hk := keq_iff.1 hk
    subst hk
    rw [hp] at hbi
    refine OpOK.pure R (.int k (if y < x then y else x)) w (hbi _ ?_) (SameW.refl w) (VR_int (by split <;> simp [h1, h2]))
    simp [builtin, Builtin.min_, Builtin.min2, h1.1, h2.1]
  · exact All.fail

theorem s_iter {t : TypeId} {x : Operand} (R : Rel E st g s a w) (hg : GlobOK C.gl st) (G : Good C) (ho : o.op = .range t x) : Snd C E st g s a w o (evIter C s t x) := by
  unfold evIter
  have hx := ev_ok (C := C) R hg x
  split
  · rename_i p hk he
    rw [he] at hx
    simp only [VR] at hx
    have h3 := ((G.ti t).of (by rw [hk]; simp)).1
    rw [hk] at h3
    rw [forceN_eq]
    refine All.ret ?_
    refine OpOK.new R (.pointer (some ⟨w.heap.size, 0, none⟩)) w (SameW.refl w) ⟨some w.heap.size, none, 0, 0, 0⟩ (.stringIter ⟨p.toArray⟩ 0) ?_ (by simp) ?_ ?_
    · simp only [execOp, ho, hx.1]
      rw [Sem.run_bind, run_range_string w t _ h3]
      rfl
    · exact ⟨hx.2, w.heap.size, rfl, R.wr.gnew _ R.wr.size, heap_alloc_new⟩
    · simp only [VR, upd_same]
      exact ⟨by omega, w.heap.size, rfl, rfl⟩
  · exact s_iterM R hg G ho
  · exact All.fail

theorem s_next {x : Operand} {b : Bool} (R : Rel E st g s a w) (hg : GlobOK C.gl st) (ho : o.op = .next x b) : Snd C E st g s a w o (evNext C s x b) := by
  unfold evNext
  have hx := ev_ok (C := C) R hg x
  split
  · rename_i i he
    rw [he] at hx
    simp only [VR] at hx
    obtain ⟨hil, b, hb, hx⟩ := hx
    split
    · rename_i p pos hs
      obtain ⟨hs1, _⟩ := getSg_eq hs (by simp)
      obtain ⟨q1, b', q2, q3, q4⟩ := R.wr.ob i _ hs1
      rw [hb] at q2; cases q2
      have hpsz : (⟨p.toArray⟩ : ByteArray).size = p.length := by show p.toArray.size = _; simp
      refine All.brn (fun hlt => ?_) (fun hge => ?_)
      · have hlt : pos < p.length := by simpa using hlt
        refine All.opt fun c hc => All.req fun ha => All.ret ?_
        have hcv : p[pos] = c := by rw [List.getElem?_eq_getElem hlt] at hc; simpa using hc
        have hlt' : pos < (⟨p.toArray⟩ : ByteArray).size := by rw [hpsz]; exact hlt
        have hget : (⟨p.toArray⟩ : ByteArray)[pos]'hlt' = c := by rw [← hcv]; rfl
        have hdec := decode_ascii ⟨p.toArray⟩ pos hlt' (by rw [hget]; exact ha)
        rw [hget] at hdec
        have hug : upd g i (g i) = g := by funext j; by_cases e : j = i <;> simp [upd, e]
        refine OpOK.turn R hil (.tuple #[.bool true, goInt pos, .int .i32 c.toNat]) (putB w b (.stringIter ⟨p.toArray⟩ (pos + 1))) (g i) (.inl ?_)
          (Chg.putB q3 _ (fun b'' => by rw [hb]; simp [eq_comm]) (fun k v hv => ?_)) (.inl rfl) (fun b hb => .inl hb) ?_ ?_
        · simp only [execOp, ho, hx, Instr.next, getObj, setObj, Sem.run_bind, Sem.run, q4, Result.andThen, hlt', if_true, hdec]
          rfl
        · have := R.wr.stw _ _ _ hv
          simp only [World.cell?, q4] at this
          cases this
        · exact ⟨q1, b, hb, q3, putB_same q4⟩
        · simp only [VR]
          refine ⟨_, rfl, VRs_cons (by simp [VR]) (VRs_cons (len_in (n := pos) (by omega)) (VRs_cons ?_ VRs_nil))⟩
          have := byte_in c
          refine VR_int ⟨?_, ?_⟩ <;> simp [IntKind.min, IntKind.max, IntKind.signed, IntKind.bits] <;> omega
      · have hge : ¬ pos < (⟨p.toArray⟩ : ByteArray).size := by rw [hpsz]; simpa using hge
        refine All.ret (OpOK.pure R (.tuple #[.bool false]) w ?_ (SameW.refl w) ?_)
        · simp only [execOp, ho, hx, Instr.next, getObj, setObj, Sem.run_bind, Sem.run, q4, Result.andThen, hge, if_false]
          rfl
        · simp only [VR]
          exact ⟨_, rfl, VRs_cons (by simp [VR]) VRs_nil⟩
    · exact All.fail
  · exact All.fail
end
end Go.VG
