/-
  Structs of scalars are compared part by part.
-/
import Derived.Test.YtbeejnmeakcpjaaDoorVgMA
import Derived.DeepKeys
import Derived.DeepKeys4
import Derived.StringKeys
set_option linter.unusedSimpArgs false
set_option linter.unusedVariables false
namespace Go.VG
open Go
/-- the scalars of a type, one behind the other -/
def shFields (f : TypeId → Option (List Sc)) : List Field → Nat → Option (List Sc)
  | [], _ => some []
  | x :: xs, off => match Nat.beq x.offset off, f x.type with
    | true, some sh => match shFields f xs (off + sh.length) with
      | some r => some (sh ++ r)
      | none => none
    | _, _ => none
def shapeOf (P : Program) : Nat → TypeId → Option (List Sc)
  | 0, _ => none
  | d + 1, t => match P.underlying t with
    | some .bool => cond (Nat.beq 1 (P.cellsOf t)) (some [.kB]) none
    | some (.int q) => cond (Nat.beq 1 (P.cellsOf t)) (some [.kI q]) none
    | some .string => cond (Nat.beq 1 (P.cellsOf t)) (some [.kS]) none
    | some (.struct fs) => match fs.all (·.name != "_"), shFields (shapeOf P d) fs.toList 0 with
      | true, some sh => match Nat.beq sh.length (P.cellsOf t) with
        | true => some sh
        | false => none
      | _, _ => none
    | _ => none
def litV : V → Lit
  | .int k n => .int k n
  | .bool b => .bool b
  | .str s => .string s
  | _ => .bool false
theorem fitsL_len : ∀ {sh : List Sc} {cs : List V}, fitsL sh cs = true → sh.length = cs.length
  | [], [], _ => rfl
  | k :: ks, x :: xs, h => by
    simp only [fitsL, Bool.and_eq_true] at h
    simp [fitsL_len h.2]
  | [], _ :: _, h => by cases h
  | _ :: _, [], h => by cases h
theorem fitsL_app : ∀ {s1 s2 : List Sc} {cs : List V}, fitsL (s1 ++ s2) cs = true → fitsL s1 (cs.take s1.length) = true ∧ fitsL s2 (cs.drop s1.length) = true
  | [], _, cs, h => ⟨by cases cs <;> rfl, by simpa using h⟩
  | k :: ks, s2, [], h => by simp [fitsL] at h
  | k :: ks, s2, x :: xs, h => by
    simp only [List.cons_append, fitsL, Bool.and_eq_true] at h
    obtain ⟨a, b⟩ := fitsL_app h.2
    exact ⟨by simp [fitsL, h.1, a], by simpa using b⟩
variable {P : Program}
theorem keq_t {k k' : IntKind} (h : keq k k' = true) : k = k' := by cases k <;> cases k' <;> first | rfl | cases h
theorem wf_lit {k : IntKind} {n : Int} (h : k.min ≤ n ∧ n ≤ k.max) : (Lit.int k n).wf = true := by
  simp only [Lit.wf, Bool.and_eq_true, decide_eq_true_eq]; exact h
theorem fields_lits (D : Nat) (f : TypeId → Option (List Sc)) (hf : ∀ t sh, f t = some sh → sh.length = P.cellsOf t ∧ ∀ (st : St) (g : Ghost) (n : Nat) (cs : List V) (vs : List Value), fitsL sh cs = true → VRs st g cs n vs → P.keyLits D t vs = some (cs.map litV)) :
    ∀ (fs : List Field) (off : Nat) (sh : List Sc), shFields f fs off = some sh → ∀ (st : St) (g : Ghost) (n : Nat) (cs : List V) (vs : List Value), fitsL sh (cs.drop off) = true → VRs st g cs n vs → off ≤ cs.length →
    ∃ xs, fs.mapM (fun f => P.keyLits D f.type ((vs.drop f.offset).take (P.cellsOf f.type))) = some xs ∧ xs.flatten = (cs.drop off).map litV
  | [], off, sh, h, st, g, n, cs, vs, hfit, hv, ho => by
    simp only [shFields] at h
    cases h
    have := fitsL_len hfit
    simp at this
    refine ⟨[], by simp, ?_⟩
    rw [List.drop_eq_nil_of_le (by omega)]; rfl
  | x :: xs, off, sh, h, st, g, n, cs, vs, hfit, hv, ho => by
    simp only [shFields] at h
    split at h
    · rename_i s1 e1 e2
      split at h
      · rename_i r e3
        cases h
        have e1 := Nat.eq_of_beq_eq_true e1
        obtain ⟨q1, q2⟩ := hf _ _ e2
        obtain ⟨f1, f2⟩ := fitsL_app hfit
        have hl := fitsL_len hfit
        rw [List.length_append, List.length_drop] at hl
        have hv1 : VRs st g ((cs.drop off).take s1.length) n ((vs.drop off).take s1.length) := VRs_take (VRs_drop hv)
        have k1 := q2 st g n _ _ f1 hv1
        have f2' : fitsL r (cs.drop (off + s1.length)) = true := by rw [← List.drop_drop]; exact f2
        obtain ⟨ys, y1, y2⟩ := fields_lits D f hf xs (off + s1.length) r e3 st g n cs vs f2' hv (by omega)
        refine ⟨((cs.drop off).take s1.length).map litV :: ys, ?_, ?_⟩
        · rw [List.mapM_cons, e1, ← q1, k1, y1]; rfl
        · rw [List.flatten_cons, y2, ← List.map_append, ← List.drop_drop, List.take_append_drop]
      · cases h
    · cases h
theorem cond_some {b : Bool} {α : Type} {x y : α} (h : cond b (some x) none = some y) : b = true ∧ x = y := by cases b <;> simp_all
theorem shape_lits : ∀ (d : Nat) (t : TypeId) (sh : List Sc), shapeOf P d t = some sh → sh.length = P.cellsOf t ∧ ∀ (st : St) (g : Ghost) (n : Nat) (cs : List V) (vs : List Value), fitsL sh cs = true → VRs st g cs n vs → P.keyLits d t vs = some (cs.map litV)
  | 0, _, _, h => by simp [shapeOf] at h
  | d + 1, t, sh, h => by
    have one : ∀ {k : Sc} {cs : List V}, fitsL [k] cs = true → ∃ x, cs = [x] ∧ fits1 k x = true := fun {k cs} hf => by
      match cs, hf with
      | [x], hf => simp only [fitsL, Bool.and_true] at hf; exact ⟨x, rfl, hf⟩
      | [], hf => cases hf
      | x :: y :: r, hf => simp [fitsL] at hf
    have onev : ∀ {st : St} {g : Ghost} {n : Nat} {x : V} {vs : List Value}, VRs st g [x] n vs → ∃ v, vs = [v] ∧ VR st g x n v := fun {st g n x vs} hv => by
      simp only [VRs] at hv
      obtain ⟨u, us, rfl, h1, rfl⟩ := hv
      exact ⟨u, rfl, h1⟩
    simp only [shapeOf] at h
    split at h
    · rename_i hu
      obtain ⟨hb, rfl⟩ := cond_some h
      refine ⟨Nat.eq_of_beq_eq_true hb, fun st g n cs vs hf hv => ?_⟩
      obtain ⟨x, rfl, hx⟩ := one hf
      obtain ⟨v, rfl, hw⟩ := onev hv
      clear hv hf
      cases x <;> try (cases hx; done)
      simp only [VR] at hw
      subst hw
      simp [Program.keyLits, hu, litV]
    · rename_i q hu
      obtain ⟨hb, rfl⟩ := cond_some h
      refine ⟨Nat.eq_of_beq_eq_true hb, fun st g n cs vs hf hv => ?_⟩
      obtain ⟨x, rfl, hx⟩ := one hf
      obtain ⟨v, rfl, hw⟩ := onev hv
      clear hv hf
      cases x <;> try (cases hx; done)
      have hx := keq_t hx
      subst hx
      simp only [VR] at hw
      obtain ⟨rfl, hw⟩ := hw
      simp [Program.keyLits, hu, litV, wf_lit hw]
    · rename_i hu
      obtain ⟨hb, rfl⟩ := cond_some h
      refine ⟨Nat.eq_of_beq_eq_true hb, fun st g n cs vs hf hv => ?_⟩
      obtain ⟨x, rfl, hx⟩ := one hf
      obtain ⟨v, rfl, hw⟩ := onev hv
      clear hv hf
      cases x <;> try (cases hx; done)
      simp only [VR] at hw
      obtain ⟨rfl, hw⟩ := hw
      rename_i s
      have hsz : (⟨s.toArray⟩ : ByteArray).size = s.length := by show s.toArray.size = _; simp
      simp [Program.keyLits, hu, litV, hsz, hw]
    · rename_i fs hu
      split at h
      · rename_i sh' ha hsf
        split at h
        · rename_i hb
          cases h
          refine ⟨Nat.eq_of_beq_eq_true hb, fun st g n cs vs hf hv => ?_⟩
          obtain ⟨xs, x1, x2⟩ := fields_lits d (shapeOf P d) (fun t sh h => shape_lits d t sh h) fs.toList 0 sh hsf st g n cs vs (by simpa using hf) hv (Nat.zero_le _)
          have hlen : vs.length = P.cellsOf t := by rw [← VRs_length hv, ← fitsL_len hf]; exact Nat.eq_of_beq_eq_true hb
          unfold Program.keyLits
          simp only [hu]
          rw [if_pos ⟨hlen, ha⟩, x1]
          simp [x2]
        · cases h
      · cases h
    · cases h
theorem eqs_lits : ∀ {sh : List Sc} {cs ds : List V} {r : Bool}, sh ≠ [] → fitsL sh cs = true → fitsL sh ds = true → eqs cs ds = some r → (r = true ↔ cs.map litV = ds.map litV) := by
  have e1 : ∀ {k : Sc} {x y : V} {r : Bool}, fits1 k x = true → fits1 k y = true → eq1 x y = some r → (r = true ↔ litV x = litV y) := fun {k x y r} hx hy h => by
    cases k <;> cases x <;> simp only [fits1, Bool.false_eq_true] at hx <;> cases y <;> simp only [fits1, Bool.false_eq_true] at hy
    · simp only [eq1, Option.some.injEq] at h; subst h; simp [litV]
    · have hx := keq_t hx
      have hy := keq_t hy
      subst hx; subst hy
      simp only [eq1] at h
      obtain ⟨_, rfl⟩ := cond_some h
      simp [litV]
    · simp only [eq1, Option.some.injEq] at h; subst h; simp [litV]
  intro sh
  induction sh with
  | nil => intro cs ds r h; exact absurd rfl h
  | cons k ks ih =>
    intro cs ds r _ hc hd h
    match cs, ds, hc, hd with
    | [], _, hc, _ => cases hc
    | _ :: _, [], _, hd => cases hd
    | x :: xs, y :: ys, hc, hd =>
      simp only [fitsL, Bool.and_eq_true] at hc hd
      by_cases hk : ks = []
      · subst hk
        have l1 := fitsL_len hc.2
        have l2 := fitsL_len hd.2
        obtain rfl : xs = [] := List.eq_nil_of_length_eq_zero l1.symm
        obtain rfl : ys = [] := List.eq_nil_of_length_eq_zero l2.symm
        simp only [eqs] at h
        rw [e1 hc.1 hd.1 h]; simp
      · have hxs : xs ≠ [] := fun e => hk (by subst e; exact List.eq_nil_of_length_eq_zero (fitsL_len hc.2))
        have h : (match eq1 x y, eqs xs ys with
          | some a, some b => some (a && b)
          | _, _ => none) = some r := by
          cases xs with
          | nil => exact absurd rfl hxs
          | cons x2 xr =>
            cases ys with
            | nil => have := fitsL_len hd.2; have := fitsL_len hc.2; simp_all
            | cons y2 yr => exact h
        split at h
        · rename_i a b ha hb
          cases h
          rw [Bool.and_eq_true, e1 hc.1 hd.1 ha, ih hk hc.2 hd.2 hb]; simp
        · cases h
theorem feq_of {t : TypeId} {sh : List Sc} (hne : sh ≠ []) (h1 : shapeOf P 8 t = some sh) (h2 : P.keyTypeAt 8 t = true) (h3 : P.eqGuardType P.depth t = false) (h4 : (match P.underlying t with | some (.struct _) => true | _ => false) = true) : FeqOK P t sh := by
  intro st g n cs ds r a b w hc hd he hl ha hb
  obtain ⟨q1, q2⟩ := shape_lits 8 t sh h1
  have k1 := q2 st g n cs _ hc ha
  have k2 := q2 st g n ds _ hd hb
  have fm : ∀ (x : Array Value), x.toList.length = P.cellsOf t → (Value.agg x).formed P t = true := fun x hx => by
    split at h4
    · rename_i fs hu; simp at hx; simp [Value.formed, hu, hx]
    · cases h4
  obtain ⟨r', e1, e2⟩ := run_equalIn_deep (P := P) 9992 8 t h2 w 8 8 (.agg a) (.agg b) _ _ (fm a (by rw [← VRs_length ha, ← fitsL_len hc]; exact q1)) (fm b (by rw [← VRs_length hb, ← fitsL_len hd]; exact q1)) k1 k2
  have e3 := eqs_lits hne hc hd he
  have : r' = r := by
    cases r <;> cases r' <;> simp_all
  subst this
  exact ⟨e1, h3⟩
/-! keys of maps -/
theorem VRs_vals {st : St} {g : Ghost} {n : Nat} : ∀ {sh : List Sc} {cs : List V}, fitsL sh cs = true → (∀ c ∈ cs, ok1 c) → VRs st g cs n (cs.map val1)
  | _, [], _, _ => VRs_nil
  | [], _ :: _, h, _ => by cases h
  | k :: ks, c :: cs, h, ho => by
    simp only [fitsL, Bool.and_eq_true] at h
    refine VRs_cons ?_ (VRs_vals h.2 fun d hd => ho d (List.mem_cons_of_mem _ hd))
    have h1 := ho c (List.mem_cons_self ..)
    have h0 := h.1
    cases k <;> cases c <;> simp only [fits1, Bool.false_eq_true] at h0
    · simp [VR, val1]
    · simp only [VR, val1]; exact ⟨trivial, h1⟩
    · simp only [VR, val1]; exact ⟨trivial, h1⟩
theorem key_str {P : Program} {k : TypeId} (h : P.underlying k = some .string) : KeyOK P k [.kS] := by
  refine ⟨WideMaps.string_law h, fun x hx ho => ?_⟩
  have ha : aggOf P k = false := by unfold aggOf; rw [h]
  rw [ha] at hx
  rcases fitsK_cases hx with ⟨_, _, h0, _⟩ | ⟨k', _, e, h1, h2, h3⟩
  · cases h0
  · cases e
    cases x <;> simp only [fits1, Bool.false_eq_true] at h1
    rename_i s
    have hl : s.length ≤ maxLen := h3.1 ho
    rw [h2]
    exact ⟨_, WideMaps.keyOf_string_mk h (s := ⟨s.toArray⟩) (by show s.toArray.size ≤ _; simpa using hl)⟩
theorem key_struct {P : Program} {k : TypeId} {sh : List Sc} (h1 : shapeOf P (P.types.size + 1) k = some sh) (m : Nat) (hm : m + 1 ≤ 10000) (hk : P.keyTypeAt m k = true) (ht : P.tiled m k = true) (hkt : P.keyType k = true)
    (h4 : (match P.underlying k with | some (.struct _) => true | _ => false) = true) : KeyOK P k sh := by
  have hw : (match P.underlying k with | some (.array _ _) | some (.struct _) => true | _ => false) = true := by
    split at h4
    · rename_i fs hu; rw [hu]
    · cases h4
  refine ⟨deep_law hm hk ht hw, fun x hx ho => ?_⟩
  have ha : aggOf P k = true := by
    unfold aggOf
    split at h4
    · rename_i fs hu; rw [hu]
    · cases h4
  rw [ha] at hx
  rcases fitsK_cases hx with ⟨cs, rfl, _, hf⟩ | ⟨_, h0, _⟩
  · obtain ⟨q1, q2⟩ := shape_lits _ k sh h1
    have hv := VRs_vals (st := fun _ _ => none) (g := fun _ => ⟨none, none, 0, 0, 0⟩) (n := 0) hf ho
    have k1 := q2 _ _ _ cs _ hf hv
    have fm : (valK (.agg cs)).formed P k = true := by
      have hl : cs.length = P.cellsOf k := by rw [← fitsL_len hf]; exact q1
      split at h4
      · rename_i fs hu; simp [valK, Value.formed, hu, hl]
      · cases h4
    have hc : (valK (.agg cs)).cells.toList = cs.map val1 := by simp [valK, Value.cells]
    refine ⟨.string (keyBytes (cs.map litV)), ?_⟩
    unfold keyOf
    split at h4
    · rename_i fs hu
      rw [hu]
      simp only [hkt, fm, Bool.and_self, if_true, hc, k1]
      rfl
    · cases h4
  · cases h0
end Go.VG
