/-
  A law's row out of what is known of its function: what comes in, as values; what goes out.
-/
import Derived.Test.YtbeejnmeakcpjaaDoorVgX
import Derived.Deep.DeepHandedRow
import Derived.LaidLaws
import Derived.Below
import Derived.Carry
import Derived.ChangeSame
import Derived.ProofKit
set_option linter.unusedSimpArgs false
set_option linter.unusedVariables false
namespace Go.VG
open Go Go.RowKit Go.WideShapes Go.ChangeShapes

/-! zero values -/
theorem zInt {k : IntKind} (st : St) (g : Ghost) (n : Nat) : VR st g (.int k 0) n (.int k 0) := by
  simp only [VR]; refine ⟨trivial, ?_⟩; cases k <;> decide
theorem zStr (st : St) (g : Ghost) (n : Nat) : VR st g (.str []) n (.string ⟨#[]⟩) := by simp [VR]
theorem zBool {b : Bool} (st : St) (g : Ghost) (n : Nat) : VR st g (.bool b) n (.bool b) := by simp [VR]
theorem zPtr (st : St) (g : Ghost) (n : Nat) : VR st g .nilptr n (.pointer none) := by simp [VR]
theorem zMap (st : St) (g : Ghost) (n : Nat) : VR st g .nilmap n (.map none) := by simp [VR]
theorem zIface (st : St) (g : Ghost) (n : Nat) : VR st g .nilIface n .nilIface := by simp [VR]
theorem zFunc (st : St) (g : Ghost) (n : Nat) : VR st g .nilFunc n .nilFunc := by simp [VR]
theorem zList (st : St) (g : Ghost) (n : Nat) : VR st g (.list true 0 []) n (.slice none 0 0) := by simp [VR]
theorem zNil (st : St) (g : Ghost) (n : Nat) : VRs st g [] n [] := VRs_nil
theorem zCons {x : V} {xs : List V} {v : Value} {vs : List Value} (h : ∀ (st : St) (g : Ghost) (n : Nat), VR st g x n v) (hs : ∀ (st : St) (g : Ghost) (n : Nat), VRs st g xs n vs) (st : St) (g : Ghost) (n : Nat) : VRs st g (x :: xs) n (v :: vs) := VRs_cons (h st g n) (hs st g n)
theorem zAgg {xs : List V} {vs : Array Value} (h : ∀ (st : St) (g : Ghost) (n : Nat), VRs st g xs n vs.toList) (st : St) (g : Ghost) (n : Nat) : VR st g (.agg xs) n (.agg vs) := by
  simp only [VR]; exact ⟨vs, rfl, h st g n⟩

section
variable {H : Type} {ti : TypeId → TI}

theorem cellsD_up : ∀ {f : Nat} {t : TypeId} {d : DataW H} {xs : List V}, cellsD ti f t d = some xs → cellsD ti (f + 1) t d = some xs := by
  intro f
  induction f with
  | zero => intro t d xs h; simp [cellsD] at h
  | succ f ih =>
    intro t d xs h
    have hm : ∀ {α : Type} {l : List α} {r : List (List V)} (k : α → TypeId × DataW H), l.mapM (fun x => cellsD ti f (k x).1 (k x).2) = some r → l.mapM (fun x => cellsD ti (f + 1) (k x).1 (k x).2) = some r := by
      intro α l
      induction l with
      | nil => intro r k h; simpa using h
      | cons x l ihl =>
        intro r k h
        rw [List.mapM_cons] at h ⊢
        cases hx : cellsD ti f (k x).1 (k x).2 with
        | none => rw [hx] at h; simp at h
        | some y =>
          rw [hx] at h
          cases hl : l.mapM (fun x => cellsD ti f (k x).1 (k x).2) with
          | none => rw [hl] at h; simp at h
          | some ys =>
            rw [hl] at h
            rw [ih hx, ihl k hl]; exact h
    have hm' : ∀ {e : TypeId} {b : Bool} {l : List (DataW H)} {r : List V}, l.mapM (fun x => (cellsD ti f e x).bind (asV b)) = some r → l.mapM (fun x => (cellsD ti (f + 1) e x).bind (asV b)) = some r := by
      intro e b l
      induction l with
      | nil => intro r h; simpa using h
      | cons x l ihl =>
        intro r h
        rw [List.mapM_cons] at h ⊢
        cases hx : cellsD ti f e x with
        | none => rw [hx] at h; simp at h
        | some y =>
          rw [hx] at h
          simp only [Option.bind_some] at h
          cases hy : asV b y with
          | none => rw [hy] at h; simp at h
          | some z =>
            rw [hy] at h
            cases hl : l.mapM (fun x => (cellsD ti f e x).bind (asV b)) with
            | none => rw [hl] at h; simp at h
            | some ys =>
              rw [hl] at h
              rw [ih hx, Option.bind_some, hy, ihl hl]; exact h
    unfold cellsD at h
    unfold cellsD
    split at h <;> try simp_all only []
    all_goals (first
      | exact h
      | (cases hb : Nat.beq _ _ with
         | false => rw [hb] at h; cases h
         | true =>
           rw [hb] at h
           simp only [cond_true, Option.map_eq_some_iff] at h ⊢
           obtain ⟨l, h1, h2⟩ := h
           first
             | exact ⟨l, hm (fun x : DataW H => (_, x)) h1, h2⟩
             | exact ⟨l, hm (fun x : (Nat × TypeId) × DataW H => (x.1.2, x.2)) h1, h2⟩)
      | (simp only [Option.map_eq_some_iff] at h ⊢
         obtain ⟨l, h1, h2⟩ := h
         first
           | exact ⟨l, hm' h1, h2⟩
           | exact ⟨l, hm (fun x : DataW H => (_, x)) h1, h2⟩
           | exact ⟨l, hm (fun x : (Nat × TypeId) × DataW H => (x.1.2, x.2)) h1, h2⟩
           | exact ⟨l, ih h1, h2⟩)
      | cases h)
theorem cellsD_le {f f' : Nat} (h : f ≤ f') {t : TypeId} {d : DataW H} {xs : List V} (hx : cellsD ti f t d = some xs) : cellsD ti f' t d = some xs := by
  induction h with
  | refl => exact hx
  | step _ ih => exact cellsD_up ih
theorem cellsD_fn {f f' : Nat} {t : TypeId} {d : DataW H} {xs ys : List V} (hx : cellsD ti f t d = some xs) (hy : cellsD ti f' t d = some ys) : xs = ys := by
  have h1 := cellsD_le (Nat.le_max_left f f') hx
  have h2 := cellsD_le (Nat.le_max_right f f') hy
  rw [h1] at h2; exact Option.some.inj h2

/-- a datum, as a value -/
def IsD (ti : TypeId → TI) (t : TypeId) (d : DataW H) (x : V) : Prop := ∃ f, (cellsD ti f t d).bind (asV (ti t).k.isAgg) = some x
def AreD (ti : TypeId → TI) : List TypeId → List (DataW H) → List V → Prop
  | [], [], [] => True
  | t :: ts, d :: ds, x :: xs => IsD ti t d x ∧ AreD ti ts ds xs
  | _, _, _ => False

variable {P : Program} {S : TypeId → Bool} {enc : TypeId × Value → H} {st : St} {g : Ghost} {w : World}
theorem trod_one (D : DataOK P ti S) (hst : ∀ b o, st b o = w.cell? ⟨b, o, none⟩) {t : TypeId} {v : Value} {d : DataW H} {ps : List MemPlace} {base : Nat} (hS : S t = true) (hok : Value.okWide P w .any base t v)
    (h : DataW.Trod enc P w 0 (fun _ => true) true t v d ps) : ∃ x, IsD ti t d x ∧ VR st g x 0 v := by
  obtain ⟨fuel, h⟩ := h
  obtain ⟨xs, h1, h2, h3⟩ := trod_VR (g := g) D hst fuel t _ d ps hS h
  have hk := kidsOk_known (D.kids t hS)
  have hu := ((D.tys t).of hk).1
  have hkid := D.kids t hS
  obtain ⟨x, hx⟩ := asV_of_cells (agg := (ti t).k.isAgg) (fun hna => cellsD_one hna h1)
  refine ⟨x, ⟨fuel, by rw [h1]; exact hx⟩, ?_⟩
  obtain ⟨u, k1, k2⟩ := asV_spec hx h2 h3
  cases hkk : (ti t).k <;> rw [hkk] at hu hkid hx <;> simp only [kidsOk] at hkid <;> try (cases hkid; done)
  case struct fs =>
    obtain ⟨fields, hu, _⟩ := hu
    simp only [Value.okWide, hu] at hok
    obtain ⟨cs, rfl, _⟩ := hok
    simp only [asV, TK.isAgg, Option.some.injEq] at hx
    subst hx
    simp only [VR]
    exact ⟨cs, rfl, by simpa [Value.cells] using h2⟩
  case array n e =>
    simp only [Value.okWide, show P.underlying t = _ from hu] at hok
    obtain ⟨cs, rfl, _⟩ := hok
    simp only [asV, TK.isAgg, Option.some.injEq] at hx
    subst hx
    simp only [VR]
    exact ⟨cs, rfl, by simpa [Value.cells] using h2⟩
  all_goals
    simp only [Value.okWide, show P.underlying t = _ from hu, Cell.okWide, Cell.ok] at hok
    match xs, hx, h2 with
    | [y], hx, h2 =>
      simp only [asV, TK.isAgg, Option.some.injEq] at hx
      subst hx
      cases v <;> first
        | (simp [Value.cells, VRs] at h2; exact h2)
        | (simp at hok; done)

theorem trodAll_VR (D : DataOK P ti S) (hst : ∀ b o, st b o = w.cell? ⟨b, o, none⟩) {base : Nat} : ∀ (ts : List TypeId) (vs : List Value) (ds : List (DataW H)) (ps : List MemPlace), (∀ t ∈ ts, S t = true) →
    (∀ (j : Nat) t v, ts[j]? = some t → vs[j]? = some v → Value.okWide P w .any base t v) →
    DataW.TrodAll enc P w 0 (fun _ => true) true ts vs ds ps → ∃ xs, AreD ti ts ds xs ∧ VRs st g xs 0 vs
  | [], [], [], _, _, _, _ => ⟨[], trivial, VRs_nil⟩
  | t :: ts, v :: vs, d :: ds, ps, hS, hok, h => by
    obtain ⟨p, q, h1, h2, _⟩ := h
    obtain ⟨x, h3, h4⟩ := trod_one (g := g) D hst (hS t (by simp)) (hok 0 t v rfl rfl) h1
    obtain ⟨xs, h5, h6⟩ := trodAll_VR D hst ts vs ds q (fun t ht => hS t (by simp [ht])) (fun j t v a b => hok (j + 1) t v (by simpa using a) (by simpa using b)) h2
    exact ⟨x :: xs, ⟨h3, h5⟩, VRs_cons h4 h6⟩
  | [], [], _ :: _, _, _, _, h => h.elim
  | [], _ :: _, _, _, _, _, h => by simp [DataW.TrodAll] at h
  | _ :: _, [], _, _, _, _, h => by simp [DataW.TrodAll] at h
  | _ :: _, _ :: _, [], _, _, _, h => by simp [DataW.TrodAll] at h

theorem trodAll_stays (hl : laidOutB P = true) {W W' : World} (hb : Below W.heap.size W W') {sp : Nat → Bool} : ∀ (ts : List TypeId) (vs : List Value) (ds : List (DataW H)) (ps : List MemPlace),
    (∀ t ∈ ts, P.readableRec t = true ∧ t < P.types.size) → (∀ p ∈ ps, p.block < W.heap.size) → (∀ p ∈ ps, sp p.block = true) →
    DataW.TrodAll enc P W 0 (fun _ => true) true ts vs ds ps → DataW.TrodAll enc P W' 0 sp true ts vs ds ps
  | [], [], [], _, _, _, _, h => h
  | t :: ts, v :: vs, d :: ds, ps, hr, hlt, hs, h => by
    obtain ⟨p, q, h1, h2, rfl⟩ := h
    refine ⟨p, q, WideElems.Trod_stays hl (hr t (by simp)).1 (hr t (by simp)).2 h1 (fun x hx => hb.same (hlt x (by simp [hx]))) (fun x hx => hs x (by simp [hx])),
      trodAll_stays hl hb ts vs ds q (fun t ht => hr t (by simp [ht])) (fun p hp => hlt p (by simp [hp])) (fun p hp => hs p (by simp [hp])) h2, rfl⟩
  | [], [], _ :: _, _, _, _, _, h => h.elim
  | [], _ :: _, _, _, _, _, _, h => by simp [DataW.TrodAll] at h
  | _ :: _, [], _, _, _, _, _, h => by simp [DataW.TrodAll] at h
  | _ :: _, _ :: _, [], _, _, _, _, h => by simp [DataW.TrodAll] at h

theorem post_of_below {f : Func} {s : ChangeSpec} {apart fresh handsOn again : Bool} {W W' : World} {args : Array Value} {v : Value} {ds gs : List (DataW H)} {before pa pv : List MemPlace}
    (hW : DataW.Whole enc P f.params.toList s.vars apart W args.toList ds gs before)
    (hres : ∀ (b : Nat) (sp : Nat → Bool) (hd : Bool), DataW.TrodAll enc P W' b sp hd f.resultTypes.toList (v.resultList f.resultTypes.size) (s.fn H (ds ++ gs)).results [])
    (hargs : ∀ sp : Nat → Bool, (∀ p ∈ before, sp p.block = true) → DataW.TrodAll enc P W' 0 sp true f.params.toList args.toList (s.fn H (ds ++ gs)).args pa)
    (hvars : ∀ sp : Nat → Bool, (∀ p ∈ before, sp p.block = true) → DataW.TrodVars enc P W' sp s.vars (s.fn H (ds ++ gs)).vars pv)
    (hps : before = pa ++ pv) (hb : Below W.heap.size W W')
    (hok : ∀ (j : Nat) (t : TypeId) (r : Value), f.resultTypes[j]? = some t → (v.resultList f.resultTypes.size)[j]? = some r → Value.okWide P W' .any 0 t r) :
    s.post enc P f apart fresh handsOn again W args v W' := by
  have hlt : ∀ p ∈ before, p.block < W.heap.size := fun p hp => hW.lt p hp
  have hold : ∀ p ∈ before, (fun b => decide (b < W.heap.size)) p.block = true := fun p hp => by simpa using hlt p hp
  refine ⟨ds, gs, before, [], pa, pv, hW, hres _ _ _, hargs _ hold, hvars _ hold, World.keptBut_mono (fun p hp => ⟨hp, ?_⟩) (hb.frame (· ∈ before)), fun _ => ?_⟩
  · rw [hps, List.mem_append] at hp
    exact Or.inr hp
  · obtain ⟨_, _, _, _, _, hz, hn⟩ := hW
    refine ⟨hok, _, _, ([] ++ pa) ++ pv, ⟨[] ++ pa, pv, trodAll_append (hargs _ (fun _ _ => rfl)) (hres _ _ _), hvars _ (fun _ _ => rfl), rfl, ?_, ?_⟩, ?_⟩
    · intro b off hp
      have hin : MemPlace.cell b off ∈ before := by rw [hps]; simpa using hp
      rw [hb.frozen (hlt _ hin)]
      exact hz b off hin
    · intro ha
      have := hn ha
      rw [hps] at this
      simpa using this
    · intro p hp _
      rw [hps]
      simpa using hp

/-- what the row lists of variables -/
def GlOf (P : Program) (ti : TypeId → TI) (S : TypeId → Bool) (laid : List (String × DataW Unit)) (gl : Nat → Option (List V)) : Prop :=
  ∀ b cs, gl b = some cs → ∃ n d t f, (n, d) ∈ laid ∧ d.handleName? = none ∧ P.globalNamed n = some b ∧ (P.globals[b]?).map (·.type) = some t ∧ S t = true ∧ cellsD ti f t d = some cs

theorem laidVars_mem {n : String} {d : DataW Unit} : ∀ {laid : List (String × DataW Unit)} {ps : List MemPlace}, DataW.LaidVars P w laid ps → (n, d) ∈ laid →
    ∃ g t cs fuel p, P.globalNamed n = some g ∧ (P.globals[g]?).map (·.type) = some t ∧ w.var? P n = some cs ∧ DataW.trod (fun _ => ()) P w 0 (fun _ => true) false fuel t cs.toList = some (d, p)
  | (n', d') :: r, ps, h, hm => by
    obtain ⟨g, t, cs, fuel, p, q, h1, h2, h3, h4, h5, _⟩ := h
    rcases List.mem_cons.1 hm with e | hm
    · cases e; exact ⟨g, t, cs, fuel, p, h1, h2, h3, h4⟩
    · exact laidVars_mem h5 hm

theorem globOK_of_laid (D : DataOK P ti S) {laid : List (String × DataW Unit)} {gl : Nat → Option (List V)} (hgl : GlOf P ti S laid gl) (hst : ∀ b o, st b o = w.cell? ⟨b, o, none⟩) (h : laidMetH P laid w) : GlobOK gl st := by
  intro b cs hb g
  obtain ⟨n, d, t, f, h1, h2, h3, h4, h5, h6⟩ := hgl b cs hb
  have : ∃ laid' ps, DataW.LaidVars P w laid' ps ∧ (n, d) ∈ laid' := by
    unfold laidMetH at h
    split at h
    · obtain ⟨ps, h, _⟩ := h; exact ⟨_, ps, h, h1⟩
    · obtain ⟨⟨ps, h, _⟩, _⟩ := h; exact ⟨_, ps, h, by simp [h1, h2]⟩
  obtain ⟨laid', ps, h7, h8⟩ := this
  obtain ⟨g', t', vs, fuel, p, k1, k2, k3, k4⟩ := laidVars_mem h7 h8
  obtain rfl := Option.some.inj (k1.symm.trans h3)
  obtain rfl := Option.some.inj (k2.symm.trans h4)
  obtain ⟨xs, q1, q2, _⟩ := trod_VR (g := g) D hst fuel _ _ d p h5 k4
  obtain rfl := cellsD_fn q1 h6
  refine ⟨vs.toList, q2, fun j hj => ?_⟩
  rw [hst, World.var?_cell h3 k3]
  simp

/-- THE CONTRACT OF A LAW. -/
theorem law_contract {f : FuncId} {fn : Func} {s : ChangeSpec} {apart fresh handsOn again : Bool} {laid : List (String × DataW Unit)} {gl : Nat → Option (List V)} {bt : TypeId} (D : DataOK P ti S) (hl : laidOutB P = true)
    (hts : ∀ t ∈ fn.params.toList, S t = true ∧ P.readableRec t = true ∧ t < P.types.size) (hvars : s.vars = []) (hrt : fn.resultTypes = #[bt]) (hbt : P.underlying bt = some .bool) (hgl : GlOf P ti S laid gl)
    {W : World} {base : Nat} {args : Array Value} {ds gs : List (DataW H)} {before : List MemPlace}
    (hval : ∀ (j : Nat) t v, fn.params[j]? = some t → args[j]? = some v → Value.okWide P W .any base t v)
    (hW : DataW.Whole enc P fn.params.toList s.vars apart W args.toList ds gs before) (hL : laidMetH P laid W)
    (hfn : ds.length = fn.params.size → s.fn H ds = { results := [.lit (.bool true)], args := ds })
    (hfun : ∀ xs, AreD ti fn.params.toList ds xs → FunOK P gl f xs [] (.bool true) none) :
    Calls P f args W fun e W' => ∃ v, e = .returned v ∧ s.post enc P fn apart fresh handsOn again W args v W' := by
  have hW' := hW
  obtain ⟨p, q, hA, hV, rfl, hfz, hnd⟩ := hW'
  rw [hvars] at hV
  obtain ⟨rfl, rfl⟩ := trodVars_none hV
  obtain ⟨xs, h1, h2⟩ := trodAll_VR (st := fun b o => W.cell? ⟨b, o, none⟩) (g := fun _ => ⟨none, none, 0, 0, 0⟩) D (fun _ _ => rfl) fn.params.toList args.toList ds p (fun t ht => (hts t ht).1)
    (fun j t v a b => hval j t v (by simpa using a) (by simpa using b)) hA
  have hlen : ds.length = fn.params.size := by
    have : ∀ (ts : List TypeId) (ds : List (DataW H)) (xs : List V), AreD ti ts ds xs → ds.length = ts.length := by
      intro ts
      induction ts with
      | nil => intro ds xs h; cases ds <;> cases xs <;> simp_all [AreD]
      | cons t ts ih => intro ds xs h; cases ds <;> cases xs <;> simp_all [AreD]; exact ih _ _ h.2
    simpa using this _ _ _ h1
  obtain ⟨_, hc⟩ := hfun xs h1
  have wr : WRel ⟨fun b => W.heap.size ≤ b, W, fun b o => W.cell? ⟨b, o, none⟩, []⟩ (fun b o => W.cell? ⟨b, o, none⟩) (fun _ => (⟨none, none, 0, 0, 0⟩ : Gh)) [] W :=
    { os := rfl, tape := rfl, output := rfl, size := Nat.le_refl _, gnew := fun _ h => h, sub := fun _ _ _ h => h, stG := fun _ _ _ h => .inl h, stw := fun _ _ _ h => h, fr := fun _ _ => rfl,
      ob := fun i o h => by simp at h, inj := fun i j b h => by simp at h }
  have := hc _ _ _ W args.toList wr (globOK_of_laid D hgl (fun _ _ => rfl) hL) (by simpa using h2)
  rw [show args.toList.toArray = args from rfl] at this
  refine this.mono fun e W' hk => ?_
  obtain ⟨v, st', g', rfl, wr', hv, _⟩ := hk
  simp only [VR] at hv
  subst hv
  have hb : Below W.heap.size W W' := ⟨wr'.os, wr'.tape, wr'.output, wr'.size, fun k hk => wr'.fr k (by show ¬ W.heap.size ≤ k; omega)⟩
  have hlt : ∀ x ∈ p ++ [], x.block < W.heap.size := fun x hx => hW.lt x hx
  refine ⟨_, rfl, post_of_below (pa := p) (pv := []) hW ?_ (fun sp hs => ?_) (fun sp hs => ?_) rfl hb (ok_one hrt rfl (okWide_bool_mk hbt _))⟩
  · intro b sp hd
    rw [List.append_nil, hfn hlen, hrt]
    exact ⟨[], [], ⟨1, by simp [DataW.trod, hbt, Value.cells]⟩, rfl, rfl⟩
  · rw [List.append_nil, hfn hlen]
    exact trodAll_stays hl hb _ _ _ _ (fun t ht => (hts t ht).2) (fun x hx => hlt x (by simpa using hx)) (fun x hx => hs x (by simpa using hx)) hA
  · rw [List.append_nil, hfn hlen, hvars]
    rfl
end
end Go.VG
